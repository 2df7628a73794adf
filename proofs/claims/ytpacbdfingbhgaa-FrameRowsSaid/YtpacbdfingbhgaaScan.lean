/- The walks of frame.Scan and the reference's Scan: the frames that bytes begin with. No condition. -/
import Derived.Test.YtpacbdfingbhgaaScanPlain
import Derived.Test.YtpacbdfingbhgaaLists
namespace Go.Proofs.Ytpacbdfingbhgaa
open Go.RowKit
set_option linter.unusedVariables false

/-- What Scan hands back: fresh rows, a count, a kind. -/
def RetScan (B : Nat) (w : World) (l : List UInt8) (e : Ending) (w' : World) : Prop :=
  ∃ A c vs, e = .returned (.tuple #[.slice A (scanL l).1.length c, .int .i64 (scanL l).2.1, .int .i64 (scanL l).2.2]) ∧ w'.ownsRow B 22 1 (.slice A (scanL l).1.length c) (scanL l).1.length vs ∧ OwnAll w' B vs (scanL l).1 ∧ Below B w w'
theorem ret_scan {B : Nat} {w w' : World} {l : List UInt8} {ls : List (List UInt8)} {n k : Nat} {v : Value} {vs : List Value} {y z : Int} (h : scanL l = (ls, n, k)) (hy : y = n) (hz : z = k)
    (ho : w'.ownsRow B 22 1 v ls.length vs) (ha : OwnAll w' B vs ls) (hb : Below B w w') : RetScan B w l (.returned (.tuple #[v, .int .i64 y, .int .i64 z])) w' := by
  unfold RetScan
  rw [h]
  subst hy hz
  obtain ⟨A, c, rfl, _⟩ := Owns.form (.inl ho)
  exact ⟨A, c, vs, rfl, ho, ha, hb⟩
theorem RetNext.eq {B : Nat} {w w' : World} {l p : List UInt8} {m k : Nat} {e : Ending} (h : RetNext B w l e w') (hN : nextL l = (p, m, k)) :
    ∃ A c, e = .returned (.tuple #[.slice A p.length c, .int .i64 m, .int .i64 k]) ∧ w'.ownsRow B 5 1 (.slice A p.length c) p.length (bc p) ∧ Below B w w' := by
  unfold RetNext at h
  rw [hN] at h
  exact h
theorem Reads.tail {w : World} {B n c b off at' : Nat} {l : List UInt8} (h : Reads w B 1 (some ⟨b, off, none⟩) n (bc l)) (hc : n ≤ c) (ha : at' < n) :
    Reads w B 1 (some ⟨b, off + at', none⟩) (n - at') (bc (l.drop at')) := by
  have h1 := h.cut (k := at') (by omega) hc
  rw [if_neg (by omega), Option.map_some, Nat.mul_one] at h1
  have hadd : (⟨b, off, none⟩ : Addr).add at' = ⟨b, off + at', none⟩ := by unfold Addr.add; split <;> simp_all
  rw [hadd] at h1
  simpa [Lib.byteCells, List.map_drop] using h1

set_option maxRecDepth 100000 in
set_option maxHeartbeats 1600000 in
theorem scan_any (A : Option Addr) (n c : Nat) (l : List UInt8) (w : World) (ha : Reads w w.heap.size 1 A n (bc l)) (hnc : n ≤ c) (hc : c ≤ maxLen) (hn : n ≤ 900000) :
    Calls Try.prog 18 #[.slice A n c] w (RetScan w.heap.size w l) := by
  have HL : Hid (l.length = n) := by have := ha.1; rw [bc_length] at this; unfold Hid; omega
  unfold maxLen at hc
  go_enter Try.func18, Try.ntmps18
  go_wp2
  go_loopw [2, 3] (fun o i wr => ∃ (at' : Nat) (ls : List (List UInt8)) (vs : List Value), at' ≤ n ∧ ls.length ≤ at' ∧ i = .int .i64 at' ∧ wr.ownsRow w.heap.size 22 1 o ls.length vs ∧ OwnAll wr w.heap.size vs ls ∧ Below w.heap.size w wr ∧
      Hid (∃ f, l.length - at' ≤ f ∧ scanL l = glue ls at' (scanFrom f (l.drop at')))) (fun _ i _ => n - (intOf i).toNat)
  case atStart => exact ⟨0, [], [], Nat.zero_le _, Nat.le_refl _, rfl, World.ownsRow_nil _ _ _ _, OwnAll.nil_ _ _, Below.refl _ _, scan_start l⟩
  case round =>
    obtain ⟨at', ls, vs, hat, hls, rfl, ho, hall, hb, hs⟩ := hrel
    have hz := hb.size
    by_cases hlt : at' < n
    · obtain ⟨b, off, rfl, _, _⟩ := ha.lit (by omega)
      have hr := (((ha.below hb).tail hnc hlt).more hz)
      have hcc : n - at' ≤ c - at' := by omega
      have hcm : c - at' ≤ maxLen := by unfold maxLen; omega
      have hca : at' < c := by omega
      obtain ⟨p, m, k, hN⟩ : ∃ p m k, nextL (l.drop at') = (p, m, k) := ⟨_, _, _, rfl⟩
      have HN := Lib.hid hN
      by_cases hk : k = 1
      · subst hk
        obtain ⟨h8, hm, hp⟩ := nextL_size hN
        rw [List.length_drop, HL.out] at hm
        have HM := Lib.hid (scan_more hs.out (by rw [HL.out]; exact hlt) hN)
        clear hN hs hp
        go_wp2_with fail
        refine (fnext_any _ _ _ _ _ hr hcc hcm).mono ?_
        rintro e w1 h1
        obtain ⟨A1, c1, rfl, ho1, hb1⟩ := h1.eq HN.out
        clear h1
        have hz1 := hb1.size
        have ho1' := own_more ho1 hz
        have hall1 := (hall.below hb1 (Nat.le_refl _)).snoc ho1'
        have ho2 := own_below ho hb1 (Nat.le_refl _)
        have hlen : (ls ++ [p]).length = ls.length + 1 := by simp
        go_wp2_with (at_builtin; refine app_rows _ rfl (.tmp 25) (.tmp 27) rfl w.heap.size _ _ _ rfl (ho2.alloc _) ⟨w1.heap.size, 0, none⟩ 1 1 [.slice A1 p.length c1] rfl rfl (cell_one_new _ _ _) slice_one (by omega) (le_alloc' (by omega)) ?_; intro v2 w2 ho3 hg3 hb3)
        have hall2 := (hall1.alloc (.cells #[.slice A1 p.length c1] 22)).grown (ho2.alloc _) (by decide) hg3
        go_roundw
        case rel => exact ⟨at' + m, ls ++ [p], _, by omega, by rw [hlen]; omega, by go_num, by rw [hlen]; exact ho3, hall2, ((hb.trans (hb1.mono hz)).alloc (by omega) _).trans hb3, HM.out⟩
        case measure => simp [intOf]; omega
      · have hk3 := nextL_kind (l.drop at')
        rw [hN] at hk3
        have hp : p = [] ∧ m = 0 ∧ (k = 2 ∨ k = 3) := by
          rcases hk3 with ⟨_, _, h⟩ | h | h
          · injection h with _ h; injection h with _ h; exact absurd h hk
          · injection h with h1 h; injection h with h2 h; exact ⟨h1, h2, .inl h⟩
          · injection h with h1 h; injection h with h2 h; exact ⟨h1, h2, .inr h⟩
        obtain ⟨rfl, rfl, hk23⟩ := hp
        have HS := Lib.hid (scan_stop hs.out (by rw [HL.out]; exact hlt) hk hN)
        have hne : ((k : Int) != 1) = true := by rw [bne_iff_ne]; omega
        clear hN hs hk3 hk
        go_wp2_with fail
        refine (fnext_any _ _ _ _ _ hr hcc hcm).mono ?_
        rintro e w1 h1
        obtain ⟨A1, c1, rfl, ho1, hb1⟩ := h1.eq HN.out
        clear h1
        have ho2 := own_below ho hb1 (Nat.le_refl _)
        have hall1 := hall.below hb1 (Nat.le_refl _)
        go_wp2
        go_ret3
        exact ret_scan HS.out rfl rfl ho2 hall1 (hb.trans (hb1.mono hz))
    · have HS := Lib.hid (scan_end hs.out (by rw [HL.out]; omega))
      have hge : n ≤ at' := by omega
      clear hlt hs
      go_wp2
      go_ret3
      exact ret_scan HS.out rfl rfl ho hall hb

set_option maxRecDepth 100000 in
set_option maxHeartbeats 1600000 in
theorem refScan_any (A : Option Addr) (n c : Nat) (l : List UInt8) (w : World) (ha : Reads w w.heap.size 1 A n (bc l)) (hnc : n ≤ c) (hc : c ≤ maxLen) (hn : n ≤ 900000) :
    Calls Try.prog 19 #[.slice A n c] w (RetScan w.heap.size w l) := by
  have HL : Hid (l.length = n) := by have := ha.1; rw [bc_length] at this; unfold Hid; omega
  unfold maxLen at hc
  go_enter Try.func19, Try.ntmps19
  go_wp2
  go_loopw [5, 6] (fun o i wr => ∃ (at' : Nat) (ls : List (List UInt8)) (vs : List Value), at' ≤ n ∧ ls.length ≤ at' ∧ i = .int .i64 at' ∧ wr.ownsRow w.heap.size 22 1 o ls.length vs ∧ OwnAll wr w.heap.size vs ls ∧ Below w.heap.size w wr ∧
      Hid (∃ f, l.length - at' ≤ f ∧ scanL l = glue ls at' (scanFrom f (l.drop at')))) (fun _ i _ => n - (intOf i).toNat)
  case atStart => exact ⟨0, [], [], Nat.zero_le _, Nat.le_refl _, rfl, World.ownsRow_nil _ _ _ _, OwnAll.nil_ _ _, Below.refl _ _, scan_start l⟩
  case round =>
    obtain ⟨at', ls, vs, hat, hls, rfl, ho, hall, hb, hs⟩ := hrel
    have hz := hb.size
    by_cases hlt : at' < n
    · obtain ⟨b, off, rfl, _, _⟩ := ha.lit (by omega)
      have hr := (((ha.below hb).tail hnc hlt).more hz)
      have hcc : n - at' ≤ c - at' := by omega
      have hcm : c - at' ≤ maxLen := by unfold maxLen; omega
      have hca : at' < c := by omega
      obtain ⟨p, m, k, hN⟩ : ∃ p m k, nextL (l.drop at') = (p, m, k) := ⟨_, _, _, rfl⟩
      have HN := Lib.hid hN
      by_cases hk : k = 1
      · subst hk
        obtain ⟨h8, hm, hp⟩ := nextL_size hN
        rw [List.length_drop, HL.out] at hm
        have HM := Lib.hid (scan_more hs.out (by rw [HL.out]; exact hlt) hN)
        clear hN hs hp
        go_wp2_with fail
        refine (refFnext_any _ _ _ _ _ hr hcc hcm).mono ?_
        rintro e w1 h1
        obtain ⟨A1, c1, rfl, ho1, hb1⟩ := h1.eq HN.out
        clear h1
        have hz1 := hb1.size
        have ho1' := own_more ho1 hz
        have hall1 := (hall.below hb1 (Nat.le_refl _)).snoc ho1'
        have ho2 := own_below ho hb1 (Nat.le_refl _)
        have hlen : (ls ++ [p]).length = ls.length + 1 := by simp
        go_wp2_with (at_builtin; refine app_rows _ rfl (.tmp 27) (.tmp 29) rfl w.heap.size _ _ _ rfl (ho2.alloc _) ⟨w1.heap.size, 0, none⟩ 1 1 [.slice A1 p.length c1] rfl rfl (cell_one_new _ _ _) slice_one (by omega) (le_alloc' (by omega)) ?_; intro v2 w2 ho3 hg3 hb3)
        have hall2 := (hall1.alloc (.cells #[.slice A1 p.length c1] 22)).grown (ho2.alloc _) (by decide) hg3
        go_roundw
        case rel => exact ⟨at' + m, ls ++ [p], _, by omega, by rw [hlen]; omega, by go_num, by rw [hlen]; exact ho3, hall2, ((hb.trans (hb1.mono hz)).alloc (by omega) _).trans hb3, HM.out⟩
        case measure => simp [intOf]; omega
      · have hk3 := nextL_kind (l.drop at')
        rw [hN] at hk3
        have hp : p = [] ∧ m = 0 ∧ (k = 2 ∨ k = 3) := by
          rcases hk3 with ⟨_, _, h⟩ | h | h
          · injection h with _ h; injection h with _ h; exact absurd h hk
          · injection h with h1 h; injection h with h2 h; exact ⟨h1, h2, .inl h⟩
          · injection h with h1 h; injection h with h2 h; exact ⟨h1, h2, .inr h⟩
        obtain ⟨rfl, rfl, hk23⟩ := hp
        have HS := Lib.hid (scan_stop hs.out (by rw [HL.out]; exact hlt) hk hN)
        have hne : ((k : Int) != 1) = true := by rw [bne_iff_ne]; omega
        clear hN hs hk3 hk
        go_wp2_with fail
        refine (refFnext_any _ _ _ _ _ hr hcc hcm).mono ?_
        rintro e w1 h1
        obtain ⟨A1, c1, rfl, ho1, hb1⟩ := h1.eq HN.out
        clear h1
        have ho2 := own_below ho hb1 (Nat.le_refl _)
        have hall1 := hall.below hb1 (Nat.le_refl _)
        go_wp2
        go_ret3
        exact ret_scan HS.out rfl rfl ho2 hall1 (hb.trans (hb1.mono hz))
    · have HS := Lib.hid (scan_end hs.out (by rw [HL.out]; omega))
      have hge : n ≤ at' := by omega
      clear hlt hs
      go_wp2
      go_ret3
      exact ret_scan HS.out rfl rfl ho hall hb
end Go.Proofs.Ytpacbdfingbhgaa
