/- The walk of SessionOrder. No condition. -/
import Derived.Test.YtchhejheobceiaaSesW0
import Derived.Deep.CutBlock
import Derived.Deep.CutRange
import Derived.Deep.RegionHeld3
namespace Go.Proofs.Ytchhejheobceiaa
open Go.RowKit
set_option linter.unusedVariables false

/-- Bounds on what lies about. -/
def Bd (i : Nat) (x y : Xs) : Prop := x.inn.length ≤ 201 * i ∧ y.inn.length ≤ 201 * i ∧ x.sent.length ≤ i ∧ y.sent.length ≤ i
theorem bd_xy {i : Nat} {x y x' y' : Xs} {kind : Int} {m : List UInt8} {z : Int} {yes : Bool} (h : Bd i x y) (ht : OneTo x y kind m z yes x' y') (ok : x.ses.Ok) : Bd (i + 1) x' y' := by
  have := one_len ht ok
  unfold Bd at *
  omega
theorem bd_swap {i : Nat} {x y : Xs} (h : Bd i x y) : Bd i y x := ⟨h.2.1, h.1, h.2.2.2, h.2.2.1⟩
set_option maxRecDepth 100000 in
set_option maxHeartbeats 16000000 in
theorem sessionOrder_walk (w : World) (A : Option Addr) (n c : Nat) (ss : List Sp) (hr : Reads w w.heap.size 5 A n (ss.flatMap Sp.cells)) (hs : ∀ s ∈ ss, s.ok w w.heap.size) (hl : ss.length = n) (hnc : n ≤ c) (hm : c ≤ 9223372036854775807) :
    Calls Try.prog 4 #[.slice A n c] w (RetTrue w) := by
  have HR := Lib.hid hr
  have HS := Lib.hid hs
  have HL := Lib.hid hl
  have HSM := Lib.hid (small_any w A n c ss hr hs hl (by omega))
  clear hr hs hl
  go_enter Try.func4, Try.ntmps4
  go_upto_region 1 with fail
  go_cut [12] from 10 (fun s12 wx => Hid (Below w.heap.size w wx) ∧ (s12 = .bool true ∨ (s12 = .bool false ∧ Hid (n ≤ 120 ∧ ∀ s ∈ ss, s.m.length ≤ 10000))))
  case first =>
    go_wp2_with (go_at_call 12; ((with_reducible refine HSM.out.mono ?_); rintro e w2 ⟨bb, rfl, hb2, hsm⟩; have HB2 := Lib.hid hb2; have HSM2 := Lib.hid hsm; clear hb2 hsm))
    go_meet
    refine ⟨HB2, ?_⟩
    cases bb
    · left; rfl
    · right; exact ⟨rfl, Lib.hid (HSM2.out rfl)⟩
  case rest =>
    obtain ⟨HB0, hways⟩ := hcut
    clear HSM
    rcases hways with rfl | ⟨rfl, HN⟩
    · go_wp2_with (go_at_call 6; refine (awake_any _).mono ?_; rintro e w' ⟨rfl, hb⟩)
      go_ret
      exact RetTrue.from HB0.out ⟨rfl, hb⟩
    · have hn120 := HN.out.1
      go_upto_region 5 with fail
      -- both sides made
      have HW2 : Hid (Below w.heap.size w ((wc.alloc (.cells #[.pointer none, .pointer none, .int .i64 0, .slice none 0 0, .slice none 0 0, .slice none 0 0] 40)).alloc (.cells #[.pointer none, .pointer none, .int .i64 0, .slice none 0 0, .slice none 0 0, .slice none 0 0] 40)) ∧
          ((wc.alloc (.cells #[.pointer none, .pointer none, .int .i64 0, .slice none 0 0, .slice none 0 0, .slice none 0 0] 40)).alloc (.cells #[.pointer none, .pointer none, .int .i64 0, .slice none 0 0, .slice none 0 0, .slice none 0 0] 40)).heap[wc.heap.size]? = some (.cells #[.pointer none, .pointer none, .int .i64 0, .slice none 0 0, .slice none 0 0, .slice none 0 0] 40 (0, 0)) ∧
          ((wc.alloc (.cells #[.pointer none, .pointer none, .int .i64 0, .slice none 0 0, .slice none 0 0, .slice none 0 0] 40)).alloc (.cells #[.pointer none, .pointer none, .int .i64 0, .slice none 0 0, .slice none 0 0, .slice none 0 0] 40)).heap[wc.heap.size + 1]? = some (.cells #[.pointer none, .pointer none, .int .i64 0, .slice none 0 0, .slice none 0 0, .slice none 0 0] 40 (0, 0)) ∧
          ((wc.alloc (.cells #[.pointer none, .pointer none, .int .i64 0, .slice none 0 0, .slice none 0 0, .slice none 0 0] 40)).alloc (.cells #[.pointer none, .pointer none, .int .i64 0, .slice none 0 0, .slice none 0 0, .slice none 0 0] 40)).heap.size = wc.heap.size + 2) := Lib.hid (by
        have hb := HB0.out
        have s1 : (wc.alloc (.cells #[.pointer none, .pointer none, .int .i64 0, .slice none 0 0, .slice none 0 0, .slice none 0 0] 40)).heap.size = wc.heap.size + 1 := alloc_size _ _
        have b1 := (Below.refl wc.heap.size wc).alloc (Nat.le_refl _) (.cells #[.pointer none, .pointer none, .int .i64 0, .slice none 0 0, .slice none 0 0, .slice none 0 0] 40)
        have b2 := (Below.refl _ (wc.alloc (.cells #[.pointer none, .pointer none, .int .i64 0, .slice none 0 0, .slice none 0 0, .slice none 0 0] 40))).alloc (Nat.le_refl _) (.cells #[.pointer none, .pointer none, .int .i64 0, .slice none 0 0, .slice none 0 0, .slice none 0 0] 40)
        refine ⟨hb.trans ((b1.mono hb.size).trans (b2.mono (by rw [s1]; have := hb.size; omega))), ?_, ?_, by rw [alloc_size, s1]⟩
        · rw [b2.block wc.heap.size (by rw [s1]; omega)]
          exact heap_alloc_new wc _
        · have := heap_alloc_new (wc.alloc (.cells #[.pointer none, .pointer none, .int .i64 0, .slice none 0 0, .slice none 0 0, .slice none 0 0] 40)) (.cells #[.pointer none, .pointer none, .int .i64 0, .slice none 0 0, .slice none 0 0, .slice none 0 0] 40)
          rwa [s1] at this)
      have hw0 := HB0.out.size
      generalize ((wc.alloc (.cells #[.pointer none, .pointer none, .int .i64 0, .slice none 0 0, .slice none 0 0, .slice none 0 0] 40)).alloc (.cells #[.pointer none, .pointer none, .int .i64 0, .slice none 0 0, .slice none 0 0, .slice none 0 0] 40)) = W2 at *
      obtain ⟨a, HA⟩ : ∃ a, Hid (wc.heap.size = a) := ⟨_, Lib.hid rfl⟩
      obtain ⟨a', HA'⟩ : ∃ a', Hid (a + 1 = a') := ⟨_, Lib.hid rfl⟩
      simp only [HA.out, HA'.out] at HW2 hw0 ⊢
      have haa : a < a' := by have := HA'.out; omega
      have HZ2 : Hid (W2.heap.size = a' + 1) := Lib.hid (by have := HW2.out.2.2.2; have := HA'.out; omega)
      clear HA HA' HB0
      have HBG1 := Lib.hid (begin_any W2 a w.heap.size HW2.out.1.size HW2.out.2.1)
      have HBG2 : Hid (∀ w3, Kept (fun k => k = a) W2 w3 → Calls Try.prog 13 #[.pointer (some ⟨a', 0, none⟩)] w3 fun e w' => e = .returned (.bool true) ∧
          w'.heap[a']? = some (.cells #[.pointer (some ⟨w3.heap.size, 0, none⟩), .pointer (some ⟨w3.heap.size + 1, 0, none⟩), .int .i64 1, .slice none 0 0, .slice none 0 0, .slice none 0 0] 40 (0, 0)) ∧
          SesAt w.heap.size w' w3.heap.size (.slice none 0 0) [] (newSe 1) ∧ RsAt w.heap.size w' (w3.heap.size + 1) (.slice none 0 0) [] (newSe 1) ∧ Kept (fun k => k = a') w3 w' ∧ w'.heap.size = w3.heap.size + 2) := Lib.hid fun w3 hk =>
        begin_any w3 a' w.heap.size (Nat.le_trans HW2.out.1.size hk.size) (by rw [hk.block a' (by have := HZ2.out; omega) (by omega)]; exact HW2.out.2.2.1)
      go_upto_region 7 with (first
        | (refine wpList_unguard rfl ?_)
        | (go_at_call 13; ((with_reducible refine HBG1.out.mono ?_); rintro e w3 ⟨rfl, g1, g2, g3, g4, g5⟩; have H3 := Lib.hid (And.intro g1 (And.intro g2 (And.intro g3 (And.intro g4 g5)))); clear g1 g2 g3 g4 g5))
        | (go_at_call 13; ((with_reducible refine (HBG2.out _ H3.out.2.2.2.1).mono ?_); rintro e w4 ⟨rfl, g1, g2, g3, g4, g5⟩; have H4 := Lib.hid (And.intro g1 (And.intro g2 (And.intro g3 (And.intro g4 g5)))); clear g1 g2 g3 g4 g5)))
      have HD0 : Hid (∃ s r s' r', Duos w.heap.size w4 a s r a' s' r' nilSv nilSv newXs newXs ∧ Below w.heap.size w w4) := Lib.hid (by
        obtain ⟨g1, g2, g3, g4, g5⟩ := H3.out
        obtain ⟨k1, k2, k3, k4, k5⟩ := H4.out
        have hz := HZ2.out
        have hb3 : Below w.heap.size w w3 := HW2.out.1.trans (g4.below HW2.out.1.size (fun b e => by omega))
        have hby : ∀ g c, w3.heap[g]? = some (.cells c 5 (0, 0)) → ¬ g = a' := fun g c hg e => by
          rw [e, g4.block a' (by omega) (by omega), HW2.out.2.2.1] at hg; injection hg with hg; injection hg with _ hg; cases hg
        exact ⟨_, _, _, _, duos_new (by have := hb3.size; omega) (by omega) (by omega) (by rw [k4.block a (by omega) (by omega)]; exact g1) k1 (g2.keep k4 (by omega) (fun g h => by cases h) hby) (g3.keep k4 (by omega) (fun g h => by cases h) hby) k2 k3 (by omega), hb3.trans (k4.below hb3.size (fun b e => by omega))⟩)
      clear HBG1 HBG2 H3 H4 HW2 HZ2 hw0 haa
      obtain ⟨s, r, s', r', h1, h2⟩ := HD0.out
      have HD := Lib.hid h1
      have HB := Lib.hid h2
      clear h1 h2 HD0
      go_wp2
      go_loopw [5] (fun s5 wr => ∃ (i : Nat) (q q' : Sv) (x y : Xs), i ≤ n ∧ s5 = .int .i64 i ∧ Hid (Duos w.heap.size wr a s r a' s' r' q q' x y) ∧ Hid (Bd i x y) ∧ Hid (Below w.heap.size w wr)) (fun s _ => n - (intOf s).toNat)
      case atStart => exact ⟨0, _, _, _, _, Nat.zero_le _, rfl, HD, Lib.hid ⟨Nat.zero_le _, Nat.zero_le _, Nat.zero_le _, Nat.zero_le _⟩, HB⟩
      case round =>
        clear HD HB
        obtain ⟨i, q, q', x, y, hi, rfl, HD, HBD, HB⟩ := hrel
        by_cases hlt : i < n
        · -- a step
          obtain ⟨sp, hsi⟩ : ∃ s, ss[i]? = some s := ⟨_, List.getElem?_eq_getElem (by have := HL.out; omega)⟩
          obtain ⟨ad, rfl, hab, hcell⟩ := flat_reads Sp.cells_length (HR.out.below HB.out) hsi hlt
          obtain ⟨hkz, Am, cm, hsv, hmc, hmm, hmr⟩ := HS.out sp (List.mem_of_getElem? hsi)
          have hml := HN.out.2 sp (List.mem_of_getElem? hsi)
          obtain ⟨sb, kind, sv, kz, yes, m⟩ := sp
          simp only at hsv hkz hmc hmm hmr hml
          subst hsv
          have HTX : Hid (TxAt w.heap.size wr (.slice Am m.length cm) m) := Lib.hid (.inr ⟨Am, cm, rfl, hmc, hmm, hmr.below HB.out⟩)
          obtain ⟨ml, HML⟩ : ∃ ml, Hid (m.length = ml) := ⟨_, Lib.hid rfl⟩
          have HC : Hid (∀ j v, [Value.bool sb, .int .i64 kind, .slice Am ml cm, .int .i64 kz, .bool yes][j]? = some v → wr.cell? ((ad.add (i * 5)).add j) = some v) := Lib.hid (by intro j v hj; rw [← HML.out] at hj; exact hcell j v hj)
          have c0 : wr.cell? (ad.add (i * 5)) = some (.bool sb) := by have := HC.out 0 _ rfl; exact this
          have c1 : wr.cell? ⟨(ad.add (i * 5)).block, (ad.add (i * 5)).off + 1, none⟩ = some (.int .i64 kind) := HC.out 1 _ rfl
          have HKZ := Lib.hid hkz
          have HMLE := Lib.hid hml
          clear hcell hmr hmm hmc hsi hab hkz hml
          by_cases hk : (5 : Int) ≤ kind
          · go_wp2
            go_roundw
            case rel => exact ⟨i + 1, q, q', x, y, by omega, by go_num, HD, Lib.hid (by have := HBD.out; unfold Bd at *; omega), HB⟩
            case measure => simp [intOf]; omega
          · have hk' : decide ((5 : Int) ≤ kind) = false := by simp; omega
            have hk5 : kind < 5 := by omega
            have HK5 := Lib.hid hk5
            clear hk
            obtain ⟨Wa, rfl⟩ : ∃ W, W = wr := ⟨wr, rfl⟩
            go_upto_if 44 with fail
            go_cut [6, 7] from 26 to 76 (fun s6 s7 wx => s6 = .pointer (some ⟨if sb then a' else a, 0, none⟩) ∧ s7 = .pointer (some ⟨if sb then a else a', 0, none⟩) ∧ wx = Wa)
            case first =>
              cases sb
              all_goals go_wp2_with fail
              all_goals go_meet
              all_goals exact ⟨rfl, rfl, rfl⟩
            obtain ⟨rfl, rfl, rfl⟩ := hcut
            obtain ⟨pa, HPA⟩ : ∃ pa, Hid ((if sb then a' else a) = pa) := ⟨_, Lib.hid rfl⟩
            obtain ⟨pb, HPB⟩ : ∃ pb, Hid ((if sb then a else a') = pb) := ⟨_, Lib.hid rfl⟩
            simp only [HPA.out, HPB.out]
            have hi120 : i ≤ 120 := by omega
            have HONE : Hid (Calls Try.prog 14 #[.pointer (some ⟨pa, 0, none⟩), .pointer (some ⟨pb, 0, none⟩), .agg #[.bool sb, .int .i64 kind, .slice Am ml cm, .int .i64 kz, .bool yes]] wc fun e w' => e = .returned (.bool true) ∧ ∃ q1 q1' x1 y1, Duos w.heap.size w' a s r a' s' r' q1 q1' x1 y1 ∧ Bd (i + 1) x1 y1 ∧ Below w.heap.size w w') := Lib.hid (by
              obtain ⟨e1, e2, e3, e4⟩ := HBD.out
              have hm100 := HMLE.out
              rw [← HPA.out, ← HPB.out, ← HML.out]
              cases sb
              · refine (one_xy HD.out (by omega) (by omega) (by omega) (by omega) false kind Am cm kz yes m HTX.out (by omega) HK5.out HKZ.out).mono ?_
                rintro e w' ⟨h1, h2, q1, q1', x1, y1, h3, h4⟩
                exact ⟨h1, q1, q1', x1, y1, h4, bd_xy HBD.out h3 HD.out.okx, HB.out.trans h2⟩
              · refine (one_yx HD.out (by omega) (by omega) (by omega) (by omega) true kind Am cm kz yes m HTX.out (by omega) HK5.out HKZ.out).mono ?_
                rintro e w' ⟨h1, h2, q1, q1', x1, y1, h3, h4⟩
                exact ⟨h1, q1, q1', x1, y1, h4, bd_swap (bd_xy (bd_swap HBD.out) h3 HD.out.oky), HB.out.trans h2⟩)
            go_upto_region 16 with (first
              | (refine wpList_load_at rfl 42 _ rfl _ rfl [.bool sb, .int .i64 kind, .slice Am ml cm, .int .i64 kz, .bool yes] _ HC.out Try.underlying42 rfl (by kernel_rfl) ?_)
              | (go_at_call 14; ((with_reducible refine HONE.out.mono ?_); rintro e w5 ⟨rfl, q1, q1', x1, y1, h1, h2, h3⟩; have HD1 := Lib.hid h1; have HBD1 := Lib.hid h2; have HB1 := Lib.hid h3; clear h1 h2 h3)))
            clear HONE HC HTX c0 c1 hk' hk5
            obtain ⟨_, _, d4, d5, _, _, d4', d5'⟩ := HD1.out.cells_
            have HP1 : Hid (∀ k, Calls Try.prog 15 #[q1.vg, q1'.vt] (w5.drewN k) (YesDrew (w5.drewN k))) := Lib.hid fun k => by
              have h := HD1.out.same (below_drewN (Below.refl _ _) k)
              obtain ⟨_, _, l3, _, l5, _⟩ := h.lines
              obtain ⟨g1, g2⟩ := h.safe.swap.firsts
              have := HBD1.out.2.2.2
              exact prefix_yes l3 l5 h.hb g1 g2 (by omega)
            have HP2 : Hid (∀ k, Calls Try.prog 15 #[q1'.vg, q1.vt] (w5.drewN k) (YesDrew (w5.drewN k))) := Lib.hid fun k => by
              have h := HD1.out.same (below_drewN (Below.refl _ _) k)
              obtain ⟨_, l2, _, _, _, l6⟩ := h.lines
              obtain ⟨g1, g2⟩ := h.safe.firsts
              have := HBD1.out.2.2.1
              exact prefix_yes l6 l2 h.hb g1 g2 (by omega)
            refine wp_region_quiet_lit (by kernel_rfl) (by kernel_rfl) ?_
            repeat (go_big_quiet_step ((go_at_call 15; first
              | ((with_reducible refine (HP1.out _).mono ?_); rintro e w' ⟨h1, m', h2⟩; first | exact ⟨h1, _, by rw [h2, World.drewN_drewN]⟩ | exact ⟨h1, _, by rw [h2, World.drewN_drewN, Nat.add_assoc]⟩)
              | ((with_reducible refine (HP2.out _).mono ?_); rintro e w' ⟨h1, m', h2⟩; first | exact ⟨h1, _, by rw [h2, World.drewN_drewN]⟩ | exact ⟨h1, _, by rw [h2, World.drewN_drewN, Nat.add_assoc]⟩))))
            refine wpQuiet_nil ?_
            rintro _ ⟨nq, rfl⟩
            go_wp2
            go_roundw
            case rel => exact ⟨i + 1, q1, q1', x1, y1, by omega, by go_num, Lib.hid (HD1.out.same (below_drewN (Below.refl _ _) nq)), HBD1, Lib.hid (below_drewN HB1.out nq)⟩
            case measure => simp [intOf]; omega
        · -- the end
          obtain rfl : n = i := by omega
          have HSL : Hid (x.sent.length ≤ 120 ∧ y.sent.length ≤ 120) := Lib.hid (by have := HBD.out; unfold Bd at this; omega)
          have hnn : ¬ n < n := by omega
          obtain ⟨Wl, rfl⟩ : ∃ W, W = wr := ⟨wr, rfl⟩
          go_wp2
          clear hlt hi HBD HN HS HL hn120
          go_loopw [8] (fun s8 wr => ∃ (j : Nat) (q q' : Sv) (x y : Xs), j ≤ 3 ∧ s8 = .int .i64 j ∧ Hid (Duos w.heap.size wr a s r a' s' r' q q' x y) ∧ Hid (x.sent.length ≤ 120 ∧ y.sent.length ≤ 120) ∧ Hid (0 < j → Done2 x y) ∧ Hid (Below w.heap.size w wr)) (fun s _ => 3 - (intOf s).toNat)
          case atStart => exact ⟨0, q, q', x, y, Nat.zero_le _, rfl, HD, HSL, Lib.hid (fun h => absurd h (by omega)), HB⟩
          case round =>
            clear HD HSL HB x y q q'
            obtain ⟨j, q, q', x, y, hj, rfl, HD, HSL, HDN, HB⟩ := hrel
            by_cases hjl : j < 3
            · obtain ⟨_, c3, _⟩ := HD.out.cells_
              have f3 := (HD.out.free 3).1
              go_upto_region 22 with fail
              have HE1 : Hid (Duos w.heap.size (wr.setCell ⟨a, 3, none⟩ (.slice none 0 0)) a s r a' s' r' { q with vi := .slice none 0 0 } q' { x with inn := [] } y ∧ Below w.heap.size w (wr.setCell ⟨a, 3, none⟩ (.slice none 0 0))) := Lib.hid (by
                obtain ⟨h1, h2⟩ := HD.out.strike_x
                exact ⟨h1, HB.out.trans h2⟩)
              clear HD HB c3 f3
              generalize (wr.setCell ⟨a, 3, none⟩ (.slice none 0 0)) = W1 at *
              obtain ⟨_, _, _, _, _, c3, _⟩ := HE1.out.1.cells_
              have f3 := (HE1.out.1.free 3).2
              go_upto_region 23 with fail
              have HE2 : Hid (Duos w.heap.size (W1.setCell ⟨a', 3, none⟩ (.slice none 0 0)) a s r a' s' r' { q with vi := .slice none 0 0 } { q' with vi := .slice none 0 0 } { x with inn := [] } { y with inn := [] } ∧ Below w.heap.size w (W1.setCell ⟨a', 3, none⟩ (.slice none 0 0))) := Lib.hid (by
                obtain ⟨h1, h2⟩ := HE1.out.1.strike_y
                exact ⟨h1, HE1.out.2.trans h2⟩)
              clear HE1 c3 f3
              generalize (W1.setCell ⟨a', 3, none⟩ (.slice none 0 0)) = W2 at *
              have HTX : Hid (∀ W, TxAt w.heap.size W (.slice none 0 0) []) := Lib.hid fun W => .inr ⟨none, 0, rfl, Nat.le_refl _, Nat.zero_le _, Reads.none_⟩
              have HT1 : Hid (Calls Try.prog 14 #[.pointer (some ⟨a, 0, none⟩), .pointer (some ⟨a', 0, none⟩), .agg #[.bool false, .int .i64 2, .slice none 0 0, .int .i64 0, .bool false]] W2 fun e w' => e = .returned (.bool true) ∧ Below w.heap.size W2 w' ∧ ∃ q1 q1', Duos w.heap.size w' a s r a' s' r' q1 q1' { x with inn := [] } { y with inn := tickL x.ses }) := Lib.hid (by
                obtain ⟨l1, l2⟩ := HSL.out
                refine (one_xy HE2.out.1 (Nat.zero_le _) (Nat.zero_le _) (Nat.le_trans l1 (by omega)) (Nat.le_trans l2 (by omega)) false 2 none 0 0 false [] (HTX.out _) (Nat.zero_le _) (by omega) (by omega)).mono ?_
                rintro e w' ⟨h1, h2, q1, q1', x1, y1, h3, h4⟩
                obtain ⟨rfl, rfl⟩ := one_tick h3
                exact ⟨h1, h2, q1, q1', h4⟩)
              have HT2 : Hid (∀ W q1 q1', Duos w.heap.size W a s r a' s' r' q1 q1' { x with inn := [] } { y with inn := tickL x.ses } → Calls Try.prog 14 #[.pointer (some ⟨a', 0, none⟩), .pointer (some ⟨a, 0, none⟩), .agg #[.bool false, .int .i64 2, .slice none 0 0, .int .i64 0, .bool false]] W fun e w' => e = .returned (.bool true) ∧ Below w.heap.size W w' ∧ ∃ q1 q1', Duos w.heap.size w' a s r a' s' r' q1 q1' { x with inn := tickL y.ses } { y with inn := tickL x.ses }) := Lib.hid (by
                intro W q1 q1' hd
                obtain ⟨l1, l2⟩ := HSL.out
                refine (one_yx hd (Nat.zero_le _) (by show (tickL x.ses).length ≤ 500000; rw [tickL_len]; have := hd.okx.wait; exact Nat.le_trans this (by omega)) (Nat.le_trans l1 (by omega)) (Nat.le_trans l2 (by omega)) false 2 none 0 0 false [] (HTX.out _) (Nat.zero_le _) (by omega) (by omega)).mono ?_
                rintro e w' ⟨h1, h2, q1, q1', x1, y1, h3, h4⟩
                obtain ⟨rfl, rfl⟩ := one_tick h3
                exact ⟨h1, h2, q1, q1', h4⟩)
              go_upto_region 25 with (first
                | (refine wpList_unguard rfl ?_)
                | (go_at_call 14; ((with_reducible refine HT1.out.mono ?_); rintro e w3 ⟨rfl, hb3, q1, q1', hd3⟩; have HD3 := Lib.hid hd3; have HB3 := Lib.hid (HE2.out.2.trans hb3); clear hd3 hb3))
                | (go_at_call 14; ((with_reducible refine (HT2.out _ _ _ HD3.out).mono ?_); rintro e w4 ⟨rfl, hb4, q2, q2', hd4⟩; have HD4 := Lib.hid hd4; have HB4 := Lib.hid (HB3.out.trans hb4); clear hd4 hb4)))
              have HST : Hid (Flow { x with inn := tickL y.ses } { y with inn := tickL x.ses } ∧ Flow { y with inn := tickL x.ses } { x with inn := tickL y.ses } ∧ load { x with inn := tickL y.ses } { y with inn := tickL x.ses } ≤ 1600) := Lib.hid (by
                obtain ⟨l1, l2⟩ := HSL.out
                have hsf := HE2.out.1.safe
                exact drain_start (x := { x with inn := [] }) (y := { y with inn := [] }) hsf (Nat.le_trans l1 (by omega)) (Nat.le_trans l2 (by omega)) HE2.out.1.okx.wait HE2.out.1.oky.wait)
              have HSL4 : Hid ((Xs.mk x.ses (tickL y.ses) x.sent x.got).sent.length ≤ 120 ∧ (Xs.mk y.ses (tickL x.ses) y.sent y.got).sent.length ≤ 120) := HSL
              clear HT1 HT2 HD3 HB3 HE2 HSL HDN
              have HD4' : Hid (Duos w.heap.size w4 a s r a' s' r' q2 q2' (Xs.mk x.ses (tickL y.ses) x.sent x.got) (Xs.mk y.ses (tickL x.ses) y.sent y.got)) := HD4
              have HST' : Hid (Flow (Xs.mk x.ses (tickL y.ses) x.sent x.got) (Xs.mk y.ses (tickL x.ses) y.sent y.got) ∧ Flow (Xs.mk y.ses (tickL x.ses) y.sent y.got) (Xs.mk x.ses (tickL y.ses) x.sent x.got) ∧ load (Xs.mk x.ses (tickL y.ses) x.sent x.got) (Xs.mk y.ses (tickL x.ses) y.sent y.got) ≤ 1600) := HST
              clear HD4 HST
              generalize Xs.mk x.ses (tickL y.ses) x.sent x.got = x5 at *
              generalize Xs.mk y.ses (tickL x.ses) y.sent y.got = y5 at *
              go_wp2
              go_loopw [9] (fun s9 wk => ∃ (k : Nat) (q q' : Sv) (x y : Xs), s9 = .int .i64 k ∧ Hid (Duos w.heap.size wk a s r a' s' r' q q' x y) ∧ Hid (Flow x y ∧ Flow y x ∧ load x y + k ≤ 1600) ∧ Hid (x.sent.length ≤ 120 ∧ y.sent.length ≤ 120) ∧ Hid (Below w.heap.size w wk)) (fun s _ => 1601 - (intOf s).toNat)
              case atStart => exact ⟨0, q2, q2', x5, y5, rfl, HD4', Lib.hid ⟨HST'.out.1, HST'.out.2.1, by have := HST'.out.2.2; omega⟩, HSL4, HB4⟩
              case round =>
                clear HD4' HST' HSL4 HB4 x5 y5 q2 q2'
                obtain ⟨k, q, q', x, y, rfl, HD, HF, HSL, HB⟩ := hrel
                have hk16 : k ≤ 1600 := by have := HF.out.2.2; omega
                obtain ⟨xn, HXN⟩ : ∃ n, Hid (x.inn.length = n) := ⟨_, Lib.hid rfl⟩
                obtain ⟨yn, HYN⟩ : ∃ n, Hid (y.inn.length = n) := ⟨_, Lib.hid rfl⟩
                have hxy : xn + yn ≤ 1600 := by have h1 := load_inn x y; have h2 := HF.out.2.2; rw [HXN.out, HYN.out] at h1; omega
                obtain ⟨_, c3, _, _, _, c3', _⟩ := HD.out.cells_
                obtain ⟨lx, _, _, ly, _⟩ := HD.out.lines
                obtain ⟨Ax, cx, hvx, _⟩ := lx.value
                obtain ⟨Ay, cy, hvy, _⟩ := ly.value
                rw [hvx, HXN.out] at c3
                rw [hvy, HYN.out] at c3'
                have w1 : IntKind.i64.wrap ((xn : Int) + (yn : Int)) = (xn : Int) + (yn : Int) := IntWalk.i64_in _ (by omega)
                have hk2 : (k : Int) < 2000 := by omega
                clear lx ly hvx hvy
                go_upto_region 26 with fail
                by_cases h0 : 0 < xn + yn
                · have h0' : (0 : Int) < (xn : Int) + (yn : Int) := by omega
                  have H0 := Lib.hid h0
                  clear h0
                  refine wp_region_quiet_lit (by kernel_rfl) (by kernel_rfl) ?_
                  repeat (go_big_quiet_step (fail))
                  refine wpQuiet_nil ?_
                  rintro _ ⟨nq, rfl⟩
                  have HD' := Lib.hid (HD.out.same (below_drewN (Below.refl _ _) nq))
                  have HB' : Hid (Below w.heap.size w (wr.drewN nq)) := Lib.hid (below_drewN HB.out nq)
                  clear c3 c3' w1 h0' HD HB
                  generalize wr.drewN nq = Wk at *
                  have HTX : Hid (∀ W, TxAt w.heap.size W (.slice none 0 0) []) := Lib.hid fun W => .inr ⟨none, 0, rfl, Nat.le_refl _, Nat.zero_le _, Reads.none_⟩
                  have HX1 : Hid (Calls Try.prog 14 #[.pointer (some ⟨a, 0, none⟩), .pointer (some ⟨a', 0, none⟩), .agg #[.bool false, .int .i64 3, .slice none 0 0, .int .i64 0, .bool false]] Wk fun e w' => e = .returned (.bool true) ∧ Below w.heap.size Wk w' ∧ ∃ q1 q1' x1 y1, Duos w.heap.size w' a s r a' s' r' q1 q1' x1 y1 ∧ Drained x y x1 y1) := Lib.hid (by
                    obtain ⟨l1, l2⟩ := HSL.out
                    refine (one_xy HD'.out (by rw [HXN.out]; omega) (by rw [HYN.out]; omega) (Nat.le_trans l1 (by omega)) (Nat.le_trans l2 (by omega)) false 3 none 0 0 false [] (HTX.out _) (Nat.zero_le _) (by omega) (by omega)).mono ?_
                    rintro e w' ⟨h1, h2, q1, q1', x1, y1, h3, h4⟩
                    exact ⟨h1, h2, q1, q1', x1, y1, h4, drain_one HD'.out.safe (Nat.le_trans l1 (by omega)) (Nat.le_trans l2 (by omega)) HF.out.1 HF.out.2.1 h3⟩)
                  have HX2 : Hid (∀ W q1 q1' x1 y1, Duos w.heap.size W a s r a' s' r' q1 q1' x1 y1 → Drained x y x1 y1 → Calls Try.prog 14 #[.pointer (some ⟨a', 0, none⟩), .pointer (some ⟨a, 0, none⟩), .agg #[.bool false, .int .i64 3, .slice none 0 0, .int .i64 0, .bool false]] W fun e w' => e = .returned (.bool true) ∧ Below w.heap.size W w' ∧ ∃ q2 q2' x2 y2, Duos w.heap.size w' a s r a' s' r' q2 q2' x2 y2 ∧ Flow x2 y2 ∧ Flow y2 x2 ∧ load x2 y2 + 1 ≤ load x y ∧ x2.sent.length ≤ 120 ∧ y2.sent.length ≤ 120) := Lib.hid (by
                    intro W q1 q1' x1 y1 hd hg
                    obtain ⟨l1, l2⟩ := HSL.out
                    have hlo := load_inn x1 y1
                    have hl1 := hg.less.1
                    have hl2 := HF.out.2.2
                    have s1 : x1.sent.length ≤ 120 := by rw [hg.sent.1]; exact l1
                    have s2 : y1.sent.length ≤ 120 := by rw [hg.sent.2]; exact l2
                    refine (one_yx hd (by omega) (by omega) (by omega) (by omega) false 3 none 0 0 false [] (HTX.out _) (Nat.zero_le _) (by omega) (by omega)).mono ?_
                    rintro e w' ⟨h1, h2, q2, q2', x2, y2, h3, h4⟩
                    have hg2 := drain_one hd.safe.swap (by omega) (by omega) hg.f2 hg.f1 h3
                    refine ⟨h1, h2, q2, q2', x2, y2, h4, hg2.f2, hg2.f1, ?_, by rw [hg2.sent.2]; exact s1, by rw [hg2.sent.1]; exact s2⟩
                    have e1 := hg2.less
                    rw [load_swap y2 x2, load_swap y1 x1] at e1
                    by_cases hx0 : x.inn = []
                    · obtain ⟨r1, r2⟩ := hg.none hx0
                      subst r1 r2
                      have hy0 : y1.inn ≠ [] := fun e => by
                        have h0 := H0.out
                        have hx := HXN.out
                        have hy := HYN.out
                        rw [hx0] at hx
                        rw [e] at hy
                        simp at hx hy
                        omega
                      have := e1.2 hy0
                      omega
                    · have := hg.less.2 hx0
                      omega)
                  go_wp2_with (first
                    | (refine wpList_unguard rfl ?_)
                    | (go_at_call 14; ((with_reducible refine HX1.out.mono ?_); rintro e w5 ⟨rfl, hb5, q1, q1', x1, y1, hd5, hg5⟩; have HD5 := Lib.hid hd5; have HG5 := Lib.hid hg5; have HB5 := Lib.hid (HB'.out.trans hb5); clear hd5 hb5 hg5))
                    | (go_at_call 14; ((with_reducible refine (HX2.out _ _ _ _ _ HD5.out HG5.out).mono ?_); rintro e w6 ⟨rfl, hb6, q2, q2', x2, y2, hd6, hf6, hf6', hl6, hs6, hs6'⟩; have HD6 := Lib.hid hd6; have HF6 := Lib.hid (And.intro hf6 (And.intro hf6' hl6)); have HS6 := Lib.hid (And.intro hs6 hs6'); have HB6 := Lib.hid (HB5.out.trans hb6); clear hd6 hb6 hf6 hf6' hl6 hs6 hs6')))
                  go_roundw
                  case rel => exact ⟨k + 1, q2, q2', x2, y2, by go_num, HD6, Lib.hid ⟨HF6.out.1, HF6.out.2.1, by have := HF6.out.2.2; have := HF.out.2.2; omega⟩, HS6, HB6⟩
                  case measure => simp [intOf]; omega
                · have h0' : decide ((0 : Int) < (xn : Int) + (yn : Int)) = false := by simp; omega
                  have H0 := Lib.hid h0
                  clear h0
                  refine wp_region_quiet_lit (by kernel_rfl) (by kernel_rfl) ?_
                  repeat (go_big_quiet_step (fail))
                  refine wpQuiet_nil ?_
                  rintro _ ⟨nq, rfl⟩
                  have HDD : Hid (Done2 x y) := Lib.hid (done_of HD.out.safe HF.out.1 HF.out.2.1 (List.eq_nil_of_length_eq_zero (by have := H0.out; have := HXN.out; omega)) (List.eq_nil_of_length_eq_zero (by have := H0.out; have := HYN.out; omega)))
                  go_wp2
                  go_roundw
                  case rel => exact ⟨j + 1, q, q', x, y, by omega, by go_num, Lib.hid (HD.out.same (below_drewN (Below.refl _ _) nq)), HSL, Lib.hid (fun _ => HDD.out), Lib.hid (below_drewN HB.out nq)⟩
                  case measure => simp [intOf]; omega
            · -- nothing waits, all is got
              obtain rfl : j = 3 := by omega
              have HDN' := Lib.hid (HDN.out (by omega))
              clear HDN
              have HR1 : Hid (∀ W, Below wr.heap.size wr W → Calls Try.prog 16 #[q.vg, q'.vt] W (YesDrew W)) := Lib.hid (by
                intro W hb
                have h := HD.out.same hb
                obtain ⟨_, _, ⟨us1, l1, l2⟩, _, ⟨us2, l3, l4⟩, _⟩ := h.lines
                rw [HDN'.out.1] at l1 l2
                exact rows_lines l1 l3 (l2.bytes h.hb) (l4.bytes h.hb) (Nat.le_trans HSL.out.2 (by omega)))
              have HR2 : Hid (∀ W, Below wr.heap.size wr W → Calls Try.prog 16 #[q'.vg, q.vt] W (YesDrew W)) := Lib.hid (by
                intro W hb
                have h := HD.out.same hb
                obtain ⟨_, ⟨us2, l3, l4⟩, _, _, _, ⟨us1, l1, l2⟩⟩ := h.lines
                rw [HDN'.out.2.1] at l1 l2
                exact rows_lines l1 l3 (l2.bytes h.hb) (l4.bytes h.hb) (Nat.le_trans HSL.out.1 (by omega)))
              have HW1 : Hid (∀ W, Below wr.heap.size wr W → Calls Try.prog 11 #[.pointer (some ⟨s, 0, none⟩)] W fun e w' => e = .returned (.int .i64 0) ∧ W = w') := Lib.hid (by
                intro W hb
                have h := HD.out.same hb
                obtain ⟨T, hd⟩ := h.duo
                obtain ⟨us, hus⟩ := hd.x.ses
                have := waiting_any hus h.okx
                rw [HDN'.out.2.2.1] at this
                exact this)
              have HW2 : Hid (∀ W, Below wr.heap.size wr W → Calls Try.prog 11 #[.pointer (some ⟨s', 0, none⟩)] W fun e w' => e = .returned (.int .i64 0) ∧ W = w') := Lib.hid (by
                intro W hb
                have h := HD.out.same hb
                obtain ⟨T, hd⟩ := h.duo
                obtain ⟨us, hus⟩ := hd.y.ses
                have := waiting_any hus h.oky
                rw [HDN'.out.2.2.2] at this
                exact this)
              have HSS : Hid (∀ W, Below wr.heap.size wr W → W.cell? ⟨a, 5, none⟩ = some q.vg ∧ W.cell? ⟨a', 4, none⟩ = some q'.vt ∧ W.cell? ⟨a', 5, none⟩ = some q'.vg ∧ W.cell? ⟨a, 4, none⟩ = some q.vt ∧ W.cell? ⟨a, 0, none⟩ = some (.pointer (some ⟨s, 0, none⟩)) ∧ W.cell? ⟨a', 0, none⟩ = some (.pointer (some ⟨s', 0, none⟩))) := Lib.hid (by
                intro W hb
                obtain ⟨e1, e2, e3, e4, e5, e6, e7, e8⟩ := (HD.out.same hb).cells_
                exact ⟨e4, e7, e8, e3, e1, e5⟩)
              have s1 := HSS.out wr (Below.refl _ _)
              clear HD HSL HDN'
              generalize q.vg = va at *
              generalize q'.vg = vb at *
              generalize q.vt = ta at *
              generalize q'.vt = tb at *
              go_upto_region 30 with fail
              go_region_held3 (fun w' => w'.cell? ⟨a, 5, none⟩ = some va ∧ w'.cell? ⟨a', 4, none⟩ = some tb ∧ w'.cell? ⟨a', 5, none⟩ = some vb ∧ w'.cell? ⟨a, 4, none⟩ = some ta ∧ w'.cell? ⟨a, 0, none⟩ = some (.pointer (some ⟨s, 0, none⟩)) ∧ w'.cell? ⟨a', 0, none⟩ = some (.pointer (some ⟨s', 0, none⟩))) (first | assumption | exact s1) (first
                | (go_simp; go_at_call 16; ((with_reducible refine (HR1.out wr.drew (Below.refl _ _).drew).mono ?_); rintro e w2 ⟨rfl, nq1, hw2⟩; have HB2 : Hid (Below wr.heap.size wr w2) := Lib.hid (by rw [hw2]; exact below_drewN (Below.refl _ _).drew nq1); have s2 := HSS.out w2 HB2.out; clear hw2))
                | (go_simp; go_at_call 16; ((with_reducible refine (HR2.out w2 HB2.out).mono ?_); rintro e w3 ⟨rfl, nq2, hw3⟩; have HB3 : Hid (Below wr.heap.size wr w3) := Lib.hid (by rw [hw3]; exact below_drewN HB2.out nq2); have s3 := HSS.out w3 HB3.out; clear hw3))
                | (go_simp; go_at_call 11; ((with_reducible refine (HW1.out w3 HB3.out).mono ?_); rintro e w4 ⟨rfl, rfl⟩))
                | (go_simp; go_at_call 11; ((with_reducible refine (HW2.out w3 HB3.out).mono ?_); rintro e w4 ⟨rfl, rfl⟩))
                | (go_simp; go_at_call 6; ((with_reducible refine (awake_any w3).mono ?_); rintro e w6 ⟨rfl, hb6⟩; have HB6 : Hid (Below wr.heap.size wr w6) := Lib.hid (HB3.out.trans (hb6.mono HB3.out.size)); have s6 := HSS.out w6 HB6.out; clear hb6)))
              all_goals go_wp2
              all_goals go_ret
              all_goals exact ⟨rfl, HB.out.trans (HB6.out.mono HB.out.size)⟩
end Go.Proofs.Ytchhejheobceiaa
