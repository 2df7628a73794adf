import Derived.Test.YtlgkgmnnmlhaeaaNet
import Derived.Deep.RegionLaw
import Derived.Deep.AppendLies
namespace Go.Proofs.Ytlgkgmnnmlhaeaa
open Go.RowKit
set_option linter.unusedVariables false

set_option maxRecDepth 100000 in
set_option maxHeartbeats 4000000 in
theorem may_any (w : World) (a : Nat) (A : Option Addr) (n c : Nat) (hn : n ≤ maxLen) (hlt : a < w.heap.size) (hc : w.cell? ⟨a, 0, none⟩ = some (.slice A n c)) (f t : Int) (Ab : Option Addr) (nb cb : Nat) (hnb : nb ≤ maxLen) (b : List UInt8) (hb : b.length = nb) :
    Calls Try.prog 25 #[.pointer (some ⟨a, 0, none⟩), .agg #[.int .i64 f, .int .i64 t, .slice Ab nb cb]] w fun e w' => e = .returned (.bool (mayL n ⟨f, t, b⟩)) ∧ Below w.heap.size w w' := by
  have HL : Hid (∀ W, Below w.heap.size w W → Calls Try.prog 12 #[.pointer (some ⟨a, 0, none⟩)] W fun e w' => e = .returned (.int .i64 n) ∧ W = w') := Lib.hid fun W hb => len_any W a A n c hn (by rw [hb.cell hlt]; exact hc)
  obtain ⟨q1, HQ1⟩ : ∃ q, Hid (nodeL f = q) := ⟨_, Lib.hid rfl⟩
  obtain ⟨q2, HQ2⟩ : ∃ q, Hid (nodeL t = q) := ⟨_, Lib.hid rfl⟩
  have HN1 : Hid (∀ W, Calls Try.prog 31 #[.int .i64 f] W fun e w' => e = .returned (.bool q1) ∧ W = w') := Lib.hid fun W => by rw [← HQ1.out]; exact node_any W f
  have HN2 : Hid (∀ W, Calls Try.prog 31 #[.int .i64 t] W fun e w' => e = .returned (.bool q2) ∧ W = w') := Lib.hid fun W => by rw [← HQ2.out]; exact node_any W t
  obtain ⟨r, HR⟩ : ∃ r, Hid (mayL n ⟨f, t, b⟩ = r) := ⟨_, Lib.hid rfl⟩
  have HB := Lib.hid hb
  unfold maxLen at hn hnb
  rw [HR.out]
  clear hc hb hlt
  have hways : (decide ((n : Int) < 200) = false ∧ r = false) ∨ ((n : Int) < 200 ∧ ((q1 = false ∧ r = false) ∨ (q1 = true ∧ ((q2 = false ∧ r = false) ∨ (q2 = true ∧ (((f != t) = false ∧ r = false) ∨ ((f != t) = true ∧ ((decide ((nb : Int) ≤ 131072) = false ∧ r = false) ∨ ((nb : Int) ≤ 131072 ∧ r = true))))))))) := by
    have h0 := HR.out
    have h1 := HB.out
    have h2 := HQ1.out
    have h3 := HQ2.out
    unfold mayL at h0
    simp only at h0
    rw [h2, h3, h1] at h0
    by_cases e1 : n < 200
    · right
      refine ⟨by omega, ?_⟩
      cases q1
      · left; exact ⟨rfl, by rw [← h0]; simp⟩
      · right; refine ⟨rfl, ?_⟩
        cases q2
        · left; exact ⟨rfl, by rw [← h0]; simp⟩
        · right; refine ⟨rfl, ?_⟩
          by_cases e2 : f = t
          · left; exact ⟨by simp [e2], by rw [← h0]; simp [e2]⟩
          · right; refine ⟨by simpa using e2, ?_⟩
            by_cases e3 : nb ≤ 131072
            · right; exact ⟨by omega, by rw [← h0]; simp [e1, e2, e3]⟩
            · left; exact ⟨by simp; omega, by rw [← h0]; simp [e3]⟩
    · left; exact ⟨by simp; omega, by rw [← h0]; simp [e1]⟩
  clear HB HQ1 HQ2 HR
  rcases hways with ⟨e1, rfl⟩ | ⟨e1, ⟨rfl, rfl⟩ | ⟨rfl, ⟨rfl, rfl⟩ | ⟨rfl, ⟨e2, rfl⟩ | ⟨e2, ⟨e3, rfl⟩ | ⟨e3, rfl⟩⟩⟩⟩⟩
  all_goals
    go_enter Try.func25, Try.ntmps25
    go_wp2_with (first
      | (refine wpList_unguard rfl ?_)
      | (go_at_call 12; ((with_reducible refine (HL.out _ ((Below.refl _ _).alloc (Nat.le_refl _) _)).mono ?_); rintro e w' ⟨rfl, rfl⟩))
      | (go_at_call 31; ((with_reducible refine (HN1.out _).mono ?_); rintro e w' ⟨rfl, rfl⟩))
      | (go_at_call 31; ((with_reducible refine (HN2.out _).mono ?_); rintro e w' ⟨rfl, rfl⟩)))
    go_ret
    exact ⟨rfl, (Below.refl _ _).alloc (Nat.le_refl _) _⟩

theorem own_moreN {w : World} {base base' : Nat} {e : TypeId} {s n : Nat} {v : Value} {xs : List Value} (h : w.ownsRow base e s v n xs) (hb : base' ≤ base) : w.ownsRow base' e s v n xs := by
  refine ⟨h.1, ?_⟩
  rcases h.2 with h2 | ⟨g, cap, cur, hv, hg, r⟩
  · exact .inl h2
  · exact .inr ⟨g, cap, cur, hv, by omega, r⟩
/-- A packet with bytes of its own. -/
def RetPk (w : World) (f t : Int) (b : List UInt8) (e : Ending) (w' : World) : Prop :=
  ∃ A c, e = .returned (.agg #[.int .i64 f, .int .i64 t, .slice A b.length c]) ∧ w'.ownsRow w.heap.size 5 1 (.slice A b.length c) b.length (bc b) ∧ b.length ≤ c ∧ c ≤ maxLen ∧ Below w.heap.size w w'
set_option maxRecDepth 100000 in
set_option maxHeartbeats 4000000 in
theorem copied_any (w : World) (f t : Int) (Ab : Option Addr) (nb cb B : Nat) (b : List UInt8) (hr : Reads w B 1 Ab nb (bc b)) (hB : B ≤ w.heap.size) (hnb : nb ≤ 140737488355328) :
    Calls Try.prog 26 #[.agg #[.int .i64 f, .int .i64 t, .slice Ab nb cb]] w (RetPk w f t b) := by
  have HC : Hid (∀ W, Below w.heap.size w W → Calls Try.prog 32 #[.slice Ab nb cb] W (RetBytes W.heap.size W b)) := Lib.hid fun W hb => clone_any Ab nb cb b W (hr.keep fun p hp => hb.cell (by omega)) (by have := hb.size; omega) hnb
  clear hr
  go_enter Try.func26, Try.ntmps26
  go_upto_region 1 with fail
  have HX : Hid (((w.alloc (.cells #[.int .i64 f, .int .i64 t, .slice Ab nb cb] 31)).alloc (.cells #[.int .i64 0, .int .i64 0, .slice none 0 0] 31)).rangeAt w.heap.size 0 [.int .i64 f, .int .i64 t, .slice Ab nb cb]) := Lib.hid (World.rangeAt_alloc (range_new w [.int .i64 f, .int .i64 t, .slice Ab nb cb] _) _)
  have HZ : Hid (((w.alloc (.cells #[.int .i64 f, .int .i64 t, .slice Ab nb cb] 31)).alloc (.cells #[.int .i64 0, .int .i64 0, .slice none 0 0] 31)).there (w.heap.size + 1) 0 3) := Lib.hid (by
    have := there_new (w.alloc (.cells #[.int .i64 f, .int .i64 t, .slice Ab nb cb] 31)) [.int .i64 0, .int .i64 0, .slice none 0 0] 31
    rwa [alloc_size] at this)
  have HK : Hid (Below w.heap.size w ((w.alloc (.cells #[.int .i64 f, .int .i64 t, .slice Ab nb cb] 31)).alloc (.cells #[.int .i64 0, .int .i64 0, .slice none 0 0] 31))) := Lib.hid (((Below.refl _ _).alloc (Nat.le_refl _) _).alloc (by rw [alloc_size]; omega) _)
  have HSZ : Hid (w.heap.size + 2 = ((w.alloc (.cells #[.int .i64 f, .int .i64 t, .slice Ab nb cb] 31)).alloc (.cells #[.int .i64 0, .int .i64 0, .slice none 0 0] 31)).heap.size) := Lib.hid (by rw [alloc_size, alloc_size])
  generalize ((w.alloc (.cells #[.int .i64 f, .int .i64 t, .slice Ab nb cb] 31)).alloc (.cells #[.int .i64 0, .int .i64 0, .slice none 0 0] 31)) = W2 at *
  have HKd : Hid (Below w.heap.size w W2.drew) := Lib.hid HK.out.drew
  have x0 : W2.cell? ⟨w.heap.size, 0, none⟩ = some (.int .i64 f) := HX.out 0 _ rfl
  have x1 : W2.cell? ⟨w.heap.size, 1, none⟩ = some (.int .i64 t) := HX.out 1 _ rfl
  have x2 : W2.cell? ⟨w.heap.size, 2, none⟩ = some (.slice Ab nb cb) := HX.out 2 _ rfl
  have hs2 : w.heap.size < W2.heap.size := by have := HSZ.out; omega
  have hs3 : w.heap.size + 1 < W2.heap.size := by have := HSZ.out; omega
  obtain ⟨⟨z0, k0⟩, f0⟩ : (∃ z, W2.cell? ⟨w.heap.size + 1, 0, none⟩ = some z) ∧ W2.frozen? ⟨w.heap.size + 1, 0, none⟩ = false := ⟨Option.isSome_iff_exists.1 (HZ.out 0 (by omega)).1, (HZ.out 0 (by omega)).2⟩
  obtain ⟨⟨z1, k1⟩, f1⟩ : (∃ z, W2.cell? ⟨w.heap.size + 1, 1, none⟩ = some z) ∧ W2.frozen? ⟨w.heap.size + 1, 1, none⟩ = false := ⟨Option.isSome_iff_exists.1 (HZ.out 1 (by omega)).1, (HZ.out 1 (by omega)).2⟩
  obtain ⟨⟨z2, k2⟩, f2⟩ : (∃ z, W2.cell? ⟨w.heap.size + 1, 2, none⟩ = some z) ∧ W2.frozen? ⟨w.heap.size + 1, 2, none⟩ = false := ⟨Option.isSome_iff_exists.1 (HZ.out 2 (by omega)).1, (HZ.out 2 (by omega)).2⟩
  go_region_law (go_simp; go_at_call 32; ((with_reducible refine (HC.out _ HKd.out).mono ?_); rintro e w3 h3; obtain ⟨A3, c3, rfl, ho3, hb3, hc3, hm3, hr3⟩ := h3.open_; have HO3 := Lib.hid ho3; have HB3 := Lib.hid hb3; have HR3 := Lib.hid hr3; have HC3 := Lib.hid hc3; have x0' : w3.cell? ⟨w.heap.size, 0, none⟩ = some (.int .i64 f) := (hb3.cell (p := ⟨w.heap.size, 0, none⟩) hs2).trans x0; have x1' : w3.cell? ⟨w.heap.size, 1, none⟩ = some (.int .i64 t) := (hb3.cell (p := ⟨w.heap.size, 1, none⟩) hs2).trans x1; have x2' : w3.cell? ⟨w.heap.size, 2, none⟩ = some (.slice Ab nb cb) := (hb3.cell (p := ⟨w.heap.size, 2, none⟩) hs2).trans x2; have k0' : w3.cell? ⟨w.heap.size + 1, 0, none⟩ = some z0 := (hb3.cell (p := ⟨w.heap.size + 1, 0, none⟩) hs3).trans k0; have k1' : w3.cell? ⟨w.heap.size + 1, 1, none⟩ = some z1 := (hb3.cell (p := ⟨w.heap.size + 1, 1, none⟩) hs3).trans k1; have k2' : w3.cell? ⟨w.heap.size + 1, 2, none⟩ = some z2 := (hb3.cell (p := ⟨w.heap.size + 1, 2, none⟩) hs3).trans k2; have f0' : w3.frozen? ⟨w.heap.size + 1, 0, none⟩ = false := (hb3.frozen (p := ⟨w.heap.size + 1, 0, none⟩) hs3).trans f0; have f1' : w3.frozen? ⟨w.heap.size + 1, 1, none⟩ = false := (hb3.frozen (p := ⟨w.heap.size + 1, 1, none⟩) hs3).trans f1; have f2' : w3.frozen? ⟨w.heap.size + 1, 2, none⟩ = false := (hb3.frozen (p := ⟨w.heap.size + 1, 2, none⟩) hs3).trans f2; clear ho3 hb3 hr3 hc3))
  all_goals
    go_wp2
    have HT3 : w3.there (w.heap.size + 1) 0 3 := there_below (w := W2.drew) HZ.out HB3.out hs3
    have hne : (Value.slice A3 b.length c3).ownBlock ≠ some (w.heap.size + 1) := fun e => by have := (HO3.out.lt _ e).1; have : W2.drew.heap.size = W2.heap.size := rfl; omega
    have hsz : W2.drew.heap.size = W2.heap.size := rfl
    refine ret_cell1 2 31 rfl (w.heap.size + 1) [.int .i64 f, .int .i64 t, .slice A3 b.length c3] _ rfl (World.rangeAt_setCells_same w3 (w.heap.size + 1) 0 _ HT3) Try.underlying31 rfl (by kernel_rfl) rfl ?_
    refine ⟨A3, c3, rfl, ?_, HC3.out, hm3, Below.setCells (w.heap.size + 1) (by omega) [.int .i64 f, .int .i64 t, .slice A3 b.length c3] 0 (HKd.out.trans (HB3.out.mono (by omega)))⟩
    exact ownsRow_setCell_other (ownsRow_setCell_other (ownsRow_setCell_other (own_moreN HO3.out (by omega)) hne _) hne _) hne _
end Go.Proofs.Ytlgkgmnnmlhaeaa
