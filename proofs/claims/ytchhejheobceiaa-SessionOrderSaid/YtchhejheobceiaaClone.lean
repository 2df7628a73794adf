/- The walks of slices.Clone at bytes, and of penstockalike.Round. No condition. -/
import Derived.Test.YtchhejheobceiaaOps
import Derived.WalkKit
import Derived.WalkSpells
import Derived.WalkLawsBesides
namespace Go.Proofs.Ytchhejheobceiaa
open Go.RowKit

set_option maxRecDepth 100000 in
set_option maxHeartbeats 400000 in
theorem clone_any (A : Option Addr) (n c : Nat) (l : List UInt8) (w : World) {B : Nat} (ha : Reads w B 1 A n (bc l)) (hB : B ≤ w.heap.size) (hn : n ≤ 140737488355328) :
    Calls Try.prog 19 #[.slice A n c] w (RetBytes w.heap.size w l) := by
  have hl : l.length = n := by have := ha.1; rw [bc_length] at this; omega
  have hc := fun W : World => Lib.run_eql_slice_nil (P := Try.prog) W 30 5 A n c 0 0 Try.underlying30
  cases A with
  | none =>
    have hn0 : n = 0 := by
      rcases Nat.eq_zero_or_pos n with h | h
      · exact h
      · obtain ⟨_, h', _⟩ := ha.2 h; cases h'
    have hl0 : l = [] := List.eq_nil_of_length_eq_zero (by omega)
    subst hl0 hn0
    go_enter Try.func19, Try.ntmps19
    go_wp2
    go_ret
    exact ⟨_, rfl, World.ownsRow_nil _ _ _ _, Below.refl _ _⟩
  | some a =>
    have HL := Lib.hid hl
    clear hl
    go_enter Try.func19, Try.ntmps19
    go_wp2_with (at_builtin; refine app_bytes _ rfl (.tmp 5) (.tmp 6) rfl w.heap.size _ 0 [] rfl (.inl (World.ownsRow_made w #[] 0 (Nat.le_refl _) (Nat.zero_le _) rfl)) B _ n _ (bc l) rfl (ha.alloc hB _) (bc_one _) (by omega) (le_alloc (Nat.le_refl _)) ?_; intro v1 w1 ho1 hb1 hr1)
    go_ret
    refine ⟨v1, rfl, ?_, ((Below.refl _ _).alloc (Nat.le_refl _) _).trans hb1⟩
    have R := hr1 (.inl (World.ownsRow_made w #[] 0 (Nat.le_refl _) (Nat.zero_le _) rfl))
    rw [HL.out]
    simpa using R

/-- The remainder that is never below nought. -/
def roundZ (k n : Int) : Int := if k.tmod n < 0 then k.tmod n + n else k.tmod n
theorem roundZ_bd (k n : Int) (hn : 0 < n) : 0 ≤ roundZ k n ∧ roundZ k n < n := by
  unfold roundZ
  have h1 := Int.tmod_lt_of_pos k hn
  have h2 := Int.lt_tmod_of_pos k hn
  split <;> omega
theorem round_any (k n : Int) (w : World) (hn : 0 < n) (hn1 : n ≤ 4611686018427387904) :
    Calls Try.prog 27 #[.int .i64 k, .int .i64 n] w fun e w' => e = .returned (.int .i64 (roundZ k n)) ∧ w = w' := by
  have h1 := Int.tmod_lt_of_pos k hn
  have h2 := Int.lt_tmod_of_pos k hn
  have hne : (n == 0) = false := by simp; omega
  by_cases hneg : k.tmod n < 0
  · have HE := Lib.hid (show roundZ k n = k.tmod n + n by unfold roundZ; rw [if_pos hneg])
    go_enter Try.func27, Try.ntmps27
    go_wp2
    go_ret
    exact ⟨ret_int HE.out.symm, rfl⟩
  · have HE := Lib.hid (show roundZ k n = k.tmod n by unfold roundZ; rw [if_neg hneg])
    go_enter Try.func27, Try.ntmps27
    go_wp2
    go_ret
    exact ⟨ret_int HE.out.symm, rfl⟩
end Go.Proofs.Ytchhejheobceiaa
