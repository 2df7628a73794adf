import Derived.Test.YtbgnmkjjfaepiaaRingOps
namespace Go.Proofs.Ytbgnmkjjfaepiaa
open Go.RowKit
set_option linter.unusedVariables false

set_option maxRecDepth 100000 in
theorem small_any (w : World) (A : Option Addr) (n c : Nat) (hn : n ≤ maxLen) :
    Calls Try.prog 10 #[.slice A n c] w fun e w' => e = .returned (.bool (decide (n ≤ 80))) ∧ w = w' := by
  unfold maxLen at hn
  go_enter Try.func10, Try.ntmps10
  go_wp2
  go_ret
  exact ⟨ret_bool (by simp; omega), rfl⟩

/-- The call answers true, and has but drawn. -/
def YesDrew (w : World) (e : Ending) (w' : World) : Prop := e = .returned (.bool true) ∧ ∃ m, w' = w.drewN m

set_option maxRecDepth 100000 in
set_option maxHeartbeats 4000000 in
theorem same_any (w : World) (A A' : Option Addr) (n c c' B B' : Nat) (l : List Rg) (ha : Reads w B 4 A n (rowCells l)) (hb : Reads w B' 4 A' n (rowCells l)) (hl : l.length = n) (hn : n ≤ maxLen) :
    Calls Try.prog 18 #[.slice A n c, .slice A' n c'] w (YesDrew w) := by
  have HL := Lib.hid hl
  unfold maxLen at hn
  go_enter Try.func18, Try.ntmps18
  go_wp2
  go_loopw [5] (fun i wr => ∃ k m : Nat, k ≤ n ∧ i = .int .i64 k ∧ wr = w.drewN m) (fun i _ => n - (intOf i).toNat)
  case atStart => exact ⟨0, 0, Nat.zero_le _, rfl, rfl⟩
  case round =>
    obtain ⟨k, m, hk, rfl, rfl⟩ := hrel
    by_cases hlt : k < n
    · obtain ⟨r, hrk⟩ : ∃ r, l[k]? = some r := ⟨_, List.getElem?_eq_getElem (by have := HL.out; omega)⟩
      obtain ⟨ad, rfl, _, hra⟩ := ha.range hrk hlt
      obtain ⟨ad', rfl, _, hrb⟩ := hb.range hrk hlt
      have HA : Hid (∀ j v, r.cells[j]? = some v → w.cell? ((ad.add (k * 4)).add j) = some v) := hra
      have HB : Hid (∀ j v, r.cells[j]? = some v → w.cell? ((ad'.add (k * 4)).add j) = some v) := hrb
      clear hra hrb ha hb hrk
      obtain ⟨r1, r2, r3, r4⟩ := r
      refine code_hide (fun Q0 HQ0 => ?_)
      go_wp2
      refine wp_region_quiet_lit (by kernel_rfl) (by kernel_rfl) ?_
      repeat (first
        | (go_big_quiet_want; refine quiet_load_at 31 _ rfl _ rfl [Value.int .i64 r1, .int .i64 r2, .int .i64 r3, .int .i64 r4] _ (by rintro W ⟨q, rfl⟩; first | exact HA.out | exact HB.out) Try.underlying31 rfl (by kernel_rfl) ?_; go_simp; go_big_quiet_on)
        | (go_big_quiet_want; refine quiet_ne_rg _ _ rfl ⟨r1, r2, r3, r4⟩ ⟨r1, r2, r3, r4⟩ rfl rfl ?_; simp only [decide_true, Bool.not_true]; go_simp; go_big_quiet_on)
        | (go_big_quiet_step (fail)))
      refine wpQuiet_nil ?_
      rintro _ ⟨nq, rfl⟩
      go_wp2
      refine hide_out HQ0 ?_
      go_step
      go_roundw
      case rel => exact ⟨k + 1, _, by omega, by go_num, rfl⟩
      case measure => simp [intOf]; omega
    · go_wp2
      go_ret
      exact ⟨rfl, m, rfl⟩
end Go.Proofs.Ytbgnmkjjfaepiaa
