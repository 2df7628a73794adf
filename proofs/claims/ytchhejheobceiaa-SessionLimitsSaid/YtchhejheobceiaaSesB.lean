/- The walk of SessionLimits, whole. No condition. -/
import Derived.Test.YtchhejheobceiaaSesA
namespace Go.Proofs.Ytchhejheobceiaa
open Go.RowKit
set_option linter.unusedVariables false

set_option maxRecDepth 100000 in
set_option maxHeartbeats 8000000 in
theorem limits_life (w : World) (N S : Nat) (life : Int) (hN : N ≤ 210) (hS : S ≤ 65541) (hb : ¬ (5 < N ∧ 100 < S)) (hL : life < 1 ∨ 1099511627776 < life) :
    Calls Try.prog 5 #[.int .i64 N, .int .i64 S, .int .i64 life] w (RetTrue w) := by
  have b0 : decide ((N : Int) < 0) = false := by simp
  have b1 : decide ((210 : Int) < (N : Int)) = false := by simp; omega
  have b2 : decide ((S : Int) < 0) = false := by simp
  have b3 : decide ((65541 : Int) < (S : Int)) = false := by simp; omega
  have hways : decide ((5 : Int) < (N : Int)) = false ∨ ((5 : Int) < (N : Int) ∧ decide ((100 : Int) < (S : Int)) = false) := by
    by_cases h : 5 < N
    · right; exact ⟨by omega, by simp; omega⟩
    · left; simp; omega
  have hlw : life < 1 ∨ (decide (life < 1) = false ∧ 1099511627776 < life) := by
    by_cases h : life < 1
    · exact .inl h
    · exact .inr ⟨by simpa using h, by omega⟩
  have HL := Lib.hid hL
  clear hb hL
  go_enter Try.func5, Try.ntmps5
  go_upto_region 1 with fail
  go_cut [37] from 16 (fun s37 wx => s37 = .bool false ∧ wx = w)
  case first =>
    rcases hways with e1 | ⟨e1, e2⟩
    all_goals
      go_wp2_with (refine wpList_unguard rfl ?_)
      go_meet
      exact ⟨rfl, rfl⟩
  case rest =>
    obtain ⟨rfl, rfl⟩ := hcut
    clear hways
    rcases hlw with e1 | ⟨e1, e2⟩
    all_goals
      go_wp2_with (first
        | (refine wpList_unguard rfl ?_)
        | (go_at_call 7; refine (new_no _ life HL.out).mono ?_; rintro e w1 ⟨rfl, rfl⟩)
        | (go_at_call 6; refine (awake_any _).mono ?_; rintro e w' ⟨rfl, hb⟩))
      go_ret
      exact ⟨rfl, hb⟩

set_option maxRecDepth 100000 in
set_option maxHeartbeats 8000000 in
theorem sessionLimits_walk (w : World) (n : Int) (hn : (Lit.int .i64 n).wf = true) (size : Int) (hs : (Lit.int .i64 size).wf = true) (life : Int) (hl : (Lit.int .i64 life).wf = true) :
    Calls Try.prog 5 #[.int .i64 n, .int .i64 size, .int .i64 life] w (RetTrue w) := by
  clear hn hs hl
  have hways : (n < 0 ∨ (decide (n < 0) = false ∧ (210 < n ∨ (decide (210 < n) = false ∧ (size < 0 ∨ (decide (size < 0) = false ∧ (65541 < size ∨ (decide (65541 < size) = false ∧ (5 < n ∧ 100 < size))))))))) ∨ (0 ≤ n ∧ n ≤ 210 ∧ 0 ≤ size ∧ size ≤ 65541 ∧ ¬ (5 < n ∧ 100 < size)) := by
    by_cases h1 : n < 0
    · exact .inl (.inl h1)
    by_cases h2 : 210 < n
    · exact .inl (.inr ⟨by simpa using h1, .inl h2⟩)
    by_cases h3 : size < 0
    · exact .inl (.inr ⟨by simpa using h1, .inr ⟨by simpa using h2, .inl h3⟩⟩)
    by_cases h4 : 65541 < size
    · exact .inl (.inr ⟨by simpa using h1, .inr ⟨by simpa using h2, .inr ⟨by simpa using h3, .inl h4⟩⟩⟩)
    by_cases h5 : 5 < n ∧ 100 < size
    · exact .inl (.inr ⟨by simpa using h1, .inr ⟨by simpa using h2, .inr ⟨by simpa using h3, .inr ⟨by simpa using h4, h5⟩⟩⟩⟩)
    · exact .inr ⟨by omega, by omega, by omega, by omega, h5⟩
  rcases hways with hbad | ⟨h1, h2, h3, h4, h5⟩
  · rcases hbad with e1 | ⟨e1, e2 | ⟨e2, e3 | ⟨e3, e4 | ⟨e4, e5, e6⟩⟩⟩⟩
    all_goals
      go_enter Try.func5, Try.ntmps5
      go_wp2_with (first
        | (refine wpList_unguard rfl ?_)
        | (go_at_call 6; refine (awake_any _).mono ?_; rintro e w' ⟨rfl, hb⟩))
      go_ret
      exact ⟨rfl, hb⟩
  · obtain ⟨N, rfl⟩ := Int.eq_ofNat_of_zero_le h1
    obtain ⟨S, rfl⟩ := Int.eq_ofNat_of_zero_le h3
    by_cases hL : life < 1 ∨ 1099511627776 < life
    · exact limits_life w N S life (by omega) (by omega) (by omega) hL
    · obtain ⟨L, rfl⟩ := Int.eq_ofNat_of_zero_le (a := life) (by omega)
      exact limits_good w N S L (by omega) (by omega) (by omega) (by omega) (by omega)
end Go.Proofs.Ytchhejheobceiaa
