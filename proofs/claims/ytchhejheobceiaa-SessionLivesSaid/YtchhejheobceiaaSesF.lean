/- The walk of SessionLives, whole. No condition. -/
import Derived.Test.YtchhejheobceiaaSesD
namespace Go.Proofs.Ytchhejheobceiaa
open Go.RowKit
set_option linter.unusedVariables false

set_option maxRecDepth 100000 in
set_option maxHeartbeats 8000000 in
theorem sessionLives_walk (w : World) (n : Int) (hn : (Lit.int .i64 n).wf = true) (old : Int) (hs : (Lit.int .i64 old).wf = true) (young : Int) (hl : (Lit.int .i64 young).wf = true) :
    Calls Try.prog 3 #[.int .i64 n, .int .i64 old, .int .i64 young] w (RetTrue w) := by
  clear hn hs hl
  have hways : (n < 0 ∨ (decide (n < 0) = false ∧ (20 < n ∨ (decide (20 < n) = false ∧ (old < 1 ∨ (decide (old < 1) = false ∧ (1000 < old ∨ (decide (1000 < old) = false ∧ (young ≤ old ∨ (decide (young ≤ old) = false ∧ 2000 < young)))))))))) ∨ (0 ≤ n ∧ n ≤ 20 ∧ 1 ≤ old ∧ old ≤ 1000 ∧ old < young ∧ young ≤ 2000) := by
    by_cases h1 : n < 0
    · exact .inl (.inl h1)
    by_cases h2 : 20 < n
    · exact .inl (.inr ⟨by simpa using h1, .inl h2⟩)
    by_cases h3 : old < 1
    · exact .inl (.inr ⟨by simpa using h1, .inr ⟨by simpa using h2, .inl h3⟩⟩)
    by_cases h4 : 1000 < old
    · exact .inl (.inr ⟨by simpa using h1, .inr ⟨by simpa using h2, .inr ⟨by simpa using h3, .inl h4⟩⟩⟩)
    by_cases h5 : young ≤ old
    · exact .inl (.inr ⟨by simpa using h1, .inr ⟨by simpa using h2, .inr ⟨by simpa using h3, .inr ⟨by simpa using h4, .inl h5⟩⟩⟩⟩)
    by_cases h6 : 2000 < young
    · exact .inl (.inr ⟨by simpa using h1, .inr ⟨by simpa using h2, .inr ⟨by simpa using h3, .inr ⟨by simpa using h4, .inr ⟨by simpa using h5, h6⟩⟩⟩⟩⟩)
    · exact .inr ⟨by omega, by omega, by omega, by omega, by omega, by omega⟩
  rcases hways with hbad | ⟨h1, h2, h3, h4, h5, h6⟩
  · rcases hbad with e1 | ⟨e1, e2 | ⟨e2, e3 | ⟨e3, e4 | ⟨e4, e5 | ⟨e5, e6⟩⟩⟩⟩⟩
    all_goals
      go_enter Try.func3, Try.ntmps3
      go_wp2_with (first
        | (refine wpList_unguard rfl ?_)
        | (go_at_call 6; refine (awake_any _).mono ?_; rintro e w' ⟨rfl, hb⟩))
      go_ret
      exact ⟨rfl, hb⟩
  · obtain ⟨N, rfl⟩ := Int.eq_ofNat_of_zero_le h1
    obtain ⟨O, rfl⟩ := Int.eq_ofNat_of_zero_le (a := old) (by omega)
    obtain ⟨Y, rfl⟩ := Int.eq_ofNat_of_zero_le (a := young) (by omega)
    exact lives_good w N O Y (by omega) (by omega) (by omega) (by omega) (by omega)
end Go.Proofs.Ytchhejheobceiaa
