/- What the eye reads of a packet's body is what parse says. No program; no condition. -/
import Derived.Test.YtchhejheobceiaaSesJ
namespace Go.Proofs.Ytchhejheobceiaa
open Go.RowKit
set_option linter.unusedVariables false

def bodyOf (b : List UInt8) : Option (Hd × List UInt8) := match numsL 4 b with
  | none => none
  | some (xs, r) => hdL xs r
theorem nextL_fl (l : List UInt8) : (nextL l).2.1 ≤ l.length := by
  match l with
  | [] => exact Nat.zero_le _
  | [_] => exact Nat.zero_le _
  | [_, _] => exact Nat.zero_le _
  | [_, _, _] => exact Nat.zero_le _
  | a :: b :: c :: d :: r =>
    rw [nextL_cons]
    by_cases h1 : frameMost < word4 a b c d
    · rw [if_pos h1]; exact Nat.zero_le _
    rw [if_neg h1]
    by_cases h2 : r.length < word4 a b c d + 4
    · rw [if_pos h2]; exact Nat.zero_le _
    rw [if_neg h2]
    split
    · simp only [List.length_cons]; omega
    · exact Nat.zero_le _
theorem nextL_body (l : List UInt8) : (nextL l).1.length ≤ frameMost := by
  match l with
  | [] => exact Nat.zero_le _
  | [_] => exact Nat.zero_le _
  | [_, _] => exact Nat.zero_le _
  | [_, _, _] => exact Nat.zero_le _
  | a :: b :: c :: d :: r =>
    rw [nextL_cons]
    by_cases h1 : frameMost < word4 a b c d
    · rw [if_pos h1]; exact Nat.zero_le _
    rw [if_neg h1]
    by_cases h2 : r.length < word4 a b c d + 4
    · rw [if_pos h2]; exact Nat.zero_le _
    rw [if_neg h2]
    split
    · simp only [List.length_take]; omega
    · exact Nat.zero_le _
theorem parseL_of {l b : List UInt8} {fl kd : Nat} (h : nextL l = (b, fl, kd)) : parseL l = if kd ≠ 1 ∨ fl ≠ l.length then none else bodyOf b := by
  have hfl := nextL_fl l
  unfold parseL bodyOf
  rw [h] at hfl ⊢
  simp only at hfl ⊢
  by_cases h1 : kd ≠ 1 ∨ fl < l.length
  · rw [if_pos h1, if_pos (by omega)]
  · rw [if_neg h1, if_neg (by omega)]
    cases numsL 4 b <;> rfl
theorem eyeN_bad (l : List UInt8) (i : Nat) : eyeN l i true = (0, i, true) := rfl
theorem eyeB_bad (l : List UInt8) (i : Nat) : eyeB l i true = (0, i, true) := rfl
theorem eyeN_good (l : List UInt8) (i : Nat) (hi : i ≤ l.length) : (∃ v i', eyeN l i false = (v, i', false) ∧ numL (l.drop i) = some (v, l.drop i') ∧ v ≤ farN ∧ i' ≤ l.length) ∨ (eyeN l i false = (0, i, true) ∧ numL (l.drop i) = none) := by
  cases h : numL (l.drop i) with
  | none => right; exact ⟨by unfold eyeN; rw [h]; rfl, rfl⟩
  | some p =>
    obtain ⟨v, r⟩ := p
    left
    have hf := numL_far h
    have hr : r = l.drop (i + (unv (l.drop i)).2) := by
      unfold numL at h
      split at h
      · cases h
      · injection h with h; injection h with _ h; rw [← h, List.drop_drop]
    have hl := unv_lt (l.drop i)
    rw [List.length_drop] at hl
    exact ⟨v, i + (unv (l.drop i)).2, by unfold eyeN; rw [h]; rfl, by rw [hr], hf, by omega⟩
/-- The five readings, and what they say. -/
structure Eye5 (b : List UInt8) (x1 x2 x3 x4 y i5 : Nat) (b5 : Bool) : Prop where
  far : x1 ≤ farN ∧ x2 ≤ farN ∧ x3 ≤ farN ∧ x4 ≤ farN
  byte : y ≤ 255
  le : i5 ≤ b.length
  bad : b5 = true → bodyOf b = none
  good : b5 = false → bodyOf b = if x1 < 1 ∨ 1 < y ∨ (y = 0 ∧ i5 ≠ b.length) then none else some (⟨x1, x2, x3, x4, y == 1⟩, b.drop i5)
theorem eye_all (b : List UInt8) : ∃ x1 i1 b1 x2 i2 b2 x3 i3 b3 x4 i4 b4 y i5 b5, eyeN b 0 false = (x1, i1, b1) ∧ eyeN b i1 b1 = (x2, i2, b2) ∧ eyeN b i2 b2 = (x3, i3, b3) ∧ eyeN b i3 b3 = (x4, i4, b4) ∧ eyeB b i4 b4 = (y, i5, b5) ∧ Eye5 b x1 x2 x3 x4 y i5 b5 := by
  have dead : ∀ (x1 x2 x3 x4 i : Nat), x1 ≤ farN → x2 ≤ farN → x3 ≤ farN → x4 ≤ farN → i ≤ b.length → bodyOf b = none → Eye5 b x1 x2 x3 x4 0 i true := fun x1 x2 x3 x4 i h1 h2 h3 h4 h5 h6 => ⟨⟨h1, h2, h3, h4⟩, by omega, h5, fun _ => h6, fun h => by cases h⟩
  have z : (0 : Nat) ≤ farN := Nat.zero_le _
  rcases eyeN_good b 0 (Nat.zero_le _) with ⟨x1, i1, e1, n1, f1, l1⟩ | ⟨e1, n1⟩
  · rcases eyeN_good b i1 l1 with ⟨x2, i2, e2, n2, f2, l2⟩ | ⟨e2, n2⟩
    · rcases eyeN_good b i2 l2 with ⟨x3, i3, e3, n3, f3, l3⟩ | ⟨e3, n3⟩
      · rcases eyeN_good b i3 l3 with ⟨x4, i4, e4, n4, f4, l4⟩ | ⟨e4, n4⟩
        · have hn : numsL 4 b = some ([x1, x2, x3, x4], b.drop i4) := by
            rw [List.drop_zero] at n1
            simp only [numsL, n1, n2, n3, n4]
            rfl
          by_cases hb : i4 < b.length
          · obtain ⟨u, hu⟩ : ∃ u, b[i4]? = some u := ⟨_, List.getElem?_eq_getElem hb⟩
            have hd : b.drop i4 = u :: b.drop (i4 + 1) := unv_drop hu
            refine ⟨x1, i1, false, x2, i2, false, x3, i3, false, x4, i4, false, u.toNat, i4 + 1, false, e1, e2, e3, e4, by unfold eyeB; rw [hu]; rfl, ⟨f1, f2, f3, f4⟩, by have := u.toNat_lt; omega, by omega, (fun h => by cases h), fun _ => ?_⟩
            unfold bodyOf
            rw [hn, hd]
            simp only [hdL]
            have hm : b.drop (i4 + 1) ≠ [] ↔ i4 + 1 ≠ b.length := by
              rw [Ne, List.drop_eq_nil_iff]
              omega
            by_cases hc : x1 < 1 ∨ 1 < u.toNat ∨ (u.toNat = 0 ∧ i4 + 1 ≠ b.length)
            · rw [if_pos hc, if_pos (by simpa [hm] using hc)]
            · rw [if_neg hc, if_neg (by rw [hm]; simpa using hc)]
              rfl
          · refine ⟨x1, i1, false, x2, i2, false, x3, i3, false, x4, i4, false, 0, i4, true, e1, e2, e3, e4, by unfold eyeB; rw [List.getElem?_eq_none (by omega)]; rfl, dead _ _ _ _ _ f1 f2 f3 f4 l4 ?_⟩
            unfold bodyOf
            rw [hn, List.drop_of_length_le (by omega)]
            rfl
        · refine ⟨x1, i1, false, x2, i2, false, x3, i3, false, 0, i3, true, 0, i3, true, e1, e2, e3, e4, rfl, dead _ _ _ _ _ f1 f2 f3 z l3 ?_⟩
          rw [List.drop_zero] at n1
          simp only [bodyOf, numsL, n1, n2, n3, n4]
          rfl
      · refine ⟨x1, i1, false, x2, i2, false, 0, i2, true, 0, i2, true, 0, i2, true, e1, e2, e3, rfl, rfl, dead _ _ _ _ _ f1 f2 z z l2 ?_⟩
        rw [List.drop_zero] at n1
        simp only [bodyOf, numsL, n1, n2, n3]
        rfl
    · refine ⟨x1, i1, false, 0, i1, true, 0, i1, true, 0, i1, true, 0, i1, true, e1, e2, rfl, rfl, rfl, dead _ _ _ _ _ f1 z z z l1 ?_⟩
      rw [List.drop_zero] at n1
      simp only [bodyOf, numsL, n1, n2]
      rfl
  · refine ⟨0, 0, true, 0, 0, true, 0, 0, true, 0, 0, true, 0, 0, true, e1, rfl, rfl, rfl, rfl, dead _ _ _ _ _ z z z z (Nat.zero_le _) ?_⟩
    rw [List.drop_zero] at n1
    simp only [bodyOf, numsL, n1]
end Go.Proofs.Ytchhejheobceiaa
