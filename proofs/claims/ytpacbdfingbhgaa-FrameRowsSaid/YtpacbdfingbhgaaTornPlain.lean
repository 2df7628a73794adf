/- Plain laws of a row of frames that is cut off anywhere. No program; no condition. -/
import Derived.Test.YtpacbdfingbhgaaScanPlain
import Derived.Test.YtpacbdfingbhgaaTotal
namespace Go.Proofs.Ytpacbdfingbhgaa
open Go.RowKit
set_option linter.unusedVariables false

/-- Where the first i frames end. -/
def endAt (ls : List (List UInt8)) (i : Nat) : Nat := (putsL (ls.take i)).length
def endsL (ls : List (List UInt8)) (k : Nat) : List Nat := (List.range k).map (endAt ls)
theorem endAt_zero (ls : List (List UInt8)) : endAt ls 0 = 0 := by simp [endAt, putsL]
theorem putsL_snoc {ls : List (List UInt8)} {i : Nat} {l : List UInt8} (h : ls[i]? = some l) : putsL (ls.take (i + 1)) = putsL (ls.take i) ++ putL l := by
  rw [List.take_add_one, h, putsL_append]
  simp [putsL]
theorem endAt_succ {ls : List (List UInt8)} {i : Nat} {l : List UInt8} (h : ls[i]? = some l) : endAt ls (i + 1) = endAt ls i + (l.length + 8) := by
  unfold endAt
  rw [putsL_snoc h, List.length_append, putL_length]
theorem putsL_length : ∀ ls : List (List UInt8), (putsL ls).length = (ls.map List.length).sum + 8 * ls.length
  | [] => by simp [putsL]
  | p :: r => by
    have := putsL_length r
    simp only [putsL, List.flatMap_cons, List.length_append, putL_length, List.map_cons, List.sum_cons, List.length_cons] at *
    omega
theorem sum_take_le : ∀ (ls : List (List UInt8)) (i : Nat), ((ls.take i).map List.length).sum ≤ (ls.map List.length).sum
  | [], i => by simp
  | p :: r, 0 => by simp
  | p :: r, i + 1 => by
    have := sum_take_le r i
    simp only [List.take_succ_cons, List.map_cons, List.sum_cons]
    omega
theorem len_le_sum : ∀ (ls : List (List UInt8)) (l : List UInt8), l ∈ ls → l.length ≤ (ls.map List.length).sum
  | p :: r, l, h => by
    simp only [List.map_cons, List.sum_cons]
    rcases List.mem_cons.1 h with rfl | h
    · omega
    · have := len_le_sum r l h
      omega
theorem endAt_le (ls : List (List UInt8)) (i : Nat) : endAt ls i ≤ (ls.map List.length).sum + 8 * ls.length := by
  unfold endAt
  rw [putsL_length]
  have h1 := sum_take_le ls i
  have h2 : (ls.take i).length ≤ ls.length := List.length_take_le' _ _
  omega
theorem endAt_all (ls : List (List UInt8)) : endAt ls ls.length = (putsL ls).length := by unfold endAt; rw [List.take_length]
theorem endsL_get {ls : List (List UInt8)} {k i : Nat} (h : i < k) : (endsL ls k)[i]? = some (endAt ls i) := by
  unfold endsL
  rw [List.getElem?_map, List.getElem?_range h]
  rfl
theorem endsL_one (ls : List (List UInt8)) : endsL ls (0 + 1) = [0] := by simp [endsL, endAt_zero]
theorem endsL_snoc (ls : List (List UInt8)) (k : Nat) : endsL ls (k + 1) = endsL ls k ++ [endAt ls k] := by
  unfold endsL
  rw [List.range_succ, List.map_append]
  rfl
theorem puts_split (ls : List (List UInt8)) (i : Nat) : putsL ls = putsL (ls.take i) ++ putsL (ls.drop i) := by
  rw [← putsL_append, List.take_append_drop]
/-- The cut at a frame's end. -/
theorem scan_at_end {ls : List (List UInt8)} {m r : Nat} (hall : ∀ q ∈ ls, q.length ≤ 131072) (he : endAt ls m = r) : scanL ((putsL ls).take r) = (ls.take m, r, 1) := by
  subst he
  unfold endAt
  have e : (putsL ls).take (putsL (ls.take m)).length = putsL (ls.take m) := by
    conv => lhs; rw [puts_split ls m]
    rw [List.take_left]
  rw [e, scanL_puts _ fun q hq => hall q (List.mem_of_mem_take hq)]
/-- The cut within a frame. -/
theorem scan_in_frame {ls : List (List UInt8)} {m r : Nat} {l : List UInt8} (hall : ∀ q ∈ ls, q.length ≤ 131072) (hl : ls[m]? = some l) (h1 : endAt ls m < r) (h2 : r < endAt ls (m + 1)) :
    scanL ((putsL ls).take r) = (ls.take m, endAt ls m, 2) := by
  have hs := endAt_succ hl
  have hd : ls.drop m = l :: ls.drop (m + 1) := by
    obtain ⟨hm, rfl⟩ := List.getElem?_eq_some_iff.1 hl
    exact List.drop_eq_getElem_cons hm
  have e : (putsL ls).take r = putsL (ls.take m) ++ (putL l).take (r - endAt ls m) := by
    conv => lhs; rw [puts_split ls m]
    rw [List.take_append, List.take_of_length_le (by unfold endAt at h1; omega), hd]
    show _ ++ (putL l ++ putsL (ls.drop (m + 1))).take (r - endAt ls m) = _
    rw [List.take_append_of_le_length (by rw [putL_length]; omega)]
  rw [e]
  exact scan_cut _ _ [] _ (fun q hq => hall q (List.mem_of_mem_take hq)) (hall l (List.mem_of_getElem? hl)) (by omega) (by rw [putL_length]; omega)
end Go.Proofs.Ytpacbdfingbhgaa
