/- Plain laws of a text that is laid and read again, or cut short. No program; no condition. -/
import Derived.Test.YtanpkkpmaenhgaaTake
import Derived.Test.YtanpkkpmaenhgaaText
namespace Go.Proofs.Ytanpkkpmaenhgaa
open Go.RowKit

theorem textL_nil (s : ByteArray) : textL [] s = Lib.uvarint s.size ++ s.data.toList := rfl
theorem textL_eq (l : List UInt8) (s : ByteArray) : textL l s = l ++ textL [] s := by simp [textL]
theorem unv_back (v : Nat) (s : ByteArray) (r : List UInt8) (hv : v < 18446744073709551616) : unv (textL (Lib.uvarint v) s ++ r) = (v, (Lib.uvarint v).length) := by
  rw [textL_eq, List.append_assoc, unv_uvarint v _ hv]
theorem take_back (s : ByteArray) (r : List UInt8) (hs : s.size < 18446744073709551616) : takeL (textL [] s ++ r) = (s.data.toList, (textL [] s).length) := by
  have hu : unv (textL [] s ++ r) = (s.size, (Lib.uvarint s.size).length) := by
    rw [textL_nil, List.append_assoc, unv_uvarint _ _ hs]
  have hp := Lib.uvarint_pos s.size
  unfold takeL
  rw [hu]
  simp only
  rw [if_neg, textL_nil, List.append_assoc, List.drop_append_of_le_length (Nat.le_refl _), List.drop_length, List.nil_append, List.take_append_of_le_length (by rw [size_toList]; exact Nat.le_refl _), ← size_toList s, List.take_length, List.length_append]
  rw [textL_nil]
  simp only [List.length_append, size_toList]
  omega
theorem take_cut (s : ByteArray) (k : Nat) (hs : s.size < 18446744073709551616) (hk : k < (textL [] s).length) : takeL ((textL [] s).take k) = ([], 0) := by
  have hl : (textL [] s).length = (Lib.uvarint s.size).length + s.size := by rw [textL_nil, List.length_append, size_toList]
  by_cases h : k < (Lib.uvarint s.size).length
  · have hu : unv ((textL [] s).take k) = (0, 0) := by
      refine unvFrom_high _ _ _ fun b hb => ?_
      obtain ⟨i, hi, e⟩ := List.getElem_of_mem hb
      rw [List.length_take] at hi
      rw [List.getElem_take] at e
      have e2 : (Lib.uvarint s.size)[i]? = some b := by
        rw [← e, List.getElem?_eq_getElem (by omega)]
        simp only [textL_nil]
        rw [List.getElem_append_left (by omega)]
      exact uvarint_high 10 s.size i b (by have : (128 : Nat) ^ 10 = 1180591620717411303424 := by decide
                                           omega) (by omega) e2
    unfold takeL
    rw [hu, if_pos (.inl rfl)]
  · have e : (textL [] s).take k = Lib.uvarint s.size ++ s.data.toList.take (k - (Lib.uvarint s.size).length) := by
      rw [textL_nil, List.take_append, List.take_of_length_le (by omega)]
    have hu : unv ((textL [] s).take k) = (s.size, (Lib.uvarint s.size).length) := by rw [e, unv_uvarint _ _ hs]
    have hlen : ((textL [] s).take k).length = k := by rw [List.length_take]; omega
    unfold takeL
    rw [hu, hlen]
    simp only
    rw [if_pos (.inr (by omega))]
end Go.Proofs.Ytanpkkpmaenhgaa
