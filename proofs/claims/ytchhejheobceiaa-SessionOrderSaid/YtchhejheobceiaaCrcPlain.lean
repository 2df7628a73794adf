/- Plain laws of frames: what was put is told again; one byte that is changed is found. No program; no condition. -/
import Derived.Test.YtchhejheobceiaaFrameNext
import Derived.Test.YtchhejheobceiaaFramePut
namespace Go.Proofs.Ytchhejheobceiaa
open Go.RowKit
set_option linter.unusedVariables false

theorem xor_poly_high {x : Nat} (hx : x < 2147483648) : 2147483648 ≤ x ^^^ crcPoly := by
  refine Decidable.byContradiction fun h => ?_
  have h1 : (x ^^^ crcPoly).testBit 31 = false := Nat.testBit_lt_two_pow (by omega)
  have h2 : x.testBit 31 = false := Nat.testBit_lt_two_pow (by omega)
  have h3 : crcPoly.testBit 31 = true := by decide
  rw [Nat.testBit_xor, h2, h3] at h1
  cases h1
theorem xor_cancel {a b c : Nat} (h : a ^^^ c = b ^^^ c) : a = b := by
  have h1 : (a ^^^ c) ^^^ c = (b ^^^ c) ^^^ c := by rw [h]
  rwa [Nat.xor_assoc, Nat.xor_assoc, Nat.xor_self, Nat.xor_zero, Nat.xor_zero] at h1
theorem crcBit_inj {a b : Nat} (ha : a < 4294967296) (hb : b < 4294967296) (h : crcBit a = crcBit b) : a = b := by
  unfold crcBit at h
  by_cases h1 : a % 2 = 1 <;> by_cases h2 : b % 2 = 1
  · rw [if_pos h1, if_pos h2] at h
    have := xor_cancel h
    omega
  · rw [if_pos h1, if_neg h2] at h
    have := xor_poly_high (x := a / 2) (by omega)
    omega
  · rw [if_neg h1, if_pos h2] at h
    have := xor_poly_high (x := b / 2) (by omega)
    omega
  · rw [if_neg h1, if_neg h2] at h
    omega
theorem crcBits_inj {a b : Nat} (ha : a < 4294967296) (hb : b < 4294967296) : ∀ j, crcBits j a = crcBits j b → a = b
  | 0, h => h
  | j + 1, h => crcBits_inj ha hb j (crcBit_inj (crcBits_lt ha j) (crcBits_lt hb j) h)
theorem crcStep_inj {r r' : Nat} (hr : r < 4294967296) (hr' : r' < 4294967296) (b : UInt8) (h : crcStep r b = crcStep r' b) : r = r' :=
  xor_cancel (crcBits_inj (xor_byte_lt hr b) (xor_byte_lt hr' b) 8 h)
theorem crcStep_byte {r : Nat} (hr : r < 4294967296) {b b' : UInt8} (h : crcStep r b = crcStep r b') : b = b' := by
  have h1 := crcBits_inj (xor_byte_lt hr b) (xor_byte_lt hr b') 8 h
  rw [Nat.xor_comm, Nat.xor_comm r] at h1
  exact UInt8.toNat_inj.1 (xor_cancel h1)
theorem crcFrom_inj : ∀ (l : List UInt8) {r r' : Nat}, r < 4294967296 → r' < 4294967296 → crcFrom r l = crcFrom r' l → r = r'
  | [], _, _, _, _, h => h
  | c :: t, _, _, hr, hr', h => crcStep_inj hr hr' c (crcFrom_inj t (crcStep_lt hr c) (crcStep_lt hr' c) h)
theorem crcFrom_append (r : Nat) (a b : List UInt8) : crcFrom r (a ++ b) = crcFrom (crcFrom r a) b := by
  unfold crcFrom
  rw [List.foldl_append]
theorem ones_lt : crcOnes < 4294967296 := by unfold crcOnes; omega
/-- One byte that is changed changes the sum. -/
theorem sum_flip (a z : List UInt8) {b b' : UInt8} (h : sumL (a ++ b :: z) = sumL (a ++ b' :: z)) : b = b' := by
  have h1 : crcL (a ++ b :: z) = crcL (a ++ b' :: z) := xor_cancel h
  unfold crcL at h1
  rw [crcFrom_append, crcFrom_append] at h1
  have hr := crcFrom_lt ones_lt a
  exact crcStep_byte hr (crcFrom_inj z (crcStep_lt hr b) (crcStep_lt hr b') h1)

theorem word4_le4 (v : Nat) (hv : v < 4294967296) : word4 (nthByte v 0) (nthByte v 1) (nthByte v 2) (nthByte v 3) = v := by
  unfold word4 nthByte
  rw [Lib.toUInt8_toNat (by omega), Lib.toUInt8_toNat (by omega), Lib.toUInt8_toNat (by omega), Lib.toUInt8_toNat (by omega)]
  omega
theorem nextL_le4 (n : Nat) (hn : n ≤ 131072) (r : List UInt8) (hr : n + 4 ≤ r.length) :
    nextL (le4 n ++ r) = if sumL (le4 n ++ r.take n) = headWord (r.drop n) then (r.take n, n + 8, 1) else ([], 0, 3) := by
  have h := nextL_cons (nthByte n 0) (nthByte n 1) (nthByte n 2) (nthByte n 3) r
  rw [word4_le4 n (by omega), if_neg (by unfold frameMost; omega), if_neg (by omega)] at h
  exact h
theorem headWord_le4 (v : Nat) (hv : v < 4294967296) (r : List UInt8) : headWord (le4 v ++ r) = v := word4_le4 v hv
/-- What was put is told again, whatever stands behind. -/
theorem next_put (p r : List UInt8) (hp : p.length ≤ 131072) : nextL (putL p ++ r) = (p, p.length + 8, 1) := by
  have e : putL p ++ r = le4 p.length ++ (p ++ (le4 (sumL (le4 p.length ++ p)) ++ r)) := by unfold putL; simp only [List.append_assoc]
  rw [e, nextL_le4 _ hp _ (by simp only [List.length_append, le4_length]; omega), List.take_left, List.drop_left, headWord_le4 _ (sumL_lt _), if_pos rfl]
/-- One byte of the text that is changed: bad. -/
theorem next_flip (a z : List UInt8) {b b' : UInt8} (hne : b ≠ b') (hp : (a ++ b :: z).length ≤ 131072) :
    nextL (le4 (a ++ b :: z).length ++ (a ++ b' :: z) ++ le4 (sumL (le4 (a ++ b :: z).length ++ (a ++ b :: z)))) = ([], 0, 3) := by
  have hl : (a ++ b' :: z).length = (a ++ b :: z).length := by simp
  rw [List.append_assoc, nextL_le4 _ hp _ (by simp only [List.length_append, le4_length, List.length_cons] at *; omega), ← hl, List.take_left, List.drop_left, hl]
  have e := headWord_le4 (sumL (le4 (a ++ b :: z).length ++ (a ++ b :: z))) (sumL_lt _) []
  rw [List.append_nil] at e
  rw [e, if_neg]
  intro h
  rw [← List.append_assoc, ← List.append_assoc] at h
  exact hne (sum_flip _ _ h).symm
end Go.Proofs.Ytchhejheobceiaa
