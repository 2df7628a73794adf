/- The number that bytes begin with, as a plain function, and its laws. No program; no condition. -/
import Derived.Test.YtchhejheobceiaaBase
import Derived.Laws.BitsAllLaws
import Derived.Lib.Varint
namespace Go.Proofs.Ytchhejheobceiaa
open Go.RowKit

def unvFrom (acc i : Nat) : List UInt8 → Nat × Nat
  | [] => (0, 0)
  | c :: r => if 10 ≤ i then (0, 0) else if c.toNat < 128 then (if i = 9 ∧ 1 < c.toNat ∨ 0 < i ∧ c.toNat = 0 then (0, 0) else (acc + c.toNat * 2 ^ (7 * i), i + 1)) else unvFrom (acc + (c.toNat % 128) * 2 ^ (7 * i)) (i + 1) r
/-- The number that bytes begin with, and how many bytes it has; 0 and 0: there is none. -/
def unv (l : List UInt8) : Nat × Nat := unvFrom 0 0 l

section
variable {l : List UInt8} {acc k : Nat} {b : UInt8}
theorem unv_drop (hb : l[k]? = some b) : l.drop k = b :: l.drop (k + 1) := by
  obtain ⟨hl, rfl⟩ := List.getElem?_eq_some_iff.1 hb
  exact List.drop_eq_getElem_cons hl
theorem unv_stop (hu : unv l = unvFrom acc k (l.drop k)) (hb : l[k]? = some b) (hs : ¬ 127 < b.toNat) (hbad : k = 9 ∧ 1 < b.toNat ∨ 0 < k ∧ b.toNat = 0) : unv l = (0, 0) := by
  rw [hu, unv_drop hb, unvFrom]
  by_cases h : 10 ≤ k
  · rw [if_pos h]
  · rw [if_neg h, if_pos (by omega), if_pos hbad]
theorem unv_good (hu : unv l = unvFrom acc k (l.drop k)) (hb : l[k]? = some b) (hk : k < 10) (hs : ¬ 127 < b.toNat) (hbad : ¬ (k = 9 ∧ 1 < b.toNat ∨ 0 < k ∧ b.toNat = 0)) : unv l = (acc + b.toNat * 2 ^ (7 * k), k + 1) := by
  rw [hu, unv_drop hb, unvFrom, if_neg (by omega), if_pos (by omega), if_neg hbad]
theorem unv_more (hu : unv l = unvFrom acc k (l.drop k)) (hb : l[k]? = some b) (hk : k < 10) (hs : 127 < b.toNat) : unv l = unvFrom (acc + (b.toNat % 128) * 2 ^ (7 * k)) (k + 1) (l.drop (k + 1)) := by
  rw [hu, unv_drop hb, unvFrom, if_neg (by omega), if_neg (by omega)]
theorem unv_end (hu : unv l = unvFrom acc k (l.drop k)) (h : l.length ≤ k ∨ 10 ≤ k) : unv l = (0, 0) := by
  rw [hu]
  cases hd : l.drop k with
  | nil => rfl
  | cons c r =>
    have : ¬ l.length ≤ k := fun h' => by rw [List.drop_eq_nil_of_le h'] at hd; cases hd
    rw [unvFrom, if_pos (by omega)]
theorem unv_stop9 (hu : unv l = unvFrom acc k (l.drop k)) (hb : l[k]? = some b) (hk : k = 9) (h1 : 1 < b.toNat) : unv l = (0, 0) := by
  by_cases hs : 127 < b.toNat
  · exact unv_end (unv_more hu hb (by omega) hs) (.inr (by omega))
  · exact unv_stop hu hb hs (.inl ⟨hk, h1⟩)
end

theorem pow7_le {k : Nat} (hk : k ≤ 9) : 2 ^ (7 * k) ≤ 9223372036854775808 := by
  have : (2 : Nat) ^ (7 * k) ≤ 2 ^ 63 := Nat.pow_le_pow_right (by omega) (by omega)
  simpa using this
theorem pow7_succ (k : Nat) : 2 ^ (7 * (k + 1)) = 128 * 2 ^ (7 * k) := by
  rw [show 7 * (k + 1) = 7 + 7 * k from by omega, Nat.pow_add]
theorem acc_step {acc k : Nat} {b : UInt8} (h : acc < 2 ^ (7 * k)) : acc + (b.toNat % 128) * 2 ^ (7 * k) < 2 ^ (7 * (k + 1)) := by
  rw [pow7_succ]
  have h1 : (b.toNat % 128) * 2 ^ (7 * k) ≤ 127 * 2 ^ (7 * k) := Nat.mul_le_mul_right _ (by omega)
  generalize 2 ^ (7 * k) = p at *
  omega
theorem u8and127 {x : Int} (h0 : 0 ≤ x) (h1 : x < 256) : bits .and .u8 x 127 = x % 128 := by
  obtain ⟨n, rfl⟩ := Int.eq_ofNat_of_zero_le h0
  rw [show (127 : Int) = ((127 : Nat) : Int) from rfl, u8_and_nat n 127 (by omega) (by omega), nat_mask7]
  omega
/-- The step as the program computes it. -/
theorem or_step {acc k : Nat} {b : UInt8} (h : acc < 2 ^ (7 * k)) (hk : k ≤ 9) (h9 : k = 9 → b.toNat % 128 ≤ 1) :
    bits BinOp.or IntKind.u64 (acc : Int) (IntKind.u64.wrap (IntKind.u64.wrap (bits BinOp.and IntKind.u8 (b.toNat : Int) 127) * 2 ^ (7 * k))) = ((acc + (b.toNat % 128) * 2 ^ (7 * k) : Nat) : Int) := by
  have hb := b.toNat_lt
  have hp := pow7_le hk
  rw [u8and127 (by omega) (by omega), show ((b.toNat : Int) % 128) = ((b.toNat % 128 : Nat) : Int) from by omega]
  have hm : (b.toNat % 128) * 2 ^ (7 * k) < 18446744073709551616 := by
    by_cases h9' : k = 9
    · have h1 := h9 h9'
      have h2 : (b.toNat % 128) * 2 ^ (7 * k) ≤ 1 * 2 ^ (7 * k) := Nat.mul_le_mul_right _ h1
      omega
    · have h1 : 2 ^ (7 * k) ≤ 72057594037927936 := by
        have : (2 : Nat) ^ (7 * k) ≤ 2 ^ 56 := Nat.pow_le_pow_right (by omega) (by omega)
        simpa using this
      have h2 : (b.toNat % 128) * 2 ^ (7 * k) ≤ 127 * 2 ^ (7 * k) := Nat.mul_le_mul_right _ (by omega)
      omega
  have e1 : IntKind.u64.wrap ((b.toNat % 128 : Nat) : Int) = ((b.toNat % 128 : Nat) : Int) := by rw [IntKind.wrap_u64]; omega
  have e2 : ((b.toNat % 128 : Nat) : Int) * 2 ^ (7 * k) = (((b.toNat % 128) * 2 ^ (7 * k) : Nat) : Int) := by rw [Int.natCast_mul, Int.natCast_pow]; rfl
  have e3 : IntKind.u64.wrap (((b.toNat % 128) * 2 ^ (7 * k) : Nat) : Int) = (((b.toNat % 128) * 2 ^ (7 * k) : Nat) : Int) := by
    rw [IntKind.wrap_u64]; generalize (b.toNat % 128) * 2 ^ (7 * k) = q at *; omega
  rw [e1, e2, e3, u64_or_nat _ _ (by omega) hm, Nat.or_comm, nat_join (7 * k) _ _ (Nat.mul_mod_left _ _) h, Nat.add_comm]

/-- What is laid is read as it was, whatever stands behind. -/
theorem unvFrom_uvarint (r : List UInt8) : ∀ (f v acc i : Nat), v < 128 ^ f → i + f ≤ 10 → v * 2 ^ (7 * i) < 18446744073709551616 → (0 < i → 0 < v) →
    unvFrom acc i (Lib.uvarint v ++ r) = (acc + v * 2 ^ (7 * i), i + (Lib.uvarint v).length)
  | 0, v, acc, i, hv, hi, hm, h0 => by
    have : v = 0 := by simpa using hv
    subst this
    have hi0 : i = 0 := by
      rcases Nat.eq_zero_or_pos i with h | h
      · exact h
      · exact absurd (h0 h) (by omega)
    subst hi0
    rw [Lib.uvarint_small (by omega)]
    simp [unvFrom]
  | f + 1, v, acc, i, hv, hi, hm, h0 => by
    by_cases hs : v < 128
    · have hc : (v.toUInt8).toNat = v := Lib.toUInt8_toNat (by omega)
      rw [Lib.uvarint_small hs, List.singleton_append, unvFrom, if_neg (by omega), hc, if_pos hs, if_neg]
      · rfl
      · rintro (⟨rfl, h1⟩ | ⟨h1, rfl⟩)
        · have : 2 * 2 ^ (7 * 9) ≤ v * 2 ^ (7 * 9) := Nat.mul_le_mul_right _ (by omega)
          have e : (2 : Nat) * 2 ^ (7 * 9) = 18446744073709551616 := by decide
          omega
        · exact absurd (h0 h1) (by omega)
    · have hc : ((v % 128 + 128).toUInt8).toNat = v % 128 + 128 := Lib.toUInt8_toNat (by omega)
      have e : v * 2 ^ (7 * i) = (v % 128) * 2 ^ (7 * i) + (v / 128) * 2 ^ (7 * (i + 1)) := by
        rw [pow7_succ, ← Nat.mul_assoc, ← Nat.add_mul]
        congr 1; omega
      rw [Lib.uvarint_big (by omega), List.cons_append, unvFrom, if_neg (by omega), hc, if_neg (by omega),
        unvFrom_uvarint r f (v / 128) _ (i + 1) (by rw [Nat.pow_succ] at hv; exact Nat.div_lt_of_lt_mul (by omega)) (by omega) (by omega) (by omega), List.length_cons]
      congr 1
      · rw [show (v % 128 + 128) % 128 = v % 128 from by omega, e]; omega
      · omega
theorem unv_uvarint (v : Nat) (r : List UInt8) (hv : v < 18446744073709551616) : unv (Lib.uvarint v ++ r) = (v, (Lib.uvarint v).length) := by
  unfold unv
  rw [unvFrom_uvarint r 10 v 0 0 (by have : (128 : Nat) ^ 10 = 1180591620717411303424 := by decide
                                     omega) (by omega) (by simpa using hv) (by omega)]
  simp
/-- Every byte of a varint but the last has the bit 128. -/
theorem uvarint_high : ∀ (f v k : Nat) (b : UInt8), v < 128 ^ f → k + 1 < (Lib.uvarint v).length → (Lib.uvarint v)[k]? = some b → 127 < b.toNat
  | 0, v, k, b, hv, hk, hb => by
    have : v = 0 := by simpa using hv
    subst this
    rw [Lib.uvarint_small (by omega)] at hk
    simp at hk
  | f + 1, v, k, b, hv, hk, hb => by
    by_cases hs : v < 128
    · rw [Lib.uvarint_small hs] at hk
      simp at hk
    · rw [Lib.uvarint_big (by omega)] at hk hb
      cases k with
      | zero =>
        injection hb with hb
        subst hb
        rw [Lib.toUInt8_toNat (by omega)]
        omega
      | succ k =>
        simp at hk hb
        exact uvarint_high f (v / 128) k b (by rw [Nat.pow_succ] at hv; exact Nat.div_lt_of_lt_mul (by omega)) (by omega) hb
/-- Bytes that all have the bit 128 are no number. -/
theorem unvFrom_high : ∀ (l : List UInt8) (acc i : Nat), (∀ b ∈ l, 127 < b.toNat) → unvFrom acc i l = (0, 0)
  | [], _, _, _ => rfl
  | c :: r, acc, i, h => by
    have hc := h c (by simp)
    rw [unvFrom]
    by_cases hi : 10 ≤ i
    · rw [if_pos hi]
    · rw [if_neg hi, if_neg (by omega)]
      exact unvFrom_high r _ _ fun b hb => h b (by simp [hb])
theorem unv_lt (l : List UInt8) : (unv l).2 ≤ l.length := by
  have : ∀ (l : List UInt8) (acc i : Nat), (unvFrom acc i l).2 = 0 ∨ (unvFrom acc i l).2 ≤ i + l.length := by
    intro l
    induction l with
    | nil => intro acc i; left; rfl
    | cons c r ih =>
      intro acc i
      rw [unvFrom]
      split
      · left; rfl
      · split
        · split
          · left; rfl
          · right; simp
        · rcases ih (acc + c.toNat % 128 * 2 ^ (7 * i)) (i + 1) with h | h
          · left; exact h
          · right; simp; omega
  have h := this l 0 0
  unfold unv
  omega
theorem unv_val (l : List UInt8) : (unv l).1 < 18446744073709551616 := by
  have : ∀ (l : List UInt8) (acc i : Nat), i ≤ 10 → acc < 2 ^ (7 * i) → (unvFrom acc i l).1 < 18446744073709551616 := by
    intro l
    induction l with
    | nil => intro acc i _ _; show (0 : Nat) < 18446744073709551616; omega
    | cons c r ih =>
      intro acc i hi ha
      rw [unvFrom]
      split
      · show (0 : Nat) < 18446744073709551616; omega
      · split
        · split
          · show (0 : Nat) < 18446744073709551616; omega
          · rename_i h1 h2 h3
            show acc + c.toNat * 2 ^ (7 * i) < _
            have hp := pow7_le (show i ≤ 9 by omega)
            by_cases h9 : i = 9
            · have : c.toNat * 2 ^ (7 * i) ≤ 1 * 2 ^ (7 * i) := Nat.mul_le_mul_right _ (by omega)
              omega
            · have h4 : 2 ^ (7 * i) ≤ 72057594037927936 := by
                have : (2 : Nat) ^ (7 * i) ≤ 2 ^ 56 := Nat.pow_le_pow_right (by omega) (by omega)
                simpa using this
              have h2 : c.toNat * 2 ^ (7 * i) ≤ 127 * 2 ^ (7 * i) := Nat.mul_le_mul_right _ (by omega)
              omega
        · exact ih _ _ (by omega) (acc_step ha)
  exact this l 0 0 (by omega) (by simp)
end Go.Proofs.Ytchhejheobceiaa
