/- The walks of frame.Sum and the reference's Sum: the check sum, bit by bit. No condition. -/
import Derived.Test.YtchhejheobceiaaOps
import Derived.Test.YtchhejheobceiaaAlike
import Derived.WalkKit
import Derived.WalkSpells
import Derived.WalkLawsBesides
import Derived.Laws.BitsAllLaws
namespace Go.Proofs.Ytchhejheobceiaa
open Go.RowKit
set_option linter.unusedVariables false

def crcPoly : Nat := 3988292384
def crcOnes : Nat := 4294967295
def crcBit (r : Nat) : Nat := if r % 2 = 1 then (r / 2) ^^^ crcPoly else r / 2
/-- j steps of one digit. -/
def crcBits : Nat → Nat → Nat
  | 0, r => r
  | j + 1, r => crcBit (crcBits j r)
def crcStep (r : Nat) (b : UInt8) : Nat := crcBits 8 (r ^^^ b.toNat)
def crcFrom (r : Nat) (l : List UInt8) : Nat := l.foldl crcStep r
def crcL (l : List UInt8) : Nat := crcFrom crcOnes l
/-- The check sum. -/
def sumL (l : List UInt8) : Nat := crcL l ^^^ crcOnes

theorem crcFrom_snoc (r : Nat) (l : List UInt8) (b : UInt8) : crcFrom r (l ++ [b]) = crcStep (crcFrom r l) b := by
  unfold crcFrom
  rw [List.foldl_append, List.foldl_cons, List.foldl_nil]
theorem crcBit_lt {r : Nat} (h : r < 4294967296) : crcBit r < 4294967296 := by
  unfold crcBit
  split
  · have : r / 2 ^^^ crcPoly < 2 ^ 32 := Nat.xor_lt_two_pow (by omega) (by unfold crcPoly; omega)
    omega
  · omega
theorem crcBits_lt {r : Nat} (h : r < 4294967296) : ∀ j, crcBits j r < 4294967296
  | 0 => h
  | j + 1 => crcBit_lt (crcBits_lt h j)
theorem xor_byte_lt {r : Nat} (h : r < 4294967296) (b : UInt8) : r ^^^ b.toNat < 4294967296 := by
  have hb := b.toNat_lt
  have : r ^^^ b.toNat < 2 ^ 32 := Nat.xor_lt_two_pow (by omega) (by omega)
  omega
theorem crcStep_lt {r : Nat} (h : r < 4294967296) (b : UInt8) : crcStep r b < 4294967296 := crcBits_lt (xor_byte_lt h b) 8
theorem crcFrom_lt {r : Nat} (h : r < 4294967296) (l : List UInt8) : crcFrom r l < 4294967296 := by
  rcases List.eq_nil_or_concat l with rfl | ⟨t, c, rfl⟩
  · exact h
  · have : ∀ (l : List UInt8) (r : Nat), r < 4294967296 → crcFrom r l < 4294967296 := by
      intro l
      induction l with
      | nil => intro r h; exact h
      | cons c t ih => intro r h; exact ih _ (crcStep_lt h c)
    exact this _ _ h
theorem crcL_lt (l : List UInt8) : crcL l < 4294967296 := crcFrom_lt (by unfold crcOnes; omega) l
theorem sumL_lt (l : List UInt8) : sumL l < 4294967296 := by
  have h := crcL_lt l
  have : crcL l ^^^ crcOnes < 2 ^ 32 := Nat.xor_lt_two_pow (by omega) (by unfold crcOnes; omega)
  unfold sumL
  omega
theorem crc_xor (r : Nat) (b : UInt8) (h : r < 4294967296) : bits .xor .u32 (r : Int) ((b.toNat : Int) % 4294967296) = ((r ^^^ b.toNat : Nat) : Int) := by
  have hb := b.toNat_lt
  rw [show ((b.toNat : Int) % 4294967296) = (b.toNat : Int) from by omega]
  exact u32_xor_nat _ _ h (by omega)
theorem crc_low (r : Nat) (h : r < 4294967296) : bits .and .u32 (r : Int) 1 = ((r % 2 : Nat) : Int) := by
  rw [show (1 : Int) = ((1 : Nat) : Int) from rfl, u32_and_nat r 1 h (by omega), nat_mask1]
theorem crc_poly (r : Nat) (h : r < 4294967296) (h1 : r % 2 = 1) : bits .xor .u32 ((r : Int) / 2) 3988292384 = (crcBit r : Int) := by
  rw [show ((r : Int) / 2) = ((r / 2 : Nat) : Int) from by omega, show (3988292384 : Int) = ((3988292384 : Nat) : Int) from rfl, u32_xor_nat _ _ (by omega) (by omega)]
  unfold crcBit crcPoly
  rw [if_pos h1]
theorem crc_half (r : Nat) (h1 : r % 2 = 0) : ((r : Int) / 2) = (crcBit r : Int) := by
  unfold crcBit
  rw [if_neg (by omega)]
  omega
theorem crc_end (r : Nat) (h : r < 4294967296) : bits .xor .u32 4294967295 (r : Int) = ((r ^^^ crcOnes : Nat) : Int) := by
  rw [show (4294967295 : Int) = ((4294967295 : Nat) : Int) from rfl, u32_xor_nat _ _ (by omega) h, Nat.xor_comm]
  rfl
theorem crc_start : (crcL [] : Int) = 4294967295 := rfl

set_option maxRecDepth 100000 in
set_option maxHeartbeats 800000 in
theorem sum_any (A : Option Addr) (n c : Nat) (l : List UInt8) (w : World) {B : Nat} (ha : Reads w B 1 A n (bc l)) (hn : n ≤ maxLen) :
    Calls Try.prog 39 #[.slice A n c] w fun e w' => e = .returned (.int .u32 (sumL l)) ∧ w = w' := by
  unfold maxLen at hn
  have HL : Hid (l.length = n) := by have := ha.1; rw [bc_length] at this; unfold Hid; omega
  go_enter Try.func39, Try.ntmps39
  go_wp2
  go_loop [3, 9] (fun h i => ∃ k : Nat, k ≤ n ∧ i = .int .i64 k ∧ h = .int .u32 (crcL (l.take k))) (fun _ i => n - (intOf i).toNat)
  case atStart => exact ⟨0, Nat.zero_le _, rfl, rfl⟩
  case round =>
    obtain ⟨k, hk, rfl, rfl⟩ := hrel
    have hl := crcL_lt (l.take k)
    by_cases hlt : k < n
    · obtain ⟨ad, b, rfl, hb, hca⟩ := ha.byte hlt
      have hx := crc_xor (crcL (l.take k)) b hl
      have hxl := xor_byte_lt hl b
      have HS : Hid (crcL (l.take (k + 1)) = crcStep (crcL (l.take k)) b) := by
        have e : l.take (k + 1) = l.take k ++ [b] := by
          rw [List.take_add_one, hb]; rfl
        rw [e]
        exact crcFrom_snoc _ _ _
      have HB := Lib.hid hb
      clear hb
      obtain ⟨r0, hr0⟩ : ∃ r0, r0 = crcL (l.take k) ^^^ b.toNat := ⟨_, rfl⟩
      rw [← hr0] at hx hxl
      have HR0 := Lib.hid hr0
      clear hr0
      go_wp2
      go_loop [3, 17] (fun h i => ∃ j : Nat, j ≤ 8 ∧ i = .int .i64 j ∧ h = .int .u32 (crcBits j r0)) (fun _ i => 8 - (intOf i).toNat)
      case atStart => exact ⟨0, Nat.zero_le _, rfl, rfl⟩
      case round =>
        obtain ⟨j, hj, rfl, rfl⟩ := hrel
        clear hx
        have hjl := crcBits_lt hxl j
        by_cases hj8 : j < 8
        · have hlow := crc_low _ hjl
          rcases Nat.mod_two_eq_zero_or_one (crcBits j r0) with h2 | h2
          · have HE := Lib.hid (crc_half _ h2)
            rw [h2] at hlow
            clear h2
            go_wp2
            go_round
            case rel => exact ⟨j + 1, by omega, by go_num, by rw [HE.out]; rfl⟩
            case measure => simp [intOf]; omega
          · have HE := Lib.hid (crc_poly _ hjl h2)
            rw [h2] at hlow
            clear h2
            go_wp2
            go_round
            case rel => exact ⟨j + 1, by omega, by go_num, by rw [HE.out]; rfl⟩
            case measure => simp [intOf]; omega
        · have h8 : 8 ≤ j := by omega
          go_wp2
          go_round
          case rel => exact ⟨k + 1, by omega, by go_num, by rw [HS.out, show j = 8 by omega, HR0.out]; rfl⟩
          case measure => simp [intOf]; omega
    · have hge : n ≤ k := by omega
      have HE : Hid (l.take k = l) := List.take_of_length_le (by have := HL.out; omega)
      clear hlt
      have hend := Lib.hid (crc_end _ hl)
      go_wp2
      go_ret
      refine ⟨ret_int ?_, rfl⟩
      rw [HE.out] at hend ⊢
      exact hend.out

set_option maxRecDepth 100000 in
set_option maxHeartbeats 800000 in
theorem refSum_any (A : Option Addr) (n c : Nat) (l : List UInt8) (w : World) {B : Nat} (ha : Reads w B 1 A n (bc l)) (hn : n ≤ maxLen) :
    Calls Try.prog 44 #[.slice A n c] w fun e w' => e = .returned (.int .u32 (sumL l)) ∧ w = w' := by
  unfold maxLen at hn
  have HL : Hid (l.length = n) := by have := ha.1; rw [bc_length] at this; unfold Hid; omega
  go_enter Try.func44, Try.ntmps44
  go_wp2
  go_loop [3, 4] (fun h i => ∃ k : Nat, k ≤ n ∧ i = .int .i64 k ∧ h = .int .u32 (crcL (l.take k))) (fun _ i => n - (intOf i).toNat)
  case atStart => exact ⟨0, Nat.zero_le _, rfl, rfl⟩
  case round =>
    obtain ⟨k, hk, rfl, rfl⟩ := hrel
    have hl := crcL_lt (l.take k)
    by_cases hlt : k < n
    · obtain ⟨ad, b, rfl, hb, hca⟩ := ha.byte hlt
      have hx := crc_xor (crcL (l.take k)) b hl
      have hxl := xor_byte_lt hl b
      have HS : Hid (crcL (l.take (k + 1)) = crcStep (crcL (l.take k)) b) := by
        have e : l.take (k + 1) = l.take k ++ [b] := by
          rw [List.take_add_one, hb]; rfl
        rw [e]
        exact crcFrom_snoc _ _ _
      have HB := Lib.hid hb
      clear hb
      obtain ⟨r0, hr0⟩ : ∃ r0, r0 = crcL (l.take k) ^^^ b.toNat := ⟨_, rfl⟩
      rw [← hr0] at hx hxl
      have HR0 := Lib.hid hr0
      clear hr0
      go_wp2
      go_loop [3, 5] (fun h i => ∃ j : Nat, j ≤ 8 ∧ i = .int .i64 j ∧ h = .int .u32 (crcBits j r0)) (fun _ i => 8 - (intOf i).toNat)
      case atStart => exact ⟨0, Nat.zero_le _, rfl, rfl⟩
      case round =>
        obtain ⟨j, hj, rfl, rfl⟩ := hrel
        clear hx
        have hjl := crcBits_lt hxl j
        by_cases hj8 : j < 8
        · have hlow := crc_low _ hjl
          rcases Nat.mod_two_eq_zero_or_one (crcBits j r0) with h2 | h2
          · have HE := Lib.hid (crc_half _ h2)
            rw [h2] at hlow
            clear h2
            go_wp2
            go_round
            case rel => exact ⟨j + 1, by omega, by go_num, by rw [HE.out]; rfl⟩
            case measure => simp [intOf]; omega
          · have HE := Lib.hid (crc_poly _ hjl h2)
            rw [h2] at hlow
            clear h2
            go_wp2
            go_round
            case rel => exact ⟨j + 1, by omega, by go_num, by rw [HE.out]; rfl⟩
            case measure => simp [intOf]; omega
        · have h8 : 8 ≤ j := by omega
          go_wp2
          go_round
          case rel => exact ⟨k + 1, by omega, by go_num, by rw [HS.out, show j = 8 by omega, HR0.out]; rfl⟩
          case measure => simp [intOf]; omega
    · have hge : n ≤ k := by omega
      have HE : Hid (l.take k = l) := List.take_of_length_le (by have := HL.out; omega)
      clear hlt
      have hend := Lib.hid (crc_end _ hl)
      go_wp2
      go_ret
      refine ⟨ret_int ?_, rfl⟩
      rw [HE.out] at hend ⊢
      exact hend.out
end Go.Proofs.Ytchhejheobceiaa
