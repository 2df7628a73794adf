/- The walks of bits.Zig, bits.Zag and the reference's: the sign folded away and unfolded. No condition. -/
import Derived.Test.YtanpkkpmaenhgaaOps
import Derived.WalkKit
import Derived.WalkSpells
import Derived.WalkLawsBesides
import Derived.Laws.BitsAllLaws
import Derived.Lib.Zigzag
import Derived.Lib.VarintDec
namespace Go.Proofs.Ytanpkkpmaenhgaa
open Go.RowKit

theorem zig_eq (n : Int) (h0 : -9223372036854775808 ≤ n) (h1 : n ≤ 9223372036854775807) :
    bits BinOp.xor IntKind.u64 (IntKind.u64.wrap (IntKind.u64.wrap n * 2)) (IntKind.u64.wrap (n / 9223372036854775808)) = (Lib.zigzag n : Int) := by
  by_cases hn : 0 ≤ n
  · have e1 : IntKind.u64.wrap (IntKind.u64.wrap n * 2) = ((2 * n.toNat : Nat) : Int) := by
      rw [IntKind.wrap_u64, IntKind.wrap_u64]; omega
    have e2 : IntKind.u64.wrap (n / 9223372036854775808) = ((0 : Nat) : Int) := by
      rw [IntKind.wrap_u64]; omega
    rw [e1, e2, u64_xor_nat _ _ (by omega) (by omega), Nat.xor_zero]
    unfold Lib.zigzag
    rw [if_pos hn]
    omega
  · have h := Lib.zigzag_neg h0 (by omega : n < 0)
    rw [← h]
    have e1 : IntKind.u64.wrap (IntKind.u64.wrap n * 2) = (((2 * n + 18446744073709551616).toNat : Nat) : Int) := by
      rw [IntKind.wrap_u64, IntKind.wrap_u64]; omega
    have e2 : IntKind.u64.wrap (n / 9223372036854775808) = ((18446744073709551615 : Nat) : Int) := by
      rw [IntKind.wrap_u64]; omega
    have e3 : IntKind.u64.max = ((18446744073709551615 : Nat) : Int) := by decide
    rw [e1, e2, e3, u64_xor_nat _ _ (by omega) (by omega), u64_xor_nat _ _ (by omega) (by omega), Nat.xor_comm]

theorem refZig_eq (n : Int) : (n < 0 → -(n + 1) * 2 + 1 = (Lib.zigzag n : Int)) ∧ (¬ n < 0 → n * 2 = (Lib.zigzag n : Int)) := by
  unfold Lib.zigzag
  constructor <;> intro h
  · rw [if_neg (by omega)]; omega
  · rw [if_pos (by omega)]; omega

theorem i64_xor_zero (x : Nat) (hx : x < 9223372036854775808) : bits .xor .i64 (x : Int) 0 = (x : Int) := by
  show IntKind.i64.wrap ((BitVec.ofInt 64 (x : Int) ^^^ BitVec.ofInt 64 0).toNat : Int) = _
  have h1 : (BitVec.ofInt 64 0).toNat = 0 := by decide
  have h2 : (BitVec.ofInt 64 (x : Int)).toNat = x := by
    rw [BitVec.ofInt_natCast, BitVec.toNat_ofNat]; exact Nat.mod_eq_of_lt (by omega)
  rw [BitVec.toNat_xor, h1, h2, Nat.xor_zero, IntKind.wrap_i64]
  omega
theorem i64_xor_ones (x : Nat) (hx : x < 9223372036854775808) : bits .xor .i64 (x : Int) (-1) = -(x : Int) - 1 := by
  rw [← Lib.i64_not x hx]
  show IntKind.i64.wrap ((BitVec.ofInt 64 (x : Int) ^^^ BitVec.ofInt 64 (-1)).toNat : Int) = IntKind.i64.wrap ((BitVec.ofInt 64 (-1) ^^^ BitVec.ofInt 64 (x : Int)).toNat : Int)
  rw [BitVec.xor_comm]

theorem zag_eq (v : Nat) (h : v < 18446744073709551616) : bits BinOp.xor IntKind.i64 ((v : Int) / 2) (wrap64 (-wrap64 (bits BinOp.and IntKind.u64 (v : Int) 1))) = Lib.unzigzag v := by
  rw [Lib.u64_and1 _ (by omega) (by omega), show ((v : Int) / 2) = ((v / 2 : Nat) : Int) from by omega]
  unfold Lib.unzigzag
  by_cases hv : v % 2 = 0
  · rw [if_pos hv, show wrap64 (-wrap64 ((v : Int) % 2)) = 0 from by unfold wrap64; omega, i64_xor_zero _ (by omega)]
  · rw [if_neg hv, show wrap64 (-wrap64 ((v : Int) % 2)) = -1 from by unfold wrap64; omega, i64_xor_ones _ (by omega)]
theorem refZag_eq (v : Nat) : (v % 2 = 1 → -((v : Int) / 2) - 1 = Lib.unzigzag v) ∧ (¬ v % 2 = 1 → (v : Int) / 2 = Lib.unzigzag v) := by
  unfold Lib.unzigzag
  constructor <;> intro h
  · rw [if_neg (by omega)]; omega
  · rw [if_pos (by omega)]; omega

set_option maxRecDepth 100000 in
theorem zig_any (n : Int) (w : World) (h0 : -9223372036854775808 ≤ n) (h1 : n ≤ 9223372036854775807) :
    Calls Try.prog 11 #[.int .i64 n] w fun e w' => e = .returned (.int .u64 (Lib.zigzag n)) ∧ w = w' := by
  go_enter Try.func11, Try.ntmps11
  go_wp2
  go_ret
  exact ⟨ret_int (zig_eq n h0 h1), rfl⟩
set_option maxRecDepth 100000 in
theorem refZig_any (n : Int) (w : World) (h0 : -9223372036854775808 ≤ n) (h1 : n ≤ 9223372036854775807) :
    Calls Try.prog 12 #[.int .i64 n] w fun e w' => e = .returned (.int .u64 (Lib.zigzag n)) ∧ w = w' := by
  by_cases hn : n < 0
  all_goals
    go_enter Try.func12, Try.ntmps12
    go_wp2
    go_ret
  · exact ⟨ret_int ((refZig_eq n).1 hn), rfl⟩
  · exact ⟨ret_int ((refZig_eq n).2 (by omega)), rfl⟩
set_option maxRecDepth 100000 in
theorem zag_any (v : Nat) (w : World) (h : v < 18446744073709551616) :
    Calls Try.prog 13 #[.int .u64 v] w fun e w' => e = .returned (.int .i64 (Lib.unzigzag v)) ∧ w = w' := by
  go_enter Try.func13, Try.ntmps13
  go_wp2
  go_ret
  exact ⟨ret_int (zag_eq v h), rfl⟩
set_option maxRecDepth 100000 in
theorem refZag_any (v : Nat) (w : World) (h : v < 18446744073709551616) :
    Calls Try.prog 14 #[.int .u64 v] w fun e w' => e = .returned (.int .i64 (Lib.unzigzag v)) ∧ w = w' := by
  by_cases hn : v % 2 = 1
  all_goals
    go_enter Try.func14, Try.ntmps14
    go_wp2
    go_ret
  · exact ⟨ret_int ((refZag_eq v).1 hn), rfl⟩
  · exact ⟨ret_int ((refZag_eq v).2 hn), rfl⟩

theorem zag_zig (n : Int) : Lib.unzigzag (Lib.zigzag n) = n := by
  unfold Lib.zigzag Lib.unzigzag
  by_cases hn : 0 ≤ n
  · rw [if_pos hn, if_pos (by omega)]; omega
  · rw [if_neg hn, if_neg (by omega)]; omega
theorem zig_zag (v : Nat) : Lib.zigzag (Lib.unzigzag v) = v := by
  unfold Lib.zigzag Lib.unzigzag
  by_cases hv : v % 2 = 0
  · rw [if_pos hv, if_pos (by omega)]; omega
  · rw [if_neg hv, if_neg (by omega)]; omega
theorem unzigzag_range (v : Nat) (h : v < 18446744073709551616) : -9223372036854775808 ≤ Lib.unzigzag v ∧ Lib.unzigzag v ≤ 9223372036854775807 := by
  unfold Lib.unzigzag
  split <;> omega
end Go.Proofs.Ytanpkkpmaenhgaa
