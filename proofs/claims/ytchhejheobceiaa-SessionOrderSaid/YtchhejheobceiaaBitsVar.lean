/- The walks of bits.Varint and the reference's Varint: a number's groups of seven, in a row of the call's own. No condition. -/
import Derived.Test.YtchhejheobceiaaOps
import Derived.Test.YtchhejheobceiaaSnoc
import Derived.WalkKit
import Derived.WalkSpells
import Derived.WalkLawsBesides
import Derived.Laws.BitsAllLaws
import Derived.Lib.Varint
import Derived.Deep.DeepMust
namespace Go.Proofs.Ytchhejheobceiaa
open Go.RowKit

theorem byte_big (x : Nat) : bits .or .u8 ((x : Int) % 256) 128 = (((x % 128 + 128).toUInt8.toNat : Nat) : Int) := by
  rw [Lib.u8_or128_any _ (by omega) (by omega), Lib.toUInt8_toNat (by omega)]
  omega
theorem byte_big' (x : Nat) (hx : x < 18446744073709551616) : bits .or .u64 (bits .and .u64 (x : Int) 127) 128 % 256 = (((x % 128 + 128).toUInt8.toNat : Nat) : Int) := by
  rw [show (127 : Int) = ((127 : Nat) : Int) from rfl, show (128 : Int) = ((128 : Nat) : Int) from rfl, u64_and_nat x 127 hx (by omega), nat_mask7, u64_or_nat (x % 128) 128 (by omega) (by omega), Lib.toUInt8_toNat (by omega)]
  have h := Lib.or128_nat ⟨x % 128, by omega⟩
  simp only at h
  rw [h]
  omega
theorem byte_small (x : Nat) (h : x < 128) : ((x : Int) % 256) = ((x.toUInt8.toNat : Nat) : Int) := by
  rw [Lib.toUInt8_toNat (by omega)]
  omega


theorem varint_room {pre : List UInt8} {x v : Nat} (hv : v < 18446744073709551616) (h : pre ++ Lib.uvarint x = Lib.uvarint v) : pre.length + 1 ≤ 10 := by
  have h1 := Lib.uvarint_length64 hv
  have h2 := Lib.uvarint_pos x
  rw [← h, List.length_append] at h1
  omega
theorem varint_step {pre : List UInt8} {x v : Nat} (h : pre ++ Lib.uvarint x = Lib.uvarint v) (hx : 127 < x) : (pre ++ [(x % 128 + 128).toUInt8]) ++ Lib.uvarint (x / 128) = Lib.uvarint v := by
  rw [← h, Lib.uvarint_big (by omega : 128 ≤ x), List.append_assoc]
  rfl
theorem varint_last {pre : List UInt8} {x v : Nat} (h : pre ++ Lib.uvarint x = Lib.uvarint v) (hx : ¬ 127 < x) : pre ++ [x.toUInt8] = Lib.uvarint v := by
  rw [← h, Lib.uvarint_small (by omega : x < 128)]
/-- What one more byte leaves. -/
theorem own_snoc {w : World} {B : Nat} {v : Value} {pre : List UInt8} {c : UInt8} {n : Int} (h : w.ownsRow B 5 1 v (pre.length + 1) (bc pre ++ [.int .u8 n])) (hn : n = ((c.toNat : Nat) : Int)) :
    w.ownsRow B 5 1 v (pre ++ [c]).length (bc (pre ++ [c])) := by
  subst hn
  rw [bc_snoc, List.length_append]
  exact h

set_option maxRecDepth 100000 in
set_option maxHeartbeats 400000 in
theorem varint_any (v : Nat) (w : World) (hv : v < 18446744073709551616) :
    Calls Try.prog 30 #[.int .u64 v] w (RetBytes w.heap.size w (Lib.uvarint v)) := by
  go_enter Try.func30, Try.ntmps30
  go_wp2
  go_loopw [0, 2] (fun a o wr => ∃ (x : Nat) (pre : List UInt8), x < 18446744073709551616 ∧ a = .int .u64 x ∧ Hid (pre ++ Lib.uvarint x = Lib.uvarint v) ∧ wr.ownsRow w.heap.size 5 1 o pre.length (bc pre) ∧ Below w.heap.size w wr) (fun a _ _ => (intOf a).toNat)
  case atStart => exact ⟨v, [], hv, rfl, rfl, World.ownsRow_nil _ _ _ _, Below.refl _ _⟩
  case round =>
    obtain ⟨x, pre, hx, rfl, hc, hown, hb⟩ := hrel
    have hp := varint_room hv hc.out
    by_cases hlt : 127 < x
    · have E : Hid (bits .or .u8 ((x : Int) % 256) 128 = (((x % 128 + 128).toUInt8.toNat : Nat) : Int)) := byte_big x
      go_wp2_with (at_builtin; refine app_bytes _ rfl (.tmp 5) (.tmp 9) rfl w.heap.size _ _ _ rfl (Owns.alloc (.inl hown) _) (wr.heap.size + 1) _ 1 1 [.int .u8 (bits .or .u8 ((x : Int) % 256) 128)] rfl (reads_new1 _ _ _) one1 (by omega) (le_alloc hb.size) ?_; intro v1 w1 ho1 hb1 hr1)
      go_roundw
      case rel => exact ⟨x / 128, pre ++ [(x % 128 + 128).toUInt8], by omega, by go_num, varint_step hc.out hlt, own_snoc (hr1 (.inr (by omega))) E.out, (hb.alloc hb.size _).trans hb1⟩
      case measure => simp [intOf]; omega
    · have E : Hid ((x : Int) = ((x.toUInt8.toNat : Nat) : Int)) := by rw [← byte_small x (by omega)]; unfold Hid; omega
      have hlt' : x ≤ 127 := by omega
      go_wp2_with (at_builtin; refine app_bytes _ rfl (.tmp 13) (.tmp 16) rfl w.heap.size _ _ _ rfl (Owns.alloc (.inl hown) _) (wr.heap.size + 1) _ 1 1 [.int .u8 (x : Int)] rfl (reads_new1 _ _ _) one1 (by omega) (le_alloc hb.size) ?_; intro v1 w1 ho1 hb1 hr1)
      go_ret
      have R := own_snoc (hr1 (.inr (by omega))) E.out
      rw [varint_last hc.out hlt] at R
      exact ⟨v1, rfl, R, (hb.alloc hb.size _).trans hb1⟩
set_option maxRecDepth 100000 in
set_option maxHeartbeats 400000 in
theorem refVarint_any (v : Nat) (w : World) (hv : v < 18446744073709551616) :
    Calls Try.prog 46 #[.int .u64 v] w (RetBytes w.heap.size w (Lib.uvarint v)) := by
  go_enter Try.func46, Try.ntmps46
  go_wp2
  go_loopw [0, 3] (fun a o wr => ∃ (x : Nat) (pre : List UInt8), x < 18446744073709551616 ∧ a = .int .u64 x ∧ Hid (pre ++ Lib.uvarint x = Lib.uvarint v) ∧ wr.ownsRow w.heap.size 5 1 o pre.length (bc pre) ∧ Below w.heap.size w wr) (fun a _ _ => (intOf a).toNat)
  case atStart => exact ⟨v, [], hv, rfl, rfl, World.ownsRow_nil _ _ _ _, Below.refl _ _⟩
  case round =>
    obtain ⟨x, pre, hx, rfl, hc, hown, hb⟩ := hrel
    have hp := varint_room hv hc.out
    by_cases hlt : 127 < x
    · have E : Hid (bits .or .u64 (bits .and .u64 (x : Int) 127) 128 % 256 = (((x % 128 + 128).toUInt8.toNat : Nat) : Int)) := byte_big' x hx
      go_wp2_with (at_builtin; refine app_bytes _ rfl (.tmp 6) (.tmp 11) rfl w.heap.size _ _ _ rfl (Owns.alloc (.inl hown) _) (wr.heap.size + 1) _ 1 1 [.int .u8 (bits .or .u64 (bits .and .u64 (x : Int) 127) 128 % 256)] rfl (reads_new1 _ _ _) one1 (by omega) (le_alloc hb.size) ?_; intro v1 w1 ho1 hb1 hr1)
      go_roundw
      case rel => exact ⟨x / 128, pre ++ [(x % 128 + 128).toUInt8], by omega, by go_num, varint_step hc.out hlt, own_snoc (hr1 (.inr (by omega))) E.out, (hb.alloc hb.size _).trans hb1⟩
      case measure => simp [intOf]; omega
    · have E : Hid ((x : Int) = ((x.toUInt8.toNat : Nat) : Int)) := by rw [← byte_small x (by omega)]; unfold Hid; omega
      have hlt' : x ≤ 127 := by omega
      go_wp2_with (at_builtin; refine app_bytes _ rfl (.tmp 15) (.tmp 18) rfl w.heap.size _ _ _ rfl (Owns.alloc (.inl hown) _) (wr.heap.size + 1) _ 1 1 [.int .u8 (x : Int)] rfl (reads_new1 _ _ _) one1 (by omega) (le_alloc hb.size) ?_; intro v1 w1 ho1 hb1 hr1)
      go_ret
      have R := own_snoc (hr1 (.inr (by omega))) E.out
      rw [varint_last hc.out hlt] at R
      exact ⟨v1, rfl, R, (hb.alloc hb.size _).trans hb1⟩

theorem varint_int (v : Int) (w : World) (h0 : 0 ≤ v) (hv : v < 18446744073709551616) :
    Calls Try.prog 30 #[.int .u64 v] w (RetBytes w.heap.size w (Lib.uvarint v.toNat)) := by
  obtain ⟨x, rfl⟩ := Int.eq_ofNat_of_zero_le h0
  exact varint_any x w (by omega)
theorem refVarint_int (v : Int) (w : World) (h0 : 0 ≤ v) (hv : v < 18446744073709551616) :
    Calls Try.prog 46 #[.int .u64 v] w (RetBytes w.heap.size w (Lib.uvarint v.toNat)) := by
  obtain ⟨x, rfl⟩ := Int.eq_ofNat_of_zero_le h0
  exact refVarint_any x w (by omega)
end Go.Proofs.Ytchhejheobceiaa
