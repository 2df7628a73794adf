/- The walks of frame.put, frame.get, and the reference's four and word: a number's four bytes. No condition. -/
import Derived.Test.YtchhejheobceiaaOps
import Derived.Test.YtchhejheobceiaaSnoc
import Derived.Test.YtchhejheobceiaaAlike
import Derived.WalkKit
import Derived.WalkSpells
import Derived.WalkLawsBesides
import Derived.Laws.BitsAllLaws
import Derived.Deep.QuietTactic
import Derived.BigQuiet
namespace Go.Proofs.Ytchhejheobceiaa
open Go.RowKit
set_option linter.unusedVariables false

/-- The byte i of a number. -/
def nthByte (v i : Nat) : UInt8 := (v / 2 ^ (8 * i) % 256).toUInt8
/-- A number's four bytes, the least first. -/
def le4 (v : Nat) : List UInt8 := [nthByte v 0, nthByte v 1, nthByte v 2, nthByte v 3]
/-- The number that four bytes are. -/
def word4 (a b c d : UInt8) : Nat := a.toNat + b.toNat * 256 + c.toNat * 65536 + d.toNat * 16777216

/-- A row that holds something: its head, and its cells by number. -/
theorem Reads.lit {w : World} {B n : Nat} {A : Option Addr} {xs : List Value} (h : Reads w B 1 A n xs) (hn : 0 < n) : ∃ b off, A = some ⟨b, off, none⟩ ∧ b < B ∧ ∀ j u, xs[j]? = some u → w.cell? ⟨b, off + j, none⟩ = some u := by
  obtain ⟨⟨b, off, sp⟩, rfl, hb, hc⟩ := h.2 hn
  have hx : xs.length = n := by have := h.1; omega
  have hs : sp = none := by
    have h0 := hc 0 _ (List.getElem?_eq_getElem (by omega))
    simpa [Addr.add] using World.cell?_spot h0
  subst hs
  refine ⟨b, off, rfl, hb, fun j u hu => ?_⟩
  have h1 := hc j u hu
  have hadd : (⟨b, off, none⟩ : Addr).add j = ⟨b, off + j, none⟩ := by unfold Addr.add; split <;> simp_all
  rwa [hadd] at h1

theorem or_low (i x y : Nat) (hx : x < 2 ^ i) (hy : y % 2 ^ i = 0) (h : x < 4294967296) (h2 : y < 4294967296) : bits .or .u32 (x : Int) (y : Int) = ((x + y : Nat) : Int) := by
  rw [u32_or_nat _ _ h h2, Nat.or_comm, nat_join i y x hy hx, Nat.add_comm]
theorem word_eq (a b c d : UInt8) : bits .or .u32 (bits .or .u32 (bits .or .u32 ((a.toNat : Int) % 4294967296) ((b.toNat : Int) % 4294967296 * 256 % 4294967296)) ((c.toNat : Int) % 4294967296 * 65536 % 4294967296)) ((d.toNat : Int) % 4294967296 * 16777216 % 4294967296) = (word4 a b c d : Int) := by
  have ha := a.toNat_lt
  have hb := b.toNat_lt
  have hc := c.toNat_lt
  have hd := d.toNat_lt
  rw [show ((a.toNat : Int) % 4294967296) = ((a.toNat : Nat) : Int) from by omega, show ((b.toNat : Int) % 4294967296 * 256 % 4294967296) = ((b.toNat * 256 : Nat) : Int) from by omega,
    show ((c.toNat : Int) % 4294967296 * 65536 % 4294967296) = ((c.toNat * 65536 : Nat) : Int) from by omega, show ((d.toNat : Int) % 4294967296 * 16777216 % 4294967296) = ((d.toNat * 16777216 : Nat) : Int) from by omega,
    or_low 8 _ _ (by omega) (by omega) (by omega) (by omega), or_low 16 _ _ (by omega) (by omega) (by omega) (by omega), or_low 24 _ _ (by omega) (by omega) (by omega) (by omega)]
  rfl
theorem word_eq0 (a : UInt8) : bits .or .u32 0 ((a.toNat : Int) % 4294967296) = (a.toNat : Int) % 4294967296 := by
  have ha := a.toNat_lt
  rw [show ((a.toNat : Int) % 4294967296) = ((a.toNat : Nat) : Int) from by omega, show (0 : Int) = ((0 : Nat) : Int) from rfl, u32_or_nat 0 _ (by omega) (by omega), Nat.zero_or]

theorem nthByte_int (v i : Nat) : (v : Int) / 2 ^ (8 * i) % 256 = (((nthByte v i).toNat : Nat) : Int) := by
  unfold nthByte
  rw [Lib.toUInt8_toNat (by omega), Int.natCast_emod, Int.natCast_ediv, Int.natCast_pow]
  rfl
theorem le4_take (v k : Nat) (hk : k < 4) : (le4 v).take (k + 1) = (le4 v).take k ++ [nthByte v k] := by
  rcases (show k = 0 ∨ k = 1 ∨ k = 2 ∨ k = 3 by omega) with rfl | rfl | rfl | rfl <;> rfl

set_option maxRecDepth 100000 in
set_option maxHeartbeats 800000 in
theorem put_any (v0 : Value) (n : Nat) (l : List UInt8) (v : Nat) (w : World) (base : Nat) (hown : w.ownsRow base 5 1 v0 n (bc l)) (hbase : base ≤ w.heap.size) (hn : n ≤ 1000000) (hv : v < 4294967296) :
    Calls Try.prog 38 #[v0, .int .u32 v] w fun e w' => ∃ v', e = .returned v' ∧ w'.ownsRow base 5 1 v' (n + 4) (bc (l ++ le4 v)) ∧ Below base w w' := by
  go_enter Try.func38, Try.ntmps38
  go_wp2
  go_loopw [0, 6] (fun o i wr => ∃ k : Nat, k ≤ 4 ∧ i = .int .i64 k ∧ wr.ownsRow base 5 1 o (n + k) (bc (l ++ (le4 v).take k)) ∧ Below base w wr) (fun _ i _ => 4 - (intOf i).toNat)
  case atStart => exact ⟨0, Nat.zero_le _, rfl, by simpa using hown, Below.refl _ _⟩
  case round =>
    obtain ⟨k, hk, rfl, ho, hb⟩ := hrel
    have hz := hb.size
    by_cases hk4 : k < 4
    · have E : Hid ((v : Int) / 2 ^ (8 * k) % 256 = (((nthByte v k).toNat : Nat) : Int)) := nthByte_int v k
      have HT : Hid ((l ++ (le4 v).take (k + 1)) = (l ++ (le4 v).take k) ++ [nthByte v k]) := by
        unfold Hid
        rw [List.append_assoc, le4_take v k hk4]
      go_wp2_with (at_builtin; refine app_bytes _ rfl (.tmp 9) (.tmp 15) rfl base _ _ _ rfl (Owns.alloc (.inl ho) _) (wr.heap.size + 1) _ 1 1 [.int .u8 ((v : Int) / 2 ^ (8 * k) % 256)] rfl (reads_new1 _ _ _) one1 (by omega) (by simp; omega) ?_; intro v1 w1 ho1 hb1 hr1)
      go_roundw
      case rel => exact ⟨k + 1, by omega, by go_num, by have h := hr1 (.inr (by omega)); rw [E.out] at h; rw [HT.out, bc_snoc]; exact h, (hb.alloc (by omega) _).trans hb1⟩
      case measure => simp [intOf]; omega
    · have hk' : 4 ≤ k := by omega
      go_wp2
      go_ret
      refine ⟨_, rfl, ?_, hb⟩
      rw [show k = 4 by omega] at ho
      exact ho

set_option maxRecDepth 100000 in
set_option maxHeartbeats 800000 in
theorem get_any (A : Option Addr) (n c : Nat) (a0 a1 a2 a3 : UInt8) (r : List UInt8) (w : World) {B : Nat} (ha : Reads w B 1 A n (bc (a0 :: a1 :: a2 :: a3 :: r))) (hn : n ≤ maxLen) :
    Calls Try.prog 40 #[.slice A n c] w fun e w' => e = .returned (.int .u32 (word4 a0 a1 a2 a3)) ∧ w = w' := by
  have hl : 4 ≤ n := by have := ha.1; rw [bc_length] at this; simp at this; omega
  obtain ⟨b, off, rfl, hb, hc⟩ := ha.lit (by omega)
  have h0 := hc 0 _ rfl
  have h1 := hc 1 _ rfl
  have h2 := hc 2 _ rfl
  have h3 := hc 3 _ rfl
  rw [Nat.add_zero] at h0
  unfold maxLen at hn
  clear hc
  go_enter Try.func40, Try.ntmps40
  go_wp2
  refine wp_loop_rounds 5 ?_
  rw [rounds_succ]
  go_wp2
  rw [rounds_succ]
  go_wp2
  rw [rounds_succ]
  go_wp2
  rw [rounds_succ]
  go_wp2
  rw [rounds_succ]
  go_wp2
  go_ret
  exact ⟨ret_int (by rw [word_eq0]; exact word_eq a0 a1 a2 a3), rfl⟩

set_option maxRecDepth 100000 in
set_option maxHeartbeats 800000 in
theorem four_any (v : Nat) (w : World) (hv : v < 4294967296) :
    Calls Try.prog 47 #[.int .u32 v] w (RetBytes w.heap.size w (le4 v)) := by
  go_enter Try.func47, Try.ntmps47
  go_wp2
  go_ret
  have E : (#[Value.int .u8 ((v : Int) % 256), .int .u8 ((v : Int) / 256 % 256), .int .u8 ((v : Int) / 65536 % 256), .int .u8 ((v : Int) / 16777216)] : Array Value) = (bc (le4 v)).toArray := by
    have e0 := nthByte_int v 0
    have e1 := nthByte_int v 1
    have e2 := nthByte_int v 2
    have e3 := nthByte_int v 3
    simp only [le4, Lib.byteCells, List.map_cons, List.map_nil, ← e0, ← e1, ← e2, ← e3]
    simp
    omega
  refine ⟨_, rfl, ?_, (Below.refl _ _).alloc (Nat.le_refl _) _⟩
  rw [E]
  refine ⟨by rw [bc_length]; rfl, .inr ⟨w.heap.size, 4, _, rfl, Nat.le_refl _, heap_alloc_new w _, Nat.le_refl _, by unfold maxLen; omega, by rw [List.size_toArray, bc_length]; rfl, ?_⟩⟩
  rw [List.take_of_length_le (by rw [bc_length]; omega)]

set_option maxRecDepth 100000 in
set_option maxHeartbeats 800000 in
theorem word_any (A : Option Addr) (n c : Nat) (a0 a1 a2 a3 : UInt8) (r : List UInt8) (w : World) {B : Nat} (ha : Reads w B 1 A n (bc (a0 :: a1 :: a2 :: a3 :: r))) (hn : n ≤ maxLen) :
    Calls Try.prog 43 #[.slice A n c] w fun e w' => e = .returned (.int .u32 (word4 a0 a1 a2 a3)) ∧ ∃ m, w' = w.drewN m := by
  have hl : 4 ≤ n := by have := ha.1; rw [bc_length] at this; simp at this; omega
  obtain ⟨b, off, rfl, hb, hc⟩ := ha.lit (by omega)
  have h0 := hc 0 _ rfl
  have h1 := hc 1 _ rfl
  have h2 := hc 2 _ rfl
  have h3 := hc 3 _ rfl
  rw [Nat.add_zero] at h0
  unfold maxLen at hn
  clear hc
  have i0 : (0 : Int) < (n : Int) := by omega
  have i1 : (1 : Int) < (n : Int) := by omega
  have i2 : (2 : Int) < (n : Int) := by omega
  have i3 : (3 : Int) < (n : Int) := by omega
  go_enter Try.func43, Try.ntmps43
  go_wp2
  go_quiet (fail)
  go_wp2
  go_ret
  exact ⟨ret_int (word_eq a0 a1 a2 a3), _, rfl⟩
end Go.Proofs.Ytchhejheobceiaa
