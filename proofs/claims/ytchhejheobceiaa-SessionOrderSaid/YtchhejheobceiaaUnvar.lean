/- The walks of bits.Unvarint and the reference's: the number that bytes begin with. No condition. -/
import Derived.Test.YtchhejheobceiaaAlike
import Derived.Test.YtchhejheobceiaaUnvPlain
namespace Go.Proofs.Ytchhejheobceiaa
open Go.RowKit

theorem ret_nums {j k : IntKind} {a b c d : Int} (h : a = c) (h' : b = d) : Ending.returned (.tuple #[.int j a, .int k b]) = .returned (.tuple #[.int j c, .int k d]) := by rw [h, h']
/-- What Unvarint hands back. -/
def RetUnv (l : List UInt8) (w : World) (e : Ending) (w' : World) : Prop := e = .returned (.tuple #[.int .u64 (unv l).1, .int .i64 (unv l).2]) ∧ w = w'
theorem RetUnv.eq {l : List UInt8} {w w' : World} {e : Ending} {v m : Nat} (h : RetUnv l w e w') (hu : unv l = (v, m)) : e = .returned (.tuple #[.int .u64 v, .int .i64 m]) ∧ w = w' := by
  obtain ⟨h1, h2⟩ := h
  rw [hu] at h1
  exact ⟨h1, h2⟩
theorem ret_unv {l : List UInt8} {w : World} {x y : Int} {a b : Nat} (h : unv l = (a, b)) (hx : x = a) (hy : y = b) : RetUnv l w (.returned (.tuple #[.int .u64 x, .int .i64 y])) w :=
  ⟨ret_nums (by rw [h]; exact hx) (by rw [h]; exact hy), rfl⟩

set_option maxRecDepth 100000 in
set_option maxHeartbeats 800000 in
theorem unvar_any (A : Option Addr) (n c : Nat) (l : List UInt8) (w : World) {B : Nat} (ha : Reads w B 1 A n (bc l)) (hn : n ≤ maxLen) :
    Calls Try.prog 33 #[.slice A n c] w (RetUnv l w) := by
  unfold maxLen at hn
  have hl : l.length ≤ n := by have := ha.1; rw [bc_length] at this; omega
  go_enter Try.func33, Try.ntmps33
  go_wp2
  all_goals
    go_loop [2, 9] (fun v i => ∃ (k acc : Nat) (x : Int), k ≤ n ∧ k ≤ 10 ∧ i = .int .i64 k ∧ v = .int .u64 x ∧ Hid (k < 10 → x = acc) ∧ Hid (acc < 2 ^ (7 * k)) ∧ Hid (unv l = unvFrom acc k (l.drop k))) (fun _ i => 10 - (intOf i).toNat)
    case atStart => exact ⟨0, 0, 0, Nat.zero_le _, Nat.zero_le _, rfl, rfl, fun _ => rfl, by show (0 : Nat) < _; simp, rfl⟩
    case round =>
      obtain ⟨k, acc, x, hk, hk10, rfl, rfl, hx, hacc, hu⟩ := hrel
      by_cases hlt : k < n ∧ k < 10
      · obtain ⟨hlt, hlt10⟩ := hlt
        obtain ⟨ad, b, rfl, hb, hca⟩ := ha.byte hlt
        obtain rfl := hx.out hlt10
        clear hx
        have HB := Lib.hid hb
        clear hb
        by_cases hbig : 127 < b.toNat
        · go_wp2
          go_round
          case rel => exact ⟨k + 1, acc + (b.toNat % 128) * 2 ^ (7 * k), _, by omega, by omega, by go_num, rfl, fun h => or_step hacc.out (by omega) (by omega), acc_step hacc.out, unv_more hu.out HB.out (by omega) hbig⟩
          case measure => simp [intOf]; omega
        · have HS := Lib.hid (unv_stop hu.out HB.out hbig)
          have HG := Lib.hid (unv_good hu.out HB.out hlt10 hbig)
          have HO := Lib.hid (or_step (b := b) hacc.out (by omega))
          rcases (show k ≤ 0 ∨ (0 < k ∧ k < 9) ∨ 9 ≤ k by omega) with h1 | ⟨h1, h1'⟩ | h1 <;> rcases (show b.toNat ≤ 0 ∨ (0 < b.toNat ∧ b.toNat ≤ 1) ∨ (1 < b.toNat ∧ b.toNat < 128) by omega) with h2 | ⟨h2, h2'⟩ | ⟨h2, h2'⟩ <;> clear hbig
          all_goals
            try (have hz : ((b.toNat : Int) == 0) = false := by rw [beq_eq_false_iff_ne]; omega)
            try (have hz : ((b.toNat : Int) == 0) = true := by rw [beq_iff_eq]; omega)
            first
              | (have HR := Lib.hid (HS.out (by omega)); clear HS HG HO; go_wp2; go_ret2; exact ret_unv HR.out rfl rfl)
              | (have HR := Lib.hid (HG.out (by omega)); have HP := Lib.hid (HO.out (by omega)); clear HS HG HO; have HE := Lib.hid (Nat.mod_eq_of_lt (by omega : b.toNat < 128)); go_wp2; go_ret2; refine ret_unv HR.out ?_ (by omega); rw [HP.out, HE.out])
      · have HS := Lib.hid (unv_end hu.out (by omega))
        have hlt' : n ≤ k ∨ 10 ≤ k := by omega
        clear hlt
        go_wp2
        go_ret2
        exact ret_unv HS.out rfl rfl

set_option maxRecDepth 100000 in
set_option maxHeartbeats 800000 in
theorem refUnvar_any (A : Option Addr) (n c : Nat) (l : List UInt8) (w : World) {B : Nat} (ha : Reads w B 1 A n (bc l)) (_hn : n ≤ maxLen) :
    Calls Try.prog 45 #[.slice A n c] w (RetUnv l w) := by
  unfold maxLen at _hn
  have hl : l.length ≤ n := by have := ha.1; rw [bc_length] at this; omega
  go_enter Try.func45, Try.ntmps45
  go_wp2
  go_loop [4, 5] (fun v i => ∃ (k acc : Nat) (x : Int), k ≤ n ∧ k ≤ 10 ∧ i = .int .i64 k ∧ v = .int .u64 x ∧ Hid (k < 10 → x = acc) ∧ Hid (acc < 2 ^ (7 * k)) ∧ Hid (unv l = unvFrom acc k (l.drop k))) (fun _ i => 10 - (intOf i).toNat)
  case atStart => exact ⟨0, 0, 0, Nat.zero_le _, Nat.zero_le _, rfl, rfl, fun _ => rfl, by show (0 : Nat) < _; simp, rfl⟩
  case round =>
    obtain ⟨k, acc, x, hk, hk10, rfl, rfl, hx, hacc, hu⟩ := hrel
    by_cases hlt : k < n ∧ k < 10
    · obtain ⟨hlt, hlt10⟩ := hlt
      obtain ⟨ad, b, rfl, hb, hca⟩ := ha.byte hlt
      obtain rfl := hx.out hlt10
      clear hx
      have HB := Lib.hid hb
      clear hb
      by_cases hbig : 127 < b.toNat
      · by_cases h9 : 9 ≤ k
        · have HR := Lib.hid (unv_stop9 hu.out HB.out (by omega) (by omega))
          go_wp2
          go_ret2
          exact ret_unv HR.out rfl rfl
        · have h9' : k < 9 := by omega
          clear h9
          go_wp2
          go_round
          case rel => exact ⟨k + 1, acc + (b.toNat % 128) * 2 ^ (7 * k), _, by omega, by omega, by go_num, rfl, fun h => or_step hacc.out (by omega) (by omega), acc_step hacc.out, unv_more hu.out HB.out (by omega) hbig⟩
          case measure => simp [intOf]; omega
      · have HS := Lib.hid (unv_stop hu.out HB.out hbig)
        have HG := Lib.hid (unv_good hu.out HB.out hlt10 hbig)
        have HO := Lib.hid (or_step (b := b) hacc.out (by omega))
        rcases (show k ≤ 0 ∨ (0 < k ∧ k < 9) ∨ 9 ≤ k by omega) with h1 | ⟨h1, h1'⟩ | h1 <;> rcases (show b.toNat ≤ 0 ∨ (0 < b.toNat ∧ b.toNat ≤ 1) ∨ (1 < b.toNat ∧ b.toNat < 128) by omega) with h2 | ⟨h2, h2'⟩ | ⟨h2, h2'⟩ <;> clear hbig
        all_goals
          try (have hz : ((b.toNat : Int) == 0) = false := by rw [beq_eq_false_iff_ne]; omega)
          try (have hz : ((b.toNat : Int) == 0) = true := by rw [beq_iff_eq]; omega)
          first
            | (have HR := Lib.hid (HS.out (by omega)); clear HS HG HO; go_wp2; go_ret2; exact ret_unv HR.out rfl rfl)
            | (have HR := Lib.hid (HG.out (by omega)); have HP := Lib.hid (HO.out (by omega)); clear HS HG HO; have HE := Lib.hid (Nat.mod_eq_of_lt (by omega : b.toNat < 128)); go_wp2; go_ret2; refine ret_unv HR.out ?_ (by omega); first | rw [HP.out, HE.out] | (obtain rfl : k = 9 := (by omega); have hq := HP.out; rw [HE.out, show ((2 : Int) ^ (7 * 9)) = 9223372036854775808 from by decide] at hq; exact hq))
    · have HS := Lib.hid (unv_end hu.out (by omega))
      have hlt' : n ≤ k ∨ 10 ≤ k := by omega
      clear hlt
      rcases hlt' with hlt' | hlt'
      all_goals
        go_wp2
        all_goals first
          | (exfalso; omega)
          | (go_ret2; exact ret_unv HS.out rfl rfl)
end Go.Proofs.Ytchhejheobceiaa
