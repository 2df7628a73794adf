/- The walks of bits.Hash and the reference's Hash: the text's hash, byte by byte. No condition. -/
import Derived.Test.YtbgnmkjjfaepiaaBase
import Derived.Test.YtbgnmkjjfaepiaaRows
import Derived.WalkKit
import Derived.WalkSpells
import Derived.WalkLawsBesides
import Derived.Laws.BitsAllLaws
namespace Go.Proofs.Ytbgnmkjjfaepiaa
open Go.RowKit

/-- One byte's step of the hash. -/
def hstep (h : Nat) (c : UInt8) : Nat := ((h ^^^ c.toNat) * 16777619) % 4294967296
def hinit : Nat := 2166136261
def hashG (n : Nat) (l : List UInt8) : Nat := l.foldl hstep n
theorem hashG_snoc (n : Nat) (l : List UInt8) (c : UInt8) : hashG n (l ++ [c]) = hstep (hashG n l) c := by
  unfold hashG
  rw [List.foldl_append, List.foldl_cons, List.foldl_nil]
def hashL (l : List UInt8) : Nat := hashG hinit l
theorem hashL_nil : (hashL [] : Int) = 2166136261 := rfl
theorem hstep_lt (h : Nat) (c : UInt8) : hstep h c < 4294967296 := Nat.mod_lt _ (by omega)
theorem hashL_snoc (l : List UInt8) (c : UInt8) : hashL (l ++ [c]) = hstep (hashL l) c := hashG_snoc _ _ _
theorem hashL_lt (l : List UInt8) : hashL l < 4294967296 := by
  rcases List.eq_nil_or_concat l with rfl | ⟨r, c, rfl⟩
  · have := hashL_nil; omega
  · rw [List.concat_eq_append, hashL_snoc]; exact hstep_lt _ _
theorem take_snoc (s : ByteArray) (k : Nat) (h : k < s.size) : s.data.toList.take (k + 1) = s.data.toList.take k ++ [s[k]] := by
  rw [List.take_succ_eq_append_getElem (by simpa using h)]; rfl
theorem hstep_walk (h : Nat) (c : UInt8) (hh : h < 4294967296) : bits .xor .u32 (h : Int) ((c.toNat : Int) % 4294967296) * 16777619 % 4294967296 = (hstep h c : Int) := by
  have hc : c.toNat < 4294967296 := by have := c.toNat_lt; omega
  rw [show ((c.toNat : Int) % 4294967296) = (c.toNat : Int) from by omega, u32_xor_nat _ _ hh hc]
  unfold hstep
  omega

set_option maxHeartbeats 400000 in
theorem hash_any (s : ByteArray) (w : World) (hs : s.size ≤ maxLen) :
    Calls Try.prog 30 #[.string s] w fun e w' => e = .returned (.int .u32 (hashL s.data.toList)) ∧ w = w' := by
  unfold maxLen at hs
  go_enter Try.func30, Try.ntmps30
  go_wp2
  go_loop [3, 7] (fun h i => ∃ k : Nat, k ≤ s.size ∧ i = .int .i64 k ∧ h = .int .u32 (hashL (s.data.toList.take k))) (fun _ i => s.size - (intOf i).toNat)
  case atStart => exact ⟨0, Nat.zero_le _, rfl, rfl⟩
  case round =>
    obtain ⟨k, hk, rfl, rfl⟩ := hrel
    have hl := hashL_lt (s.data.toList.take k)
    by_cases hlt : k < s.size
    · have HS : Hid (bits .xor .u32 (hashL (s.data.toList.take k) : Int) ((s[k].toNat : Int) % 4294967296) * 16777619 % 4294967296 = (hashL (s.data.toList.take (k + 1)) : Int)) := by
        rw [take_snoc _ _ hlt, hashL_snoc]; exact hstep_walk _ _ hl
      go_wp2
      go_round
      case rel => exact ⟨k + 1, by omega, by go_num, by rw [HS.out]⟩
      case measure => simp [intOf]; omega
    · go_wp2
      go_ret
      exact ⟨ret_int (by rw [List.take_of_length_le (by simp; omega)]), rfl⟩

set_option maxHeartbeats 400000 in
theorem refHash_any (s : ByteArray) (w : World) (hs : s.size ≤ maxLen) :
    Calls Try.prog 31 #[.string s] w fun e w' => e = .returned (.int .i64 (hashL s.data.toList)) ∧ w = w' := by
  unfold maxLen at hs
  go_enter Try.func31, Try.ntmps31
  go_wp2
  go_loop [3, 4] (fun h i => ∃ k : Nat, k ≤ s.size ∧ i = .int .i64 k ∧ h = .int .u32 (hashL (s.data.toList.take k))) (fun _ i => s.size - (intOf i).toNat)
  case atStart => exact ⟨0, Nat.zero_le _, rfl, rfl⟩
  case round =>
    obtain ⟨k, hk, rfl, rfl⟩ := hrel
    have hl := hashL_lt (s.data.toList.take k)
    by_cases hlt : k < s.size
    · have HS : Hid (bits .xor .u32 (hashL (s.data.toList.take k) : Int) ((s[k].toNat : Int) % 4294967296) * 16777619 % 4294967296 = (hashL (s.data.toList.take (k + 1)) : Int)) := by
        rw [take_snoc _ _ hlt, hashL_snoc]; exact hstep_walk _ _ hl
      go_wp2
      go_round
      case rel => exact ⟨k + 1, by omega, by go_num, by rw [HS.out]⟩
      case measure => simp [intOf]; omega
    · go_wp2
      go_ret
      exact ⟨ret_int (by rw [List.take_of_length_le (by simp; omega)]), rfl⟩
end Go.Proofs.Ytbgnmkjjfaepiaa
