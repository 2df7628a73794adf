/- The walks of the laws BitsFolds and BitsHash. No condition. -/
import Derived.Test.YtanpkkpmaenhgaaBitsAwake
import Derived.Laws.BytesArg
namespace Go.Proofs.Ytanpkkpmaenhgaa
open Go.RowKit

theorem wf_i64_bd {x : Int} (h : (Lit.int .i64 x).wf = true) : -9223372036854775808 ≤ x ∧ x ≤ 9223372036854775807 := by
  simp [Lit.wf, IntKind.min, IntKind.max, IntKind.signed, IntKind.bits] at h
  omega
theorem wf_u64_nat {x : Int} (h : (Lit.int .u64 x).wf = true) : ∃ v : Nat, x = v ∧ v < 18446744073709551616 := by
  simp [Lit.wf, IntKind.min, IntKind.max, IntKind.signed, IntKind.bits] at h
  exact ⟨x.toNat, by omega, by omega⟩
theorem wf_u8_byte {x : Int} (h : (Lit.int .u8 x).wf = true) : ∃ c : UInt8, x = (c.toNat : Int) := by
  simp [Lit.wf, IntKind.min, IntKind.max, IntKind.signed, IntKind.bits] at h
  exact ⟨UInt8.ofNat x.toNat, by simp [UInt8.toNat_ofNat']; omega⟩

set_option maxRecDepth 100000 in
set_option maxHeartbeats 400000 in
theorem bitsFolds_walk (w : World) (n : Int) (hn : (Lit.int .i64 n).wf = true) (v : Int) (hv : (Lit.int .u64 v).wf = true) :
    Calls Try.prog 4 #[.int .i64 n, .int .u64 v] w (RetTrue w) := by
  obtain ⟨n0, n1⟩ := wf_i64_bd hn
  obtain ⟨x, rfl, hx⟩ := wf_u64_nat hv
  have e1 := zag_zig n
  have e2 := zig_zag x
  have hz := Lib.zigzag_lt n0 n1
  obtain ⟨z0, z1⟩ := unzigzag_range x hx
  clear hn hv
  go_enter Try.func4, Try.ntmps4
  go_wp2_with (first
    | (go_at_call 11; refine (zig_any _ _ (by omega) (by omega)).mono ?_; rintro e w' ⟨rfl, rfl⟩)
    | (go_at_call 12; refine (refZig_any _ _ (by omega) (by omega)).mono ?_; rintro e w' ⟨rfl, rfl⟩)
    | (go_at_call 13; refine (zag_any _ _ (by omega)).mono ?_; rintro e w' ⟨rfl, rfl⟩)
    | (go_at_call 14; refine (refZag_any _ _ (by omega)).mono ?_; rintro e w' ⟨rfl, rfl⟩)
    | (go_at_call 9; refine (awake_any _).mono ?_; rintro e w' ⟨rfl, hb⟩))
  go_ret
  exact ⟨rfl, hb⟩

set_option maxRecDepth 100000 in
set_option maxHeartbeats 400000 in
theorem bitsHash_walk (w : World) (s : ByteArray) (hs : s.size ≤ maxLen) (c : Int) (hc : (Lit.int .u8 c).wf = true) :
    Calls Try.prog 3 #[.string s, .int .u8 c] w (RetTrue w) := by
  obtain ⟨b, rfl⟩ := wf_u8_byte hc
  clear hc
  by_cases hl : 1000 < s.size
  · go_enter Try.func3, Try.ntmps3
    go_wp2_with (go_at_call 9; refine (awake_any _).mono ?_; rintro e w' ⟨rfl, hb⟩)
    go_ret
    exact ⟨rfl, hb⟩
  · go_enter Try.func3, Try.ntmps3
    have hcv : ∀ W : World, (convert 25 9 (.slice (some ⟨W.heap.size, 0, none⟩) 1 1)).run Try.prog (W.alloc (.cells #[.int .u8 (b.toNat : Int)] 5)) = .ok (.string ⟨#[b]⟩) (W.alloc (.cells #[.int .u8 (b.toNat : Int)] 5)) :=
      fun W => run_string_reads _ _ _ _ Try.underlying25 Try.underlying5 Try.underlying9 (l := [b]) (reads_new1 W (.int .u8 (b.toNat : Int)) 5)
    have he : bits .xor .u32 (hashL s.data.toList : Int) ((b.toNat : Int) % 4294967296) * 16777619 % 4294967296 = (hashL (s.data.toList ++ [b]) : Int) := by
      rw [hashL_snoc]; exact hstep_walk _ _ (hashL_lt _)
    have hn := hashL_nil
    have hs2 : (s ++ (⟨#[b]⟩ : ByteArray)).size ≤ maxLen := by
      rw [ByteArray.size_append]; have : (⟨#[b]⟩ : ByteArray).size = 1 := rfl
      unfold maxLen; omega
    have hs3 : (⟨#[]⟩ : ByteArray).size ≤ maxLen := by decide
    go_wp2_with (first
      | (go_at_call 10; refine (hash_any _ _ (by assumption)).mono ?_; rintro e w' ⟨rfl, rfl⟩)
      | (go_at_call 9; refine (awake_any _).mono ?_; rintro e w' ⟨rfl, hb⟩))
    go_ret
    exact ⟨rfl, ((Below.refl _ _).alloc (Nat.le_refl _) _).trans (hb.mono (by simp))⟩
end Go.Proofs.Ytanpkkpmaenhgaa
