/- The walks of the laws FrameLimit and FrameFlips. No condition. -/
import Derived.Test.YtpacbdfingbhgaaFrameAwake
import Derived.Test.YtpacbdfingbhgaaCrcPlain
import Derived.StillTailTactics
import Derived.Deep.RegionHeld
namespace Go.Proofs.Ytpacbdfingbhgaa
open Go.RowKit
set_option linter.unusedVariables false

theorem wf_i64_bd {x : Int} (h : (Lit.int .i64 x).wf = true) : -9223372036854775808 ≤ x ∧ x ≤ 9223372036854775807 := by
  simp [Lit.wf, IntKind.min, IntKind.max, IntKind.signed, IntKind.bits] at h
  omega
theorem bc_zeros (n : Nat) : (madeCells (Value.int .u8 0).cells (n * 1)).toList = bc (List.replicate n 0) := by
  show (madeCells #[Value.int .u8 0] (n * 1)).toList = _
  rw [toList_madeCells_one, Nat.mul_one]
  simp [Lib.byteCells]

set_option maxRecDepth 100000 in
set_option maxHeartbeats 1600000 in
theorem frameLimit_walk (w : World) (n : Int) (hn : (Lit.int .i64 n).wf = true) :
    Calls Try.prog 5 #[.int .i64 n] w (RetTrue w) := by
  obtain ⟨n0, n1⟩ := wf_i64_bd hn
  clear hn
  by_cases hneg : n < 0
  · go_enter Try.func5, Try.ntmps5
    go_wp2_with (go_at_call 9; refine (awake_any _).mono ?_; rintro e w' ⟨rfl, hb⟩)
    go_ret
    exact ⟨rfl, hb⟩
  obtain ⟨k, rfl⟩ := Int.eq_ofNat_of_zero_le (show 0 ≤ n by omega)
  clear hneg n0 n1
  by_cases hbig : 131082 < k
  · go_enter Try.func5, Try.ntmps5
    go_wp2_with (go_at_call 9; refine (awake_any _).mono ?_; rintro e w' ⟨rfl, hb⟩)
    go_ret
    exact ⟨rfl, hb⟩
  have hk : k ≤ 131082 := by omega
  clear hbig
  obtain ⟨i0, hi, hz0, hz1, hz2⟩ := info_parts Try.infoByte
  have hbd : i0.bytes * k ≤ 281474976710656 := by rw [hz2]; omega
  have hkm : k ≤ maxLen := by unfold maxLen; omega
  by_cases hlim : 131072 < k
  · go_enter Try.func5, Try.ntmps5
    go_wp2_with (at_make; refine wpList_make_full _ rfl (.tmp 16) (.tmp 16) _ rfl w.heap.size 5 i0 (.int .u8 0) 1 Try.underlying22 hi hz0 hz1 _ _ _ _ k rfl rfl rfl rfl hbd hkm (Nat.le_refl _) ?_; intro w1 ho1 hg1)
    have hb1 : Below w.heap.size w w1 := (Below.refl _ _).grown hg1 (Nat.le_refl _) (fun k hk => by cases hk)
    refine (fput_no _ k k _ hlim hkm).mono ?_
    rintro e w' ⟨rfl, rfl⟩
    go_wp2_with (go_at_call 9; refine (awake_any _).mono ?_; rintro e w' ⟨rfl, hb⟩)
    go_ret
    exact RetTrue.from hb1 ⟨rfl, hb⟩
  · have hlim' : k ≤ 131072 := by omega
    have HP := Lib.hid (putL_length (List.replicate k 0))
    have HN := Lib.hid (next_put (List.replicate k 0) [] (by rw [List.length_replicate]; omega))
    clear hlim
    go_enter Try.func5, Try.ntmps5
    go_wp2_with (at_make; refine wpList_make_full _ rfl (.tmp 16) (.tmp 16) _ rfl w.heap.size 5 i0 (.int .u8 0) 1 Try.underlying22 hi hz0 hz1 _ _ _ _ k rfl rfl rfl rfl hbd hkm (Nat.le_refl _) ?_; intro w1 ho1 hg1)
    have hb1 : Below w.heap.size w w1 := (Below.refl _ _).grown hg1 (Nat.le_refl _) (fun k hk => by cases hk)
    rw [bc_zeros] at ho1
    have hr1 := Reads.of_own ho1
    refine (fput_yes _ k k (List.replicate k 0) _ hr1 hlim').mono ?_
    rintro e w2 ⟨A2, c2, rfl, ho2, hb2⟩
    obtain ⟨A2', c2', hv, hc2, hm2, hr2⟩ := Owns.form (.inl ho2)
    injection hv with e1 e2 e3
    subst e1 e3
    go_wp2_with fail
    refine (fnext_any _ _ _ (putL (List.replicate k 0)) _ hr2 hc2 hm2).mono ?_
    rintro e w3 ⟨A3, c3, he, ho3, hb3⟩
    have hN := HN.out
    rw [List.append_nil] at hN
    rw [hN] at he
    simp only [List.length_replicate] at he
    subst he
    clear hN HN ho3
    go_wp2_with (go_at_call 9; refine (awake_any _).mono ?_; rintro e w' ⟨rfl, hb⟩)
    go_ret
    exact RetTrue.from ((hb1.trans (hb2.mono hb1.size)).trans (hb3.mono (by have := hb1.size; have := hb2.size; omega))) ⟨rfl, hb⟩
end Go.Proofs.Ytpacbdfingbhgaa
