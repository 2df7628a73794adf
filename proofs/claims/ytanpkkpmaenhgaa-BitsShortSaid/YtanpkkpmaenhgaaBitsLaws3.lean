/- The walk of the law BitsShort. No condition. -/
import Derived.Test.YtanpkkpmaenhgaaBitsLaws2
namespace Go.Proofs.Ytanpkkpmaenhgaa
open Go.RowKit
set_option linter.unusedVariables false

/-- How many groups of seven digits a number above nought has; none at nought. -/
def groups (x : Nat) : Nat := if x = 0 then 0 else (Lib.uvarint x).length
theorem uvarint_groups (v : Nat) : (Lib.uvarint v).length = 1 + groups (v / 128) := by
  unfold groups
  by_cases h : v < 128
  · rw [Lib.uvarint_small h, if_pos (by omega)]; rfl
  · rw [Lib.uvarint_big (by omega), if_neg (by omega), List.length_cons, Nat.add_comm]
theorem groups_step {x : Nat} (h : 0 < x) : groups x = 1 + groups (x / 128) := by
  rw [← uvarint_groups]; unfold groups; rw [if_neg (by omega)]
theorem uvarint_two {n : Nat} (h : n ≤ 1000) : (Lib.uvarint n).length = if 128 ≤ n then 2 else 1 := by
  rw [uvarint_groups]
  by_cases h1 : 128 ≤ n
  · rw [if_pos h1, groups_step (by omega), show n / 128 / 128 = 0 by omega]; rfl
  · rw [if_neg h1, show n / 128 = 0 by omega]; rfl
theorem textL_take (l : List UInt8) (s : ByteArray) : (textL l s).take l.length = l := by simp [textL]

set_option maxRecDepth 100000 in
set_option maxHeartbeats 1000000 in
theorem bitsShort_walk (w : World) (v : Int) (hv : (Lit.int .u64 v).wf = true) (A : Option Addr) (n c : Nat) (l : List UInt8) (ha : Reads w w.heap.size 1 A n (bc l)) (hnc : n ≤ c) (hc : c ≤ maxLen) (s : ByteArray) (hs : s.size ≤ maxLen) :
    Calls Try.prog 5 #[.int .u64 v, .slice A n c, .string s] w (RetTrue w) := by
  obtain ⟨x, rfl, hx⟩ := wf_u64_nat hv
  clear hv
  by_cases hl : 1000 < n
  · go_enter Try.func5, Try.ntmps5
    go_wp2_with (go_at_call 9; refine (awake_any _).mono ?_; rintro e w' ⟨rfl, hb⟩)
    go_ret
    exact ⟨rfl, hb⟩
  by_cases hl' : 1000 < s.size
  · have hl2 : n ≤ 1000 := by omega
    clear hl
    go_enter Try.func5, Try.ntmps5
    go_wp2_with (go_at_call 9; refine (awake_any _).mono ?_; rintro e w' ⟨rfl, hb⟩)
    go_ret
    exact ⟨rfl, hb⟩
  have hn' : n ≤ 1000 := by omega
  have hs' : s.size ≤ 1000 := by omega
  clear hl hl'
  have hlen := Lib.uvarint_length64 hx
  have hgr := Lib.hid (uvarint_groups x)
  have HL : Hid (l.length = n) := by have := ha.1; rw [bc_length] at this; unfold Hid; omega
  have h2 := uvarint_two hs'
  have HTL : Hid ((textL l s).length = n + (Lib.uvarint s.size).length + s.size) := by
    unfold Hid; rw [← HL.out]; simp only [textL, List.length_append, size_toList]
  have H2 := Lib.hid h2
  clear h2
  go_enter Try.func5, Try.ntmps5
  go_wp2
  go_loop [7, 8] (fun a b => ∃ k y : Nat, k ≤ 10 ∧ y < 18446744073709551616 ∧ a = .int .i64 k ∧ b = .int .u64 y ∧ Hid (k + groups y = (Lib.uvarint x).length)) (fun _ b => (intOf b).toNat)
  case atStart => exact ⟨1, x / 128, by omega, by omega, rfl, by go_num, by rw [hgr.out]; rfl⟩
  case round =>
    obtain ⟨k, y, hk, hy, rfl, rfl, hgy⟩ := hrel
    by_cases hy0 : 0 < y
    · have hgs := Lib.hid (groups_step hy0)
      have hk' : k + 1 ≤ 10 := by have h1 := hgy.out; have h2 := hgs.out; omega
      go_wp2
      go_round
      case rel => exact ⟨k + 1, y / 128, by omega, by omega, by go_num, by go_num, by rw [← hgy.out, hgs.out]; unfold Hid; omega⟩
      case measure => simp [intOf]; omega
    · have hy0' : y ≤ 0 := by omega
      have hkx : Hid (k = (Lib.uvarint x).length) := by
        have h1 := hgy.out
        rw [show y = 0 by omega] at h1
        unfold groups at h1
        simp at h1
        exact h1
      obtain rfl := hkx.out
      clear hy0 hgy hgr hkx
      by_cases h128 : 128 ≤ s.size
      all_goals
        first
          | (have HD : Hid ((textL l s).length = n + 2 + s.size) := (by unfold Hid; rw [HTL.out, H2.out, if_pos h128]); have hq : (((textL l s).length : Int) == (n : Int) + 2 + (s.size : Int)) = true := (by rw [beq_iff_eq, HD.out]; omega))
          | (have HD : Hid ((textL l s).length = n + 1 + s.size) := (by unfold Hid; rw [HTL.out, H2.out, if_neg h128]); have hq : (((textL l s).length : Int) == (n : Int) + 1 + (s.size : Int)) = true := (by rw [beq_iff_eq, HD.out]; omega))
        go_wp2_with fail
        refine (text_any A n c l s _ ha (by omega) (by omega)).mono ?_
        rintro e w1 h1
        have hpos : 0 < (textL l s).length := by rw [HD.out]; omega
        obtain ⟨v1, rfl, ho1, hb1⟩ := h1
        obtain ⟨g, c1, rfl, hc1, hm1, hg0, hg1, hcell⟩ := own_open ho1 hpos
        have hr1 := Reads.of_own ho1
        have hnl : n ≤ (textL l s).length := by rw [HD.out]; omega
        have hr1' : Reads w1 w1.heap.size 1 (some ⟨g, 0, none⟩) n (bc l) := by
          have h := hr1.take_ hnl
          rw [Nat.mul_one] at h
          have e : (bc (textL l s)).take n = bc l := by
            rw [← HL.out]; simp [Lib.byteCells, ← List.map_take, textL_take]
          rwa [e] at h
        clear hcell hr1
        go_wp2_with fail
        refine (varint_any x _ hx).mono ?_
        rintro e w2 h2
        obtain ⟨A2, c2, rfl, ho2, hb2, hc2, hm2, hr2⟩ := h2.open_
        have hnc1 : n ≤ c1 := by omega
        unfold maxLen at hm1
        go_wp2_with fail
        refine (bytes_same _ _ _ _ _ _ _ (hr1'.below hb2) ((ha.below hb1).below (hb2.mono hb1.size)) (by unfold maxLen; omega)).mono ?_
        rintro e w3 ⟨rfl, m3, rfl⟩
        go_wp2_with (go_at_call 9; refine (awake_any _).mono ?_; rintro e w' ⟨rfl, hb⟩)
        go_ret
        exact RetTrue.from (below_drewN (hb1.trans (hb2.mono hb1.size)) _) ⟨rfl, hb⟩
end Go.Proofs.Ytanpkkpmaenhgaa
