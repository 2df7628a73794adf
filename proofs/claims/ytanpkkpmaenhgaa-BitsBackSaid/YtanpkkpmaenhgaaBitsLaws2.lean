/- The walks of the laws BitsVarints, BitsTexts, BitsShort, BitsBack. No condition. -/
import Derived.Test.YtanpkkpmaenhgaaBitsLaws1
import Derived.Test.YtanpkkpmaenhgaaTake
import Derived.Test.YtanpkkpmaenhgaaText
namespace Go.Proofs.Ytanpkkpmaenhgaa
open Go.RowKit
set_option linter.unusedVariables false

theorem below_drewN {B : Nat} {a w : World} (h : Below B a w) (n : Nat) : Below B a (w.drewN n) := ⟨h.os, h.tape, h.output, h.size, h.block⟩
theorem RetTrue.from {w w1 : World} {e : Ending} {w' : World} (hb : Below w.heap.size w w1) (h : RetTrue w1 e w') : RetTrue w e w' :=
  ⟨h.1, hb.trans (h.2.mono hb.size)⟩

set_option maxRecDepth 100000 in
set_option maxHeartbeats 400000 in
theorem bitsVarints_walk (w : World) (A : Option Addr) (n c : Nat) (l : List UInt8) (ha : Reads w w.heap.size 1 A n (bc l)) (hnc : n ≤ c) (hc : c ≤ maxLen) (v : Int) (hv : (Lit.int .u64 v).wf = true) :
    Calls Try.prog 6 #[.slice A n c, .int .u64 v] w (RetTrue w) := by
  obtain ⟨x, rfl, hx⟩ := wf_u64_nat hv
  clear hv
  have hlen := Lib.uvarint_length64 hx
  by_cases hl : 1000 < n
  · go_enter Try.func6, Try.ntmps6
    go_wp2_with (go_at_call 9; refine (awake_any _).mono ?_; rintro e w' ⟨rfl, hb⟩)
    go_ret
    exact ⟨rfl, hb⟩
  · have hn : n ≤ maxLen := by unfold maxLen; omega
    have hn' : n ≤ 1000 := by omega
    clear hl
    go_enter Try.func6, Try.ntmps6
    go_wp2_with fail
    refine (unvar_any A n c l _ ha hn).mono ?_
    rintro e w' ⟨rfl, rfl⟩
    go_wp2_with fail
    refine (refUnvar_any A n c l _ ha hn).mono ?_
    rintro e w' ⟨rfl, rfl⟩
    go_wp2_with fail
    refine (varint_any x _ hx).mono ?_
    rintro e w1 h1
    obtain ⟨A1, c1, rfl, ho1, hb1, hc1, hm1, hr1⟩ := h1.open_
    go_wp2_with fail
    refine (refVarint_any x _ hx).mono ?_
    rintro e w2 h2
    obtain ⟨A2, c2, rfl, ho2, hb2, hc2, hm2, hr2⟩ := h2.open_
    go_wp2_with fail
    refine (bytes_same A1 A2 _ c1 c2 _ _ (hr1.below hb2) hr2 (by unfold maxLen; omega)).mono ?_
    rintro e w3 ⟨rfl, m3, rfl⟩
    go_wp2_with (go_at_call 9; refine (awake_any _).mono ?_; rintro e w' ⟨rfl, hb⟩)
    go_ret
    exact RetTrue.from (below_drewN (hb1.trans (hb2.mono hb1.size)) _) ⟨rfl, hb⟩

set_option maxRecDepth 100000 in
set_option maxHeartbeats 400000 in
theorem bitsTexts_walk (w : World) (A : Option Addr) (n c : Nat) (l : List UInt8) (ha : Reads w w.heap.size 1 A n (bc l)) (hnc : n ≤ c) (hc : c ≤ maxLen) (s : ByteArray) (hs : s.size ≤ maxLen) :
    Calls Try.prog 7 #[.slice A n c, .string s] w (RetTrue w) := by
  by_cases hl : 1000 < n
  · go_enter Try.func7, Try.ntmps7
    go_wp2_with (go_at_call 9; refine (awake_any _).mono ?_; rintro e w' ⟨rfl, hb⟩)
    go_ret
    exact ⟨rfl, hb⟩
  by_cases hl' : 1000 < s.size
  · have hl2 : n ≤ 1000 := by omega
    clear hl
    go_enter Try.func7, Try.ntmps7
    go_wp2_with (go_at_call 9; refine (awake_any _).mono ?_; rintro e w' ⟨rfl, hb⟩)
    go_ret
    exact ⟨rfl, hb⟩
  · have hn' : n ≤ 1000 := by omega
    have hs' : s.size ≤ 1000 := by omega
    have hlen : (textL l s).length ≤ maxLen := by
      have := Lib.uvarint_length64 (show s.size < 18446744073709551616 by omega)
      have h2 := ha.1
      rw [bc_length] at h2
      simp only [textL, List.length_append, size_toList]
      unfold maxLen
      omega
    clear hl hl'
    go_enter Try.func7, Try.ntmps7
    go_wp2_with fail
    refine (take_any A n c l _ ha hnc hc).mono ?_
    rintro e w' ⟨rfl, rfl⟩
    go_wp2_with fail
    refine (refTake_any A n c l _ ha hnc hc).mono ?_
    rintro e w' ⟨rfl, rfl⟩
    go_wp2_with fail
    refine (text_any A n c l s _ ha (by omega) (by omega)).mono ?_
    rintro e w1 h1
    obtain ⟨A1, c1, rfl, ho1, hb1, hc1, hm1, hr1⟩ := h1.open_
    go_wp2_with fail
    refine (refText_any A n c l s _ ((ha.below hb1).more hb1.size) (by omega) (by omega)).mono ?_
    rintro e w2 h2
    obtain ⟨A2, c2, rfl, ho2, hb2, hc2, hm2, hr2⟩ := h2.open_
    go_wp2_with fail
    refine (bytes_same A1 A2 _ c1 c2 _ _ (hr1.below hb2) hr2 hlen).mono ?_
    rintro e w3 ⟨rfl, m3, rfl⟩
    have hh := hashL_lt s.data.toList
    go_wp2_with (first
      | (go_at_call 10; refine (hash_any _ _ (by assumption)).mono ?_; rintro e w' ⟨rfl, rfl⟩)
      | (go_at_call 24; refine (refHash_any _ _ (by assumption)).mono ?_; rintro e w' ⟨rfl, rfl⟩)
      | (go_at_call 9; refine (awake_any _).mono ?_; rintro e w' ⟨rfl, hb⟩))
    go_ret
    exact RetTrue.from (below_drewN (hb1.trans (hb2.mono hb1.size)) _) ⟨rfl, hb⟩
end Go.Proofs.Ytanpkkpmaenhgaa
