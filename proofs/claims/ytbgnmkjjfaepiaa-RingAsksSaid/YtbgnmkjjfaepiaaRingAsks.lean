import Derived.Test.YtbgnmkjjfaepiaaRingOf
import Derived.Test.YtbgnmkjjfaepiaaRingNewR
import Derived.Test.YtbgnmkjjfaepiaaRingAwake
import Derived.Test.YtbgnmkjjfaepiaaRingFrame
namespace Go.Proofs.Ytbgnmkjjfaepiaa
open Go.RowKit
set_option linter.unusedVariables false

theorem below_one {w w1 : World} {B : Nat} (h : Below B w w1) {B' : Nat} (hB : B' ≤ B) : Below B' w w1 := h.mono hB

set_option maxRecDepth 100000 in
set_option maxHeartbeats 4000000 in
theorem ringAsks_walk (w : World) (nodes : Int) (w0 : (Lit.int .i64 nodes).wf = true) (A : Option Addr) (n c : Nat) (l : List Rg) (hr : Reads w w.heap.size 4 A n (rowCells l)) (hw : ∀ r ∈ l, r.wf) (hl : l.length = n) (hnc : n ≤ c) (hm : c ≤ maxLen)
    (hash : Int) (w2 : (Lit.int .i64 hash).wf = true) (s : ByteArray) (hs : s.size ≤ maxLen) :
    Calls Try.prog 3 #[.int .i64 nodes, .slice A n c, .int .i64 hash, .string s] w (RetTrue w) := by
  have hn : n ≤ maxLen := Nat.le_trans hnc hm
  have HSM : Hid (∀ W, Calls Try.prog 10 #[.slice A n c] W fun e w' => e = .returned (.bool (decide (n ≤ 80))) ∧ W = w') := Lib.hid fun W => small_any W A n c hn
  have hsz := hs
  unfold maxLen at hsz
  by_cases h1 : n ≤ 80
  · by_cases h2 : 500 < s.size
    · have h1d : decide (n ≤ 80) = true := by simpa using h1
      have h2d : (500 : Int) < (s.size : Int) := by omega
      clear hr hw hl
      go_enter Try.func3, Try.ntmps3
      go_wp2_with (first
        | (refine wpList_unguard rfl ?_)
        | (go_at_call 10; refine (HSM.out _).mono ?_; rintro e w' ⟨rfl, rfl⟩)
        | (go_at_call 11; refine (awake_any _).mono ?_; rintro e w' ⟨rfl, hb⟩))
      go_ret
      exact ⟨rfl, hb⟩
    have h1d : decide (n ≤ 80) = true := by simpa using h1
    have h2i : (s.size : Int) ≤ 500 := by omega
    have h2d : decide ((500 : Int) < (s.size : Int)) = false := by simpa using h2i
    obtain ⟨hn0, hn1⟩ := wf_int w0
    have HNEW : Hid (∀ W, Calls Try.prog 12 #[.int .i64 nodes] W (RetRow W (newL nodes) (newE nodes))) := Lib.hid fun W => new_any W nodes hn0 hn1
    have HNEWR : Hid (∀ W, Calls Try.prog 13 #[.int .i64 nodes] W (RetRow W (newL nodes) (newE nodes))) := Lib.hid fun W => newRing_any W nodes hn0 hn1
    obtain ⟨r, q, HQ⟩ : ∃ r q, Hid ((findL l hash).getD zeroR = r ∧ (findL l hash).isSome = q) := ⟨_, _, Lib.hid ⟨rfl, rfl⟩⟩
    obtain ⟨ra, rb, rc, rd⟩ := r
    obtain ⟨t, q', HQ'⟩ : ∃ r q, Hid ((findL l (hashL s.data.toList)).getD zeroR = r ∧ (findL l (hashL s.data.toList)).isSome = q) := ⟨_, _, Lib.hid ⟨rfl, rfl⟩⟩
    obtain ⟨ta, tb, tc, td⟩ := t
    have HF : Hid (∀ W, Below w.heap.size w W → Calls Try.prog 14 #[.slice A n c, .int .i64 hash] W fun e w' => e = .returned (.tuple #[.agg #[.int .i64 ra, .int .i64 rb, .int .i64 rc, .int .i64 rd], .bool q]) ∧ Below W.heap.size W w') :=
      Lib.hid fun W hb => by
        have := find_any W A n c l hash ((hr.below hb).more hb.size) hw hl hn
        unfold RetF at this
        rw [HQ.out.1, HQ.out.2] at this
        exact this
    have HFR : Hid (∀ W, Below w.heap.size w W → Calls Try.prog 15 #[.slice A n c, .int .i64 hash] W fun e w' => e = .returned (.tuple #[.agg #[.int .i64 ra, .int .i64 rb, .int .i64 rc, .int .i64 rd], .bool q]) ∧ Below W.heap.size W w') :=
      Lib.hid fun W hb => by
        have := findR_any W A n c l hash ((hr.below hb).more hb.size) hw hl hn
        unfold RetF at this
        rw [HQ.out.1, HQ.out.2] at this
        exact this
    have HO : Hid (∀ W, Below w.heap.size w W → Calls Try.prog 16 #[.slice A n c, .string s] W fun e w' => e = .returned (.tuple #[.agg #[.int .i64 ta, .int .i64 tb, .int .i64 tc, .int .i64 td], .bool q']) ∧ Below W.heap.size W w') :=
      Lib.hid fun W hb => by
        have := of_any W A n c l s ((hr.below hb).more hb.size) hw hl hn hs
        unfold RetF at this
        rw [HQ'.out.1, HQ'.out.2] at this
        exact this
    have HOR : Hid (∀ W, Below w.heap.size w W → Calls Try.prog 17 #[.slice A n c, .string s] W fun e w' => e = .returned (.tuple #[.agg #[.int .i64 ta, .int .i64 tb, .int .i64 tc, .int .i64 td], .bool q']) ∧ Below W.heap.size W w') :=
      Lib.hid fun W hb => by
        have := ofR_any W A n c l s ((hr.below hb).more hb.size) hw hl hn hs
        unfold RetF at this
        rw [HQ'.out.1, HQ'.out.2] at this
        exact this
    obtain ⟨qs, HQS⟩ : ∃ qs, Hid (soundL l = qs) := ⟨_, Lib.hid rfl⟩
    have HS : Hid (∀ W, Below w.heap.size w W → Calls Try.prog 19 #[.slice A n c] W (RetB W qs)) := Lib.hid fun W hb => by
      rw [← HQS.out]; exact sound_any W A n c l ((hr.below hb).more hb.size) hw hl hn
    have HSR : Hid (∀ W, Below w.heap.size w W → Calls Try.prog 20 #[.slice A n c] W (RetB W qs)) := Lib.hid fun W hb => by
      rw [← HQS.out]; exact soundRing_any W A n c l ((hr.below hb).more hb.size) hw hl hn
    have hln : (newL nodes).length ≤ maxLen := by
      unfold newL maxLen
      split
      · simp
      · simp; omega
    generalize newL nodes = ln at *
    generalize newE nodes = en at *
    clear hr hw hl
    go_enter Try.func3, Try.ntmps3
    go_upto_region 5 with (first
      | (refine wpList_unguard rfl ?_)
      | (go_at_call 10; refine (HSM.out _).mono ?_; rintro e w' ⟨rfl, rfl⟩)
      | (go_at_call 12; refine (HNEW.out _).mono ?_; rintro e w1 ⟨A1, c1, rfl, hc1, hcm1, hr1, hb1⟩)
      | (go_at_call 13; refine (HNEWR.out _).mono ?_; rintro e w2 ⟨A2, c2, rfl, hc2, hcm2, hr2, hb2⟩))
    obtain ⟨B5, H5⟩ : ∃ B, Hid (B = w2.heap.size ∧ Below w.heap.size w w2 ∧ Reads w2 B 4 A1 ln.length (rowCells ln) ∧ Reads w2 B 4 A2 ln.length (rowCells ln)) :=
      ⟨_, Lib.hid ⟨rfl, hb1.trans (hb2.mono hb1.size), (hr1.below hb2).more hb2.size, hr2⟩⟩
    clear hr1 hr2 hb1 hb2
    -- region 5
    go_upto_region 6 with (go_at_call 14; refine (HF.out _ H5.out.2.1).mono ?_; rintro e w3 ⟨rfl, hb3⟩)
    have H6 : Hid (Below w.heap.size w (w3.alloc (.cells #[.int .i64 ra, .int .i64 rb, .int .i64 rc, .int .i64 rd] 31)) ∧
        Below w2.heap.size w2 (w3.alloc (.cells #[.int .i64 ra, .int .i64 rb, .int .i64 rc, .int .i64 rd] 31)) ∧
        (w3.alloc (.cells #[.int .i64 ra, .int .i64 rb, .int .i64 rc, .int .i64 rd] 31)).rangeAt w3.heap.size 0 (Rg.cells ⟨ra, rb, rc, rd⟩)) := by
      have k := hb3.alloc hb3.size (.cells #[.int .i64 ra, .int .i64 rb, .int .i64 rc, .int .i64 rd] 31)
      exact Lib.hid ⟨H5.out.2.1.trans (k.mono H5.out.2.1.size), k, range_new w3 (Rg.cells ⟨ra, rb, rc, rd⟩) _⟩
    have L3 : Hid (w3.heap.size < (w3.alloc (.cells #[.int .i64 ra, .int .i64 rb, .int .i64 rc, .int .i64 rd] 31)).heap.size) := Lib.hid (by rw [alloc_size]; omega)
    clear hb3
    generalize hW5 : w3.alloc (.cells #[.int .i64 ra, .int .i64 rb, .int .i64 rc, .int .i64 rd] 31) = W5 at *
    clear hW5
    generalize hb1n : w3.heap.size = b1 at *
    clear hb1n
    go_upto_region 7 with (go_at_call 15; refine (HFR.out _ H6.out.1).mono ?_; rintro e w4 ⟨rfl, hb4⟩)
    have H7 : Hid (Below W5.heap.size W5 (w4.alloc (.cells #[.int .i64 ra, .int .i64 rb, .int .i64 rc, .int .i64 rd] 31)) ∧
        (w4.alloc (.cells #[.int .i64 ra, .int .i64 rb, .int .i64 rc, .int .i64 rd] 31)).rangeAt w4.heap.size 0 (Rg.cells ⟨ra, rb, rc, rd⟩)) := by
      exact Lib.hid ⟨hb4.alloc hb4.size _, range_new w4 (Rg.cells ⟨ra, rb, rc, rd⟩) _⟩
    have L4 : Hid (w4.heap.size < (w4.alloc (.cells #[.int .i64 ra, .int .i64 rb, .int .i64 rc, .int .i64 rd] 31)).heap.size) := Lib.hid (by rw [alloc_size]; omega)
    clear hb4
    generalize hW6 : w4.alloc (.cells #[.int .i64 ra, .int .i64 rb, .int .i64 rc, .int .i64 rd] 31) = W6 at *
    clear hW6
    generalize hb2n : w4.heap.size = b2 at *
    clear hb2n
    go_upto_region 8 with (go_at_call 16; refine (HO.out _ (H6.out.1.trans (H7.out.1.mono H6.out.1.size))).mono ?_; rintro e w5 ⟨rfl, hb5⟩)
    have H8 : Hid (Below W6.heap.size W6 (w5.alloc (.cells #[.int .i64 ta, .int .i64 tb, .int .i64 tc, .int .i64 td] 31)) ∧
        (w5.alloc (.cells #[.int .i64 ta, .int .i64 tb, .int .i64 tc, .int .i64 td] 31)).rangeAt w5.heap.size 0 (Rg.cells ⟨ta, tb, tc, td⟩)) := by
      exact Lib.hid ⟨hb5.alloc hb5.size _, range_new w5 (Rg.cells ⟨ta, tb, tc, td⟩) _⟩
    have L5 : Hid (w5.heap.size < (w5.alloc (.cells #[.int .i64 ta, .int .i64 tb, .int .i64 tc, .int .i64 td] 31)).heap.size) := Lib.hid (by rw [alloc_size]; omega)
    clear hb5
    generalize hW7 : w5.alloc (.cells #[.int .i64 ta, .int .i64 tb, .int .i64 tc, .int .i64 td] 31) = W7 at *
    clear hW7
    generalize hb3n : w5.heap.size = b3 at *
    clear hb3n
    have C7 := Lib.hid (H6.out.1.trans ((H7.out.1.trans (H8.out.1.mono H7.out.1.size)).mono H6.out.1.size))
    go_upto_region 9 with (go_at_call 17; refine (HOR.out _ C7.out).mono ?_; rintro e w6 ⟨rfl, hb6⟩)
    have H9 : Hid (Below W7.heap.size W7 (w6.alloc (.cells #[.int .i64 ta, .int .i64 tb, .int .i64 tc, .int .i64 td] 31)) ∧
        (w6.alloc (.cells #[.int .i64 ta, .int .i64 tb, .int .i64 tc, .int .i64 td] 31)).rangeAt w6.heap.size 0 (Rg.cells ⟨ta, tb, tc, td⟩)) := by
      exact Lib.hid ⟨hb6.alloc hb6.size _, range_new w6 (Rg.cells ⟨ta, tb, tc, td⟩) _⟩
    have L6 : Hid (w6.heap.size < (w6.alloc (.cells #[.int .i64 ta, .int .i64 tb, .int .i64 tc, .int .i64 td] 31)).heap.size) := Lib.hid (by rw [alloc_size]; omega)
    clear hb6
    generalize hW8 : w6.alloc (.cells #[.int .i64 ta, .int .i64 tb, .int .i64 tc, .int .i64 td] 31) = W8 at *
    clear hW8
    generalize hb4n : w6.heap.size = b4 at *
    clear hb4n
    have K57 : Hid (Below W5.heap.size W5 W7) := Lib.hid (H7.out.1.trans (H8.out.1.mono H7.out.1.size))
    have K58 : Hid (Below W5.heap.size W5 W8) := Lib.hid (K57.out.trans (H9.out.1.mono K57.out.size))
    have K68 : Hid (Below W6.heap.size W6 W8) := Lib.hid (H8.out.1.trans (H9.out.1.mono H8.out.1.size))
    have KW8 : Hid (Below w.heap.size w W8) := Lib.hid (H6.out.1.trans (K58.out.mono H6.out.1.size))
    have KR : Hid (Below w2.heap.size w2 W8) := Lib.hid (H6.out.2.1.trans (K58.out.mono H6.out.2.1.size))
    have RS : Hid (Reads W8 w2.heap.size 4 A1 ln.length (rowCells ln) ∧ Reads W8 w2.heap.size 4 A2 ln.length (rowCells ln)) := by
      obtain ⟨e, _, x1, x2⟩ := H5.out
      subst e
      exact Lib.hid ⟨x1.below KR.out, x2.below KR.out⟩
    have RA : Hid (W8.rangeAt b1 0 (Rg.cells ⟨ra, rb, rc, rd⟩) ∧ W8.rangeAt b2 0 (Rg.cells ⟨ra, rb, rc, rd⟩) ∧ W8.rangeAt b3 0 (Rg.cells ⟨ta, tb, tc, td⟩) ∧ W8.rangeAt b4 0 (Rg.cells ⟨ta, tb, tc, td⟩)) :=
      Lib.hid ⟨range_below_at H6.out.2.2 K58.out L3.out, range_below_at H7.out.2 K68.out L4.out, range_below_at H8.out.2 H9.out.1 L5.out, H9.out.2⟩
    have LA : Hid (b1 < W8.heap.size ∧ b2 < W8.heap.size ∧ b3 < W8.heap.size ∧ b4 < W8.heap.size) := Lib.hid ⟨by have := L3.out; have := K58.out.size; omega, by have := L4.out; have := K68.out.size; omega, by have := L5.out; have := H9.out.1.size; omega, L6.out⟩
    have EN : (en == en) = true := by simp
    go_wp2_with (first
      | (refine wpList_unguard rfl ?_)
      | (go_at_call 18; refine (same_any W8 A1 A2 _ _ _ _ _ ln RS.out.1 RS.out.2 rfl hln).mono ?_; rintro e w' ⟨rfl, m1, rfl⟩)
      | (go_at_call 19; refine (HS.out _ (below_drewN KW8.out _)).mono ?_; rintro e w9 ⟨rfl, hb9⟩)
      | (go_at_call 20; refine (HSR.out _ ((below_drewN KW8.out _).trans (hb9.mono KW8.out.size))).mono ?_; rintro e w10 ⟨rfl, hb10⟩; have K8 : Hid (Below W8.heap.size W8 w10) := Lib.hid ((below_drewN (Below.refl _ _) _).trans (hb9.trans (hb10.mono hb9.size))))
      | (refine wpList_load_mid rfl 31 _ rfl b1 0 rfl (Rg.cells ⟨ra, rb, rc, rd⟩) _ (range_below_at RA.out.1 K8.out LA.out.1) Try.underlying31 rfl (by kernel_rfl) ?_)
      | (refine wpList_load_mid rfl 31 _ rfl b2 0 rfl (Rg.cells ⟨ra, rb, rc, rd⟩) _ (range_below_at RA.out.2.1 K8.out LA.out.2.1) Try.underlying31 rfl (by kernel_rfl) ?_)
      | (refine wpList_load_mid rfl 31 _ rfl b3 0 rfl (Rg.cells ⟨ta, tb, tc, td⟩) _ (range_below_at RA.out.2.2.1 K8.out LA.out.2.2.1) Try.underlying31 rfl (by kernel_rfl) ?_)
      | (refine wpList_load_mid rfl 31 _ rfl b4 0 rfl (Rg.cells ⟨ta, tb, tc, td⟩) _ (range_below_at RA.out.2.2.2 K8.out LA.out.2.2.2) Try.underlying31 rfl (by kernel_rfl) ?_)
      | (refine wpList_eq_same rfl _ _ rfl ⟨ra, rb, rc, rd⟩ rfl rfl ?_)
      | (refine wpList_eq_same rfl _ _ rfl ⟨ta, tb, tc, td⟩ rfl rfl ?_)
      | (go_at_call 11; refine (awake_any _).mono ?_; rintro e w' ⟨rfl, hb11⟩))
    go_ret
    exact ⟨rfl, (KW8.out.trans (K8.out.mono KW8.out.size)).trans (hb11.mono (KW8.out.trans (K8.out.mono KW8.out.size)).size)⟩
  · have h1d : decide (n ≤ 80) = false := by simpa using h1
    clear hr hw hl
    go_enter Try.func3, Try.ntmps3
    go_wp2_with (first
      | (refine wpList_unguard rfl ?_)
      | (go_at_call 10; refine (HSM.out _).mono ?_; rintro e w' ⟨rfl, rfl⟩)
      | (go_at_call 11; refine (awake_any _).mono ?_; rintro e w' ⟨rfl, hb⟩))
    go_ret
    exact ⟨rfl, hb⟩
end Go.Proofs.Ytbgnmkjjfaepiaa
