/- The walk of the law FrameReads. No condition. -/
import Derived.Test.YtpacbdfingbhgaaFrameAwake
import Derived.Test.YtpacbdfingbhgaaScan
namespace Go.Proofs.Ytpacbdfingbhgaa
open Go.RowKit
set_option linter.unusedVariables false

theorem nextL_len (l : List UInt8) : (nextL l).1.length ≤ l.length := by
  rcases nextL_kind l with ⟨p, m, h⟩ | h | h
  · have := nextL_size h
    rw [h]
    show p.length ≤ _
    omega
  · rw [h]; simp
  · rw [h]; simp
theorem scanFrom_len : ∀ (f : Nat) (l : List UInt8), (scanFrom f l).1.length ≤ f
  | 0, l => Nat.le_refl _
  | f + 1, l => by
    rw [scanFrom]
    split
    · simp
    · split
      · have := scanFrom_len f (l.drop (nextL l).2.1)
        simp only [List.length_cons]
        omega
      · simp
theorem scanL_len (l : List UInt8) : (scanL l).1.length ≤ l.length := scanFrom_len _ _

set_option maxRecDepth 100000 in
set_option maxHeartbeats 1600000 in
theorem frameReads_walk (w : World) (A : Option Addr) (n c : Nat) (l : List UInt8) (ha : Reads w w.heap.size 1 A n (bc l)) (hnc : n ≤ c) (hc : c ≤ maxLen) :
    Calls Try.prog 6 #[.slice A n c] w (RetTrue w) := by
  by_cases hl : 3000 < n
  · go_enter Try.func6, Try.ntmps6
    go_wp2_with (go_at_call 9; refine (awake_any _).mono ?_; rintro e w' ⟨rfl, hb⟩)
    go_ret
    exact ⟨rfl, hb⟩
  have hn : n ≤ 3000 := by omega
  clear hl
  have HL : Hid (l.length = n) := by have := ha.1; rw [bc_length] at this; unfold Hid; omega
  have hp : (nextL l).1.length ≤ maxLen := by have := nextL_len l; have := HL.out; unfold maxLen; omega
  have hsl : (scanL l).1.length ≤ maxLen := by have := scanL_len l; have := HL.out; unfold maxLen; omega
  go_enter Try.func6, Try.ntmps6
  go_wp2_with fail
  refine (fnext_any A n c l _ ha hnc hc).mono ?_
  rintro e w1 ⟨A1, c1, rfl, ho1, hb1⟩
  have hz1 := hb1.size
  go_wp2_with fail
  refine (refFnext_any A n c l _ ((ha.below hb1).more hz1) hnc hc).mono ?_
  rintro e w2 ⟨A2, c2, rfl, ho2, hb2⟩
  have hb02 := hb1.trans (hb2.mono hz1)
  have hz2 := hb02.size
  go_wp2_with fail
  refine (scan_any A n c l _ ((ha.below hb02).more hz2) hnc hc (by omega)).mono ?_
  rintro e w3 ⟨A3, c3, vs3, rfl, ho3, hall3, hb3⟩
  have hb03 := hb02.trans (hb3.mono hz2)
  have hz3 := hb03.size
  go_wp2_with fail
  refine (refScan_any A n c l _ ((ha.below hb03).more hz3) hnc hc (by omega)).mono ?_
  rintro e w4 ⟨A4, c4, vs4, rfl, ho4, hall4, hb4⟩
  have hb04 := hb03.trans (hb4.mono hz3)
  have hz12 := hb2.size
  have hz23 := hb3.size
  have hz34 := hb4.size
  have r1 := (((Reads.of_own ho1).below hb2).more hz12).below hb3 |>.more hz23 |>.below hb4
  have r2 := (((Reads.of_own ho2).below hb3).more hz23).below hb4
  go_wp2_with fail
  refine (bytes_same A1 A2 _ c1 c2 _ _ r1 r2 hp).mono ?_
  rintro e w5 ⟨rfl, m5, rfl⟩
  have r3 := ((Reads.of_own ho3).below hb4).drewN m5
  have r4 := (Reads.of_own ho4).drewN m5
  have a3 := (hall3.reads.below hb4).drewN m5
  have a4 := hall4.reads.drewN m5
  go_wp2_with fail
  refine (rows_same A3 A4 _ c3 c4 _ _ _ _ r3 r4 a3 a4 hsl).mono ?_
  rintro e w6 ⟨rfl, m6, rfl⟩
  go_wp2_with (go_at_call 9; refine (awake_any _).mono ?_; rintro e w' ⟨rfl, hb⟩)
  go_ret
  exact RetTrue.from (below_drewN hb04 _) ⟨rfl, hb⟩
end Go.Proofs.Ytpacbdfingbhgaa
