/- The walk of the law's own 'awake', and of the law FramePuts. No condition. -/
import Derived.Test.YtpacbdfingbhgaaFramePut
import Derived.Lib.SlBytesConst
namespace Go.Proofs.Ytpacbdfingbhgaa
open Go.RowKit
set_option linter.unusedVariables false

/-- The call answers true; nothing that was there has turned. -/
def RetTrue (w : World) (e : Ending) (w' : World) : Prop := e = .returned (.bool true) ∧ Below w.heap.size w w'
theorem below_drewN {B : Nat} {a w : World} (h : Below B a w) (n : Nat) : Below B a (w.drewN n) := ⟨h.os, h.tape, h.output, h.size, h.block⟩
theorem RetTrue.from {w w1 : World} {e : Ending} {w' : World} (hb : Below w.heap.size w w1) (h : RetTrue w1 e w') : RetTrue w e w' :=
  ⟨h.1, hb.trans (h.2.mono hb.size)⟩
/-- A new, marked block of some one-cell elements reads as these. -/
theorem reads_newm (w : World) (vs : List Value) (e : TypeId) (m : Nat × Nat) : Reads (w.alloc (.cells vs.toArray e m)) (w.heap.size + 1) 1 (some ⟨w.heap.size, 0, none⟩) vs.length vs := by
  refine ⟨by simp, fun _ => ⟨_, rfl, by simp, fun j u hu => ?_⟩⟩
  have hadd : (⟨w.heap.size, 0, none⟩ : Addr).add j = ⟨w.heap.size, j, none⟩ := by unfold Addr.add; split <;> simp_all
  rw [hadd, cell_of_row (w.alloc (.cells vs.toArray e m)) w.heap.size j vs.toArray e m (heap_alloc_new w _)]
  simpa using hu
theorem sum_check : ((sumL [49, 50, 51, 52, 53, 54, 55, 56, 57] : Nat) : Int) = 3421780262 := by decide +kernel

set_option maxRecDepth 100000 in
set_option maxHeartbeats 800000 in
theorem awake_any (w : World) : Calls Try.prog 9 #[] w (RetTrue w) := by
  have hs := sum_check
  have kc := fun (w : World) (C : Array Value) (n c : Nat) => Lib.run_convert_bytes_const (P := Try.prog) w 22 5 C n c Try.underlying22 Try.underlying5
  have r1 := reads_newm w (bc [97]) 5 (1, 2)
  have hb0 : Below w.heap.size w (w.alloc (.cells (bc [97]).toArray 5 (1, 2))) := (Below.refl _ _).alloc (Nat.le_refl _) _
  have hz0 : (w.alloc (.cells (bc [97]).toArray 5 (1, 2))).heap.size = w.heap.size + 1 := by simp
  rw [← hz0] at r1
  go_enter Try.func9, Try.ntmps9
  go_wp2_with fail
  refine (fput_yes _ 1 _ [97] _ r1 (by omega)).mono ?_
  rintro e w1 ⟨A1, c1, rfl, ho1, hb1⟩
  have hp : (putL [97]).length = 9 := by rw [putL_length]; rfl
  rw [hp] at ho1
  obtain ⟨g, c, hv, hc1, hm1, hg0, hg1, hcell⟩ := own_open ho1 (by omega)
  injection hv with e1 e2 e3
  subst e1 e3
  have c0 := hcell 0 (.int .u8 1) rfl
  clear hcell hz0 r1
  have hb2 := hb0.trans (hb1.mono (by simp))
  rw [hp]
  clear hp
  have r2 := reads_newm w1 (bc [49, 50, 51, 52, 53, 54, 55, 56, 57]) 5 (9, 10)
  go_wp2_with (go_at_call 13; refine (sum_any _ 9 _ [49, 50, 51, 52, 53, 54, 55, 56, 57] _ r2 (by unfold maxLen; omega)).mono ?_; rintro e w' ⟨rfl, rfl⟩)
  go_ret
  exact ⟨rfl, hb2.alloc hb2.size _⟩

set_option maxRecDepth 100000 in
set_option maxHeartbeats 800000 in
theorem framePuts_walk (w : World) (A : Option Addr) (n c : Nat) (p : List UInt8) (ha : Reads w w.heap.size 1 A n (bc p)) (hnc : n ≤ c) (hc : c ≤ maxLen) :
    Calls Try.prog 3 #[.slice A n c] w (RetTrue w) := by
  by_cases hl : 3000 < n
  · go_enter Try.func3, Try.ntmps3
    go_wp2_with (go_at_call 9; refine (awake_any _).mono ?_; rintro e w' ⟨rfl, hb⟩)
    go_ret
    exact ⟨rfl, hb⟩
  have hn : n ≤ 3000 := by omega
  have hm : n ≤ maxLen := by unfold maxLen; omega
  have HL : Hid (p.length = n) := by have := ha.1; rw [bc_length] at this; unfold Hid; omega
  have hp : (putL p).length ≤ maxLen := by rw [putL_length, HL.out]; unfold maxLen; omega
  clear hl
  go_enter Try.func3, Try.ntmps3
  go_wp2_with fail
  refine (fput_yes A n c p _ ha (by omega)).mono ?_
  rintro e w1 ⟨A1, c1, rfl, ho1, hb1⟩
  have hz1 := hb1.size
  go_wp2_with fail
  refine (refFput_yes A n c p _ ((ha.below hb1).more hz1) (by omega)).mono ?_
  rintro e w2 ⟨A2, c2, rfl, ho2, hb2⟩
  go_wp2_with fail
  refine (bytes_same A1 A2 _ c1 c2 _ _ ((Reads.of_own ho1).below hb2) (Reads.of_own ho2) hp).mono ?_
  rintro e w3 ⟨rfl, m3, rfl⟩
  have ha3 := ((ha.below hb1).below (hb2.mono hz1)).drewN m3
  go_wp2_with (first
    | (go_at_call 13; refine (sum_any _ _ _ p _ ha3 hm).mono ?_; rintro e w' ⟨rfl, rfl⟩)
    | (go_at_call 14; refine (refSum_any _ _ _ p _ ha3 hm).mono ?_; rintro e w' ⟨rfl, rfl⟩)
    | (go_at_call 9; refine (awake_any _).mono ?_; rintro e w' ⟨rfl, hb⟩))
  go_ret
  exact RetTrue.from (below_drewN (hb1.trans (hb2.mono hz1)) _) ⟨rfl, hb⟩
end Go.Proofs.Ytpacbdfingbhgaa
