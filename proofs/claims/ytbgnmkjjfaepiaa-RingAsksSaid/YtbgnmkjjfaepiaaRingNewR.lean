import Derived.Test.YtbgnmkjjfaepiaaRingNew
import Derived.StillTailTactics
import Derived.Deep.RegionLaw
namespace Go.Proofs.Ytbgnmkjjfaepiaa
open Go.RowKit
set_option linter.unusedVariables false

set_option maxRecDepth 100000 in
set_option maxHeartbeats 4000000 in
theorem newRing_any (w : World) (n : Int) (hn0 : -9223372036854775808 ≤ n) (hn1 : n ≤ 9223372036854775807) :
    Calls Try.prog 13 #[.int .i64 n] w (RetRow w (newL n) (newE n)) := by
  by_cases h1 : n < 1
  · have HE := Lib.hid (show newL n = [] ∧ newE n = 1 by simp [newL, newE, h1])
    go_enter Try.func13, Try.ntmps13
    go_wp2
    go_ret2
    rw [HE.out.1, HE.out.2]
    exact ⟨none, 0, rfl, Nat.le_refl _, Nat.zero_le _, Reads.none_, Below.refl _ _⟩
  by_cases h2 : 5 < n
  · have HE := Lib.hid (show newL n = [] ∧ newE n = 1 by simp [newL, newE, h2])
    go_enter Try.func13, Try.ntmps13
    go_wp2
    go_ret2
    rw [HE.out.1, HE.out.2]
    exact ⟨none, 0, rfl, Nat.le_refl _, Nat.zero_le _, Reads.none_, Below.refl _ _⟩
  obtain ⟨N, rfl⟩ : ∃ N : Nat, n = (N : Int) := ⟨n.toNat, by omega⟩
  have hN1 : 1 ≤ N := by omega
  have hN5 : N ≤ 5 := by omega
  clear h1 h2
  have hne : ((N : Int) == 0) = false := by simp; omega
  have HE : Hid (newL (N : Int) = (List.range N).map (newR (N : Int)) ∧ newE (N : Int) = 0) := Lib.hid (by simp only [newL, newE]; rw [if_neg (by omega), if_neg (by omega)]; simp)
  go_enter Try.func13, Try.ntmps13
  go_wp2
  go_loopw [4, 5] (fun v i wr => ∃ k : Nat, k ≤ N ∧ i = .int .i64 ((k : Int) + 1) ∧ Owns wr w.heap.size 31 4 v k (rowCells ((List.range k).map (newR (N : Int)))) ∧ Below w.heap.size w wr) (fun _ i _ => N + 1 - (intOf i).toNat)
  case atStart => exact ⟨0, Nat.zero_le _, rfl, Owns.nil_ _ _ _ _, Below.refl _ _⟩
  case round =>
    obtain ⟨k, hk, rfl, hown, hb⟩ := hrel
    have HO := Lib.hid hown
    have HB := Lib.hid hb
    clear hown hb
    by_cases hlt : k < N
    · have hd0 : 0 ≤ ((k : Int) + 1) * 4294967296 / (N : Int) := Int.ediv_nonneg (by omega) (by omega)
      have hd1 : ((k : Int) + 1) * 4294967296 / (N : Int) ≤ 30000000000 := Int.le_trans (Int.ediv_le_self _ (by omega)) (by omega)
      go_upto_region 7 with fail
      have hne2 : ¬ N = 0 := by omega
      have hw1 : IntKind.i64.wrap (k : Int) = k := IntWalk.i64_in _ (by omega)
      have hw2 : IntKind.i64.wrap ((k : Int) * 4294967296) = (k : Int) * 4294967296 := IntWalk.i64_in _ (by omega)
      have hw3 : IntKind.i64.wrap (((k : Int) * 4294967296).tdiv (N : Int)) = (k : Int) * 4294967296 / (N : Int) := IntWalk.i64_quo _ _ (by omega)
      have hw4 : IntKind.i64.wrap (((k : Int) + 1) * 4294967296) = ((k : Int) + 1) * 4294967296 := IntWalk.i64_in _ (by omega)
      have hw5 : IntKind.i64.wrap ((((k : Int) + 1) * 4294967296).tdiv (N : Int)) = ((k : Int) + 1) * 4294967296 / (N : Int) := IntWalk.i64_quo _ _ (by omega)
      have hw6 : IntKind.i64.wrap (((k : Int) + 1) * 4294967296 / (N : Int) - 1) = ((k : Int) + 1) * 4294967296 / (N : Int) - 1 := IntWalk.i64_in _ (by omega)
      have HO' : Hid (Owns wr.drew w.heap.size 31 4 _ k (rowCells ((List.range k).map (newR (N : Int))))) := HO
      have HB' : Hid (Below w.heap.size w wr.drew) := Lib.hid HB.out.drew
      clear HO HB
      go_region_law (refine app_ranges_step _ rfl (.tmp 17) (.tmp 30) rfl w.heap.size _ k (rowCells ((List.range k).map (newR (N : Int)))) rfl (HO'.out.alloc _) _ _ 1 _ (newR (N : Int) k).cells rfl (reads_newR _ _ _ _ _ _) (Rg.cells_one _) (by omega) (le_alloc HB'.out.size) ?_; intro v1 w1 ho1 hb1 hr1)
      go_wp2
      go_roundw
      case rel =>
        refine ⟨k + 1, by omega, by go_num, ?_, ?_⟩
        · have : rowCells ((List.range (k + 1)).map (newR (N : Int))) = rowCells ((List.range k).map (newR (N : Int))) ++ (newR (N : Int) k).cells := by
            rw [List.range_succ, List.map_append, rowCells_append]; simp [rowCells]
          rw [this]; exact ho1
        · exact (HB'.out.alloc HB'.out.size _).trans hb1
      case measure => simp [intOf]; omega
    · obtain rfl : N = k := by omega
      obtain ⟨A, c, hv, hc1, hc2, hrd⟩ := HO.out.form
      subst hv
      go_wp2
      go_ret2
      rw [HE.out.1, HE.out.2]
      have hlen : ((List.range N).map (newR (N : Int))).length = N := by simp
      refine ⟨A, c, ?_, by rw [hlen]; exact hc1, hc2, by rw [hlen]; exact hrd, HB.out⟩
      rw [hlen] <;> rfl
end Go.Proofs.Ytbgnmkjjfaepiaa
