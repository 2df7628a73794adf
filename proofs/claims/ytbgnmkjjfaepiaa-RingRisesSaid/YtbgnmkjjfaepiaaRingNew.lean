import Derived.Test.YtbgnmkjjfaepiaaRingOps
namespace Go.Proofs.Ytbgnmkjjfaepiaa
open Go.RowKit
set_option linter.unusedVariables false

/-- The range number k of a new ring of n nodes. -/
def newR (n : Int) (k : Nat) : Rg := ⟨(k : Int) * 4294967296 / n, ((k : Int) + 1) * 4294967296 / n - 1, (k : Int) + 1, 1⟩
def newL (n : Int) : List Rg := if n < 1 ∨ 5 < n then [] else (List.range n.toNat).map (newR n)
def newE (n : Int) : Int := if n < 1 ∨ 5 < n then 1 else 0

set_option maxRecDepth 100000 in
theorem new1_any (w : World) (k n : Int) (p : Addr) (hc : w.cell? p = some (.int .i64 n)) (hk0 : 0 ≤ k) (hk1 : k ≤ 5) (hn0 : 1 ≤ n) (hn1 : n ≤ 5) :
    Calls Try.prog 28 #[.int .i64 k, .pointer (some p)] w fun e w' => e = .returned (.int .i64 (k * 4294967296 / n)) ∧ w = w' := by
  have hne : (n == 0) = false := by simp; omega
  go_enter Try.func28, Try.ntmps28
  go_wp2
  go_ret
  exact ⟨rfl, rfl⟩

set_option maxRecDepth 100000 in
set_option maxHeartbeats 4000000 in
theorem new_any (w : World) (n : Int) (hn0 : -9223372036854775808 ≤ n) (hn1 : n ≤ 9223372036854775807) :
    Calls Try.prog 12 #[.int .i64 n] w (RetRow w (newL n) (newE n)) := by
  by_cases h1 : n < 1
  · have HE := Lib.hid (show newL n = [] ∧ newE n = 1 by simp [newL, newE, h1])
    go_enter Try.func12, Try.ntmps12
    go_wp2
    go_ret2
    rw [HE.out.1, HE.out.2]
    exact ⟨none, 0, rfl, Nat.le_refl _, Nat.zero_le _, Reads.none_, (Below.refl _ _).alloc (Nat.le_refl _) _⟩
  by_cases h2 : 5 < n
  · have HE := Lib.hid (show newL n = [] ∧ newE n = 1 by simp [newL, newE, h2])
    go_enter Try.func12, Try.ntmps12
    go_wp2
    go_ret2
    rw [HE.out.1, HE.out.2]
    exact ⟨none, 0, rfl, Nat.le_refl _, Nat.zero_le _, Reads.none_, (Below.refl _ _).alloc (Nat.le_refl _) _⟩
  obtain ⟨N, rfl⟩ : ∃ N : Nat, n = (N : Int) := ⟨n.toNat, by omega⟩
  have hN1 : 1 ≤ N := by omega
  have hN5 : N ≤ 5 := by omega
  clear h1 h2
  have HE : Hid (newL (N : Int) = (List.range N).map (newR (N : Int)) ∧ newE (N : Int) = 0) := Lib.hid (by simp only [newL, newE]; rw [if_neg (by omega), if_neg (by omega)]; simp)
  go_enter Try.func12, Try.ntmps12
  go_wp2
  go_loopw [2, 14] (fun v i wr => ∃ k : Nat, k ≤ N ∧ i = .int .i64 k ∧ Owns wr (w.heap.size + 1) 31 4 v k (rowCells ((List.range k).map (newR (N : Int)))) ∧ wr.cell? ⟨w.heap.size, 0, none⟩ = some (.int .i64 N) ∧ w.heap.size < wr.heap.size ∧ Below w.heap.size w wr) (fun _ i _ => N - (intOf i).toNat)
  case atStart => exact ⟨0, Nat.zero_le _, rfl, Owns.nil_ _ _ _ _, World.cell?_alloc_at _ _ _ _ rfl, by rw [alloc_size]; omega, (Below.refl _ _).alloc (Nat.le_refl _) _⟩
  case round =>
    obtain ⟨k, hk, rfl, hown, hcell, hlt0, hb⟩ := hrel
    have HO := Lib.hid hown
    have HB := Lib.hid hb
    clear hown hb
    refine code_hide (fun Q0 HQ0 => ?_)
    by_cases hlt : k < N
    · have hd0 : 0 ≤ ((k : Int) + 1) * 4294967296 / (N : Int) := Int.ediv_nonneg (by omega) (by omega)
      have hd1 : ((k : Int) + 1) * 4294967296 / (N : Int) ≤ 30000000000 := Int.le_trans (Int.ediv_le_self _ (by omega)) (by omega)
      go_wp2_with (first
        | (go_at_call 28; refine (new1_any _ _ _ _ hcell (by omega) (by omega) (by omega) (by omega)).mono ?_; rintro e w' ⟨rfl, rfl⟩)
        | (at_builtin; refine app_ranges _ rfl (.tmp 17) (.tmp 29) rfl (w.heap.size + 1) _ k (rowCells ((List.range k).map (newR (N : Int)))) rfl (HO.out.alloc _) _ _ 1 _ (newR (N : Int) k).cells rfl (reads_newR _ _ _ _ _ _) (Rg.cells_one _) (by omega) (by rw [alloc_size]; omega) ?_; intro v1 w1 ho1 hb1 hr1))
      refine hide_out HQ0 ?_
      go_step
      go_roundw
      case rel =>
        refine ⟨k + 1, by omega, by go_num, ?_, ?_, ?_, ?_⟩
        · have : rowCells ((List.range (k + 1)).map (newR (N : Int))) = rowCells ((List.range k).map (newR (N : Int))) ++ (newR (N : Int) k).cells := by
            rw [List.range_succ, List.map_append, rowCells_append]; simp [rowCells]
          rw [this]; exact ho1
        · rw [hb1.cell (by simp), World.cell?_alloc_lt _ _ _ hlt0]; exact hcell
        · have := hb1.size; rw [alloc_size] at this; omega
        · exact (HB.out.alloc HB.out.size _).trans (hb1.mono (by omega))
      case measure => simp [intOf]; omega
    · obtain rfl : N = k := by omega
      obtain ⟨A, c, hv, hc1, hc2, hrd⟩ := HO.out.form
      subst hv
      go_wp2
      refine hide_out HQ0 ?_
      go_wp2
      go_ret2
      rw [HE.out.1, HE.out.2]
      have hlen : ((List.range N).map (newR (N : Int))).length = N := by simp
      refine ⟨A, c, ?_, by rw [hlen]; exact hc1, hc2, by rw [hlen]; exact hrd, HB.out⟩
      rw [hlen] <;> rfl
end Go.Proofs.Ytbgnmkjjfaepiaa
