/- What every row's step of this seat shares: the program's knob and layout; a slice of ranges, and a range, that came in, opened. No condition. -/
import Derived.Test.YtbgnmkjjfaepiaaRingOps
import Derived.ProofKit
import Derived.OpenShut
import Derived.ShutString
import Derived.ChangeOld
import Derived.Below
import Derived.Deep.Slices
import Derived.Lib.SmallJoins
namespace Go.Proofs.Ytbgnmkjjfaepiaa
open Go.ChangeShapes Go.WideShapes Go.ChangeAt Go.RowKit Go.Deep Go.Joins
set_option linter.unusedVariables false

theorem own : ownKnob Try.prog.godebug = none := by kernel_rfl
theorem laidOut : laidOutB Try.prog = true := by kernel_rfl

theorem wf_int {n : Int} (h : (Lit.int .i64 n).wf = true) : -9223372036854775808 ≤ n ∧ n ≤ 9223372036854775807 := by
  simp [Lit.wf, IntKind.min, IntKind.max, IntKind.signed, IntKind.bits] at h
  omega
/-- A struct of four numbers, read. -/
theorem read_range {H : Type} {enc : TypeId × Value → H} {W : World} {fuel : Nat} {cs : List Value} {x : DataW H × List MemPlace}
    (h : DataW.trod enc Try.prog W 0 (fun _ => true) true fuel 31 cs = some x) : ∃ r : Rg, cs = r.cells ∧ r.wf := by
  obtain ⟨y0, y1, y2, y3, n, _, hl, h0, h1, h2, h3⟩ := trod_struct4 Try.underlying31 h
  have hC : Try.prog.cellsOf 31 = 4 := by kernel_rfl
  have hI : Try.prog.cellsOf 3 = 1 := by kernel_rfl
  rw [hC] at hl
  match cs, hl with
  | [c0, c1, c2, c3], _ =>
    obtain ⟨a, ha, _, wa⟩ := DataW.trod_int Try.underlying3 h0
    obtain ⟨b, hb, _, wb⟩ := DataW.trod_int Try.underlying3 h1
    obtain ⟨c, hc, _, wc⟩ := DataW.trod_int Try.underlying3 h2
    obtain ⟨d, hd, _, wd⟩ := DataW.trod_int Try.underlying3 h3
    simp only [hI] at ha hb hc hd
    refine ⟨⟨a, b, c, d⟩, ?_, ?_⟩
    · simp at ha hb hc hd
      simp [Rg.cells, ha, hb, hc, hd]
    · have := wf_int wa; have := wf_int wb; have := wf_int wc; have := wf_int wd
      unfold Rg.wf
      simp only
      omega

/-- A slice of ranges that came in. -/
theorem open_ranges {H : Type} {enc : TypeId × Value → H} {W : World} {v : Value} {d : DataW H} {p : List MemPlace} {r : Reach} {b : Nat}
    (hv : Value.okWide Try.prog W r b 22 v) (h : DataW.Trod enc Try.prog W 0 (fun _ => true) true 22 v d p) :
    ∃ (A : Option Addr) (n c : Nat) (l : List Rg), v = .slice A n c ∧ Reads W W.heap.size 4 A n (rowCells l) ∧ (∀ r ∈ l, r.wf) ∧ l.length = n ∧ n ≤ c ∧ c ≤ maxLen := by
  obtain ⟨A, n, c, rfl⟩ := okWide_slice Try.underlying22 hv
  obtain ⟨fuel, hf⟩ := h
  have hC : Try.prog.cellsOf 31 = 4 := by kernel_rfl
  rcases open_slice Try.underlying22 hf with ⟨hcs, _⟩ | ⟨a, len, cap, m, k, D, Pl, hcs, _, hl, hm, hmm, _, hi⟩
  · simp [Value.cells] at hcs
    obtain ⟨rfl, rfl, rfl⟩ := hcs
    exact ⟨none, 0, 0, [], rfl, Reads.none_, fun r h => by simp at h, rfl, Nat.le_refl _, Nat.zero_le _⟩
  · simp [Value.cells] at hcs
    obtain ⟨rfl, rfl, rfl⟩ := hcs
    have hnm : n ≤ m := by rw [hmm]; simpa using hl
    have hb : ∀ i, i < n → ∃ r : Rg, r.wf ∧ ∀ j, j < 4 → W.cell? (a.add (i * 4 + j)) = r.cells[j]? := fun i hin => by
      obtain ⟨cs', hc, ht'⟩ := hi i (by omega)
      rw [hC] at hc
      obtain ⟨_, hcl, hat⟩ := World.cells?_some hc
      obtain ⟨r, rfl, hw⟩ := read_range ht'
      exact ⟨r, hw, fun j hj => by rw [← add_of_add]; exact hat j hj⟩
    obtain ⟨f, hf'⟩ := choose_lt hb
    have hlen : ((List.range n).map f).length = n := by simp
    refine ⟨some a, n, c, (List.range n).map f, rfl, ⟨by rw [rowCells_length, hlen], fun h0 => ⟨a, rfl, ?_, fun j u hu => ?_⟩⟩, fun r hr => ?_, hlen, hl, hm⟩
    · have h1 := (hf' 0 h0).2 0 (by omega)
      have h2 := World.block_lt_of_cell? W _ (h1.trans (by simp [Rg.cells]; rfl))
      rwa [block_of_add] at h2
    · have hj : j < n * 4 := by
        have := (List.getElem?_eq_some_iff.1 hu).1
        rwa [rowCells_length, hlen] at this
      have hi4 : j / 4 < n := by omega
      have hg : ((List.range n).map f)[j / 4]? = some (f (j / 4)) := by simp [hi4]
      have := rowCells_get hg (j % 4) (Nat.mod_lt _ (by omega))
      rw [show j / 4 * 4 + j % 4 = j by omega] at this
      have h2 := (hf' (j / 4) hi4).2 (j % 4) (Nat.mod_lt _ (by omega))
      rw [show j / 4 * 4 + j % 4 = j by omega] at h2
      rw [h2, ← this, hu]
    · rw [List.mem_map] at hr
      obtain ⟨i, hi', rfl⟩ := hr
      exact (hf' i (by simpa using hi')).1

/-- A range that came in by value. -/
theorem open_range {H : Type} {enc : TypeId × Value → H} {W : World} {v : Value} {d : DataW H} {p : List MemPlace} {r : Reach} {b : Nat}
    (hv : Value.okWide Try.prog W r b 31 v) (h : DataW.Trod enc Try.prog W 0 (fun _ => true) true 31 v d p) :
    ∃ r : Rg, v = r.val ∧ r.wf := by
  obtain ⟨cs, rfl, hsz⟩ := okWide_struct Try.underlying31 hv
  obtain ⟨fuel, hf⟩ := h
  obtain ⟨r, hr, hw⟩ := read_range hf
  refine ⟨r, ?_, hw⟩
  simp [Value.cells] at hr
  obtain ⟨cl⟩ := cs
  simp at hr
  subst hr
  rfl
end Go.Proofs.Ytbgnmkjjfaepiaa
