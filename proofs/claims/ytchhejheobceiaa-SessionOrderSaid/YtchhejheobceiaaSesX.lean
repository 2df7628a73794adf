/- What SessionOrder's step shares: a slice of steps that came in, opened. No condition. -/
import Derived.Test.YtchhejheobceiaaFrame
import Derived.Test.YtchhejheobceiaaSesN
import Derived.Deep.Slices
import Derived.Deep.Strs
namespace Go.Proofs.Ytchhejheobceiaa
open Go.ChangeShapes Go.WideShapes Go.ChangeAt Go.RowKit Go.Deep
set_option linter.unusedVariables false

theorem wf_i {n : Int} (h : (Lit.int .i64 n).wf = true) : -9223372036854775808 ≤ n ∧ n ≤ 9223372036854775807 := by
  simp [Lit.wf, IntKind.min, IntKind.max, IntKind.signed, IntKind.bits] at h
  omega
section
variable {H : Type} {enc : TypeId × Value → H} {W : World}
theorem trod_struct5 {P : Program} {w : World} {base : Nat} {spare : Nat → Bool} {held : Bool} {t : TypeId} {f0 f1 f2 f3 f4 : Field} {fuel : Nat} {cs : List Value} {x : DataW H × List MemPlace} (ht : P.underlying t = some (.struct #[f0, f1, f2, f3, f4])) (h : DataW.trod enc P w base spare held fuel t cs = some x) :
    ∃ y0 y1 y2 y3 y4 n, cs.length = P.cellsOf t ∧ DataW.trod enc P w base spare held n f0.type ((cs.drop f0.offset).take (P.cellsOf f0.type)) = some y0 ∧
      DataW.trod enc P w base spare held n f1.type ((cs.drop f1.offset).take (P.cellsOf f1.type)) = some y1 ∧ DataW.trod enc P w base spare held n f2.type ((cs.drop f2.offset).take (P.cellsOf f2.type)) = some y2 ∧
      DataW.trod enc P w base spare held n f3.type ((cs.drop f3.offset).take (P.cellsOf f3.type)) = some y3 ∧ DataW.trod enc P w base spare held n f4.type ((cs.drop f4.offset).take (P.cellsOf f4.type)) = some y4 := by
  obtain ⟨xs, n, _, rfl, hl, hlen, hf⟩ := DataW.trod_struct ht h
  match xs, hlen with
  | [y0, y1, y2, y3, y4], _ => exact ⟨y0, y1, y2, y3, y4, n, hl, by simpa using hf 0 f0 rfl, by simpa using hf 1 f1 rfl, by simpa using hf 2 f2 rfl, by simpa using hf 3 f3 rfl, by simpa using hf 4 f4 rfl⟩
theorem bytes_of_trod {fuel : Nat} {v : Value} {x : DataW H × List MemPlace} (h : DataW.trod enc Try.prog W 0 (fun _ => true) true fuel 30 [v] = some x) :
    ∃ (l : List UInt8) (A : Option Addr) (c : Nat), v = .slice A l.length c ∧ l.length ≤ c ∧ c ≤ maxLen ∧ Reads W W.heap.size 1 A l.length (bc l) := by
  rcases open_ints Try.underlying30 Try.underlying5 (by kernel_rfl) h with ⟨hcs, _⟩ | ⟨a, l, cap, zs, hcs, _, hl, hm, hz, _, hcell, hwz⟩
  · injection hcs with hcs _
    subst hcs
    exact ⟨[], none, 0, rfl, Nat.zero_le _, Nat.zero_le _, Reads.none_⟩
  · injection hcs with hcs _
    subst hcs
    obtain ⟨bs, hb⟩ := reads_ints hl (by simpa using hz) hcell hwz
    have hlen : bs.length = l := by have := hb.1; rw [bc_length] at this; omega
    subst hlen
    exact ⟨bs, some a, cap, rfl, hl, hm, hb⟩
theorem list5 {cs : List Value} (h : cs.length = 5) : ∃ c0 c1 c2 c3 c4, cs = [c0, c1, c2, c3, c4] := by
  match cs, h with
  | [c0, c1, c2, c3, c4], _ => exact ⟨c0, c1, c2, c3, c4, rfl⟩
theorem step_of_trod {fuel : Nat} {cs : List Value} {x : DataW H × List MemPlace} (h : DataW.trod enc Try.prog W 0 (fun _ => true) true fuel 42 cs = some x) :
    ∃ s : Sp, cs = s.cells ∧ s.ok W W.heap.size := by
  obtain ⟨y0, y1, y2, y3, y4, n, hl, h0, h1, h2, h3, h4⟩ := trod_struct5 Try.underlying42 h
  have hC : Try.prog.cellsOf 42 = 5 := by kernel_rfl
  have hI : Try.prog.cellsOf 3 = 1 := by kernel_rfl
  have hB : Try.prog.cellsOf 4 = 1 := by kernel_rfl
  have hS : Try.prog.cellsOf 30 = 1 := by kernel_rfl
  rw [hC] at hl
  obtain ⟨c0, c1, c2, c3, c4, rfl⟩ := list5 hl
  obtain ⟨b0, hb0, _⟩ := DataW.trod_bool Try.underlying4 h0
  obtain ⟨a, ha, _, _⟩ := DataW.trod_int Try.underlying3 h1
  obtain ⟨k, hk, _, wk⟩ := DataW.trod_int Try.underlying3 h3
  obtain ⟨b4, hb4, _⟩ := DataW.trod_bool Try.underlying4 h4
  simp only [hI] at ha hk
  simp only [hB] at hb0 hb4
  simp only [hS] at h2
  obtain ⟨l, A, c, e, g1, g2, g3⟩ := bytes_of_trod (v := c2) (by simpa using h2)
  refine ⟨⟨b0, a, c2, k, b4, l⟩, ?_, wf_i wk, A, c, e, g1, g2, g3⟩
  simp at ha hk hb0 hb4
  simp [Sp.cells, ha, hk, hb0, hb4]
/-- A slice of steps that came in. -/
theorem open_steps {v : Value} {d : DataW H} {p : List MemPlace} {r : Reach} {b : Nat}
    (hv : Value.okWide Try.prog W r b 35 v) (h : DataW.Trod enc Try.prog W 0 (fun _ => true) true 35 v d p) :
    ∃ (A : Option Addr) (n c : Nat) (ss : List Sp), v = .slice A n c ∧ Reads W W.heap.size 5 A n (ss.flatMap Sp.cells) ∧ (∀ s ∈ ss, s.ok W W.heap.size) ∧ ss.length = n ∧ n ≤ c ∧ c ≤ 9223372036854775807 := by
  obtain ⟨A, n, c, rfl⟩ := okWide_slice Try.underlying35 hv
  obtain ⟨fuel, hf⟩ := h
  have hC : Try.prog.cellsOf 42 = 5 := by kernel_rfl
  rcases open_slice Try.underlying35 hf with ⟨hcs, _⟩ | ⟨a, len, cap, m, k, D, Pl, hcs, _, hl, hm, hmm, _, hi⟩
  · simp [Value.cells] at hcs
    obtain ⟨rfl, rfl, rfl⟩ := hcs
    exact ⟨none, 0, 0, [], rfl, Reads.none_, fun r h => by simp at h, rfl, Nat.le_refl _, Nat.zero_le _⟩
  · simp [Value.cells] at hcs
    obtain ⟨rfl, rfl, rfl⟩ := hcs
    have hnm : n ≤ m := by rw [hmm]; simpa using hl
    have hb : ∀ i, i < n → ∃ s : Sp, s.ok W W.heap.size ∧ ∀ j, j < 5 → W.cell? (a.add (i * 5 + j)) = s.cells[j]? := fun i hin => by
      obtain ⟨cs', hc, ht'⟩ := hi i (by omega)
      rw [hC] at hc
      obtain ⟨_, hcl, hat⟩ := World.cells?_some hc
      obtain ⟨s, rfl, hw⟩ := step_of_trod ht'
      exact ⟨s, hw, fun j hj => by rw [← add_of_add]; exact hat j hj⟩
    obtain ⟨f, hf'⟩ := choose_lt hb
    unfold maxLen at hm
    refine ⟨some a, n, c, (List.range n).map f, rfl, ⟨by rw [flat_length Sp.cells_length]; simp, fun h0 => ⟨a, rfl, ?_, fun j u hu => ?_⟩⟩, fun s hs => ?_, by simp, hl, hm⟩
    · have h1 := (hf' 0 h0).2 0 (by omega)
      have h2 := World.block_lt_of_cell? W _ (h1.trans (by simp [Sp.cells]; rfl))
      rwa [block_of_add] at h2
    · obtain ⟨x, hx1, hx2⟩ := flat_at Sp.cells_length (by omega) hu
      rw [List.getElem?_map, Option.map_eq_some_iff] at hx1
      obtain ⟨i, hi1, rfl⟩ := hx1
      obtain ⟨hlt, rfl⟩ := List.getElem?_eq_some_iff.1 hi1
      simp at hlt hx2
      have h2 := (hf' (j / 5) hlt).2 (j % 5) (Nat.mod_lt _ (by omega))
      rw [show j / 5 * 5 + j % 5 = j by omega] at h2
      rw [h2, hx2]
    · rw [List.mem_map] at hs
      obtain ⟨i, hi', rfl⟩ := hs
      exact (hf' i (by simpa using hi')).1
end
end Go.Proofs.Ytchhejheobceiaa
