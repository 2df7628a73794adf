/- What NetPlays' step shares: the program's knob and layout (Frame); a slice of steps that came in, opened. No condition. -/
import Derived.Test.YtlgkgmnnmlhaeaaFrame
import Derived.Test.YtlgkgmnnmlhaeaaNet3
import Derived.Deep.Slices
import Derived.Deep.Strs
namespace Go.Proofs.Ytlgkgmnnmlhaeaa
open Go.ChangeShapes Go.WideShapes Go.ChangeAt Go.RowKit Go.Deep
set_option linter.unusedVariables false

theorem wf_i {n : Int} (h : (Lit.int .i64 n).wf = true) : -9223372036854775808 ≤ n ∧ n ≤ 9223372036854775807 := by
  simp [Lit.wf, IntKind.min, IntKind.max, IntKind.signed, IntKind.bits] at h
  omega
structure St where
  kind : Int
  l : Value
  k : Int
instance : Inhabited St := ⟨⟨0, .slice none 0 0, 0⟩⟩
instance : Inhabited PkV := ⟨⟨0, 0, .slice none 0 0⟩⟩
def St.cells (s : St) : List Value := [.int .i64 s.kind, s.l, .int .i64 s.k]
theorem St.cells_length (s : St) : s.cells.length = 3 := rfl
/-- The value is a slice of packets, which say these. -/
def IsPks (w : World) (B : Nat) (v : Value) (us : List PkV) (qs : List Pk) : Prop :=
  ∃ A c, v = .slice A qs.length c ∧ qs.length ≤ c ∧ c ≤ 9223372036854775807 ∧ us.length = qs.length ∧ Reads w B 3 A qs.length (pkCells us) ∧ ∀ (i : Nat) (u : PkV) (q : Pk), us[i]? = some u → qs[i]? = some q → PkArg w B u q

section
variable {H : Type} {enc : TypeId × Value → H} {W : World}
theorem bytes_of_trod {fuel : Nat} {v : Value} {x : DataW H × List MemPlace} (h : DataW.trod enc Try.prog W 0 (fun _ => true) true fuel 29 [v] = some x) :
    ∃ (l : List UInt8) (A : Option Addr) (c : Nat), v = .slice A l.length c ∧ l.length ≤ 9223372036854775807 ∧ Reads W W.heap.size 1 A l.length (bc l) := by
  rcases open_ints Try.underlying29 Try.underlying5 (by kernel_rfl) h with ⟨hcs, _⟩ | ⟨a, l, cap, zs, hcs, _, hl, hm, hz, _, hcell, hwz⟩
  · injection hcs with hcs _
    subst hcs
    exact ⟨[], none, 0, rfl, Nat.zero_le _, Reads.none_⟩
  · injection hcs with hcs _
    subst hcs
    obtain ⟨bs, hb⟩ := reads_ints hl (by simpa using hz) hcell hwz
    have hlen : bs.length = l := by have := hb.1; rw [bc_length] at this; omega
    subst hlen
    unfold maxLen at hm
    exact ⟨bs, some a, cap, rfl, by omega, hb⟩
theorem packet_of_trod {fuel : Nat} {cs : List Value} {x : DataW H × List MemPlace} (h : DataW.trod enc Try.prog W 0 (fun _ => true) true fuel 31 cs = some x) :
    ∃ uq : PkV × Pk, cs = uq.1.cells ∧ PkArg W W.heap.size uq.1 uq.2 := by
  obtain ⟨y0, y1, y2, n, _, hl, h0, h1, h2⟩ := trod_struct3 Try.underlying31 h
  have hC : Try.prog.cellsOf 31 = 3 := by kernel_rfl
  have hI : Try.prog.cellsOf 3 = 1 := by kernel_rfl
  have hS : Try.prog.cellsOf 29 = 1 := by kernel_rfl
  rw [hC] at hl
  match cs, hl with
  | [c0, c1, c2], _ =>
    obtain ⟨a, ha, _, _⟩ := DataW.trod_int Try.underlying3 h0
    obtain ⟨b, hb, _, _⟩ := DataW.trod_int Try.underlying3 h1
    simp only [hI] at ha hb
    simp only [hS] at h2
    obtain ⟨l, A, c, e, h3, h4⟩ := bytes_of_trod (v := c2) (by simpa using h2)
    refine ⟨(⟨a, b, c2⟩, ⟨a, b, l⟩), ?_, rfl, rfl, A, c, e, h3, h4⟩
    simp at ha hb
    simp [PkV.cells, ha, hb]
theorem pks_of_trod {fuel : Nat} {v : Value} {x : DataW H × List MemPlace} (h : DataW.trod enc Try.prog W 0 (fun _ => true) true fuel 25 [v] = some x) : ∃ us qs, IsPks W W.heap.size v us qs := by
  have hC : Try.prog.cellsOf 31 = 3 := by kernel_rfl
  rcases open_slice Try.underlying25 h with ⟨hcs, _⟩ | ⟨a, n, c, m, k, D, Pl, hcs, _, hl, hm, hmm, _, hi⟩
  · injection hcs with hcs _
    subst hcs
    exact ⟨[], [], none, 0, rfl, Nat.le_refl _, Nat.zero_le _, rfl, Reads.none_, fun i u q h => by simp at h⟩
  · injection hcs with hcs _
    subst hcs
    have hnm : n ≤ m := by rw [hmm]; simpa using hl
    have hb : ∀ i, i < n → ∃ uq : PkV × Pk, PkArg W W.heap.size uq.1 uq.2 ∧ ∀ j, j < 3 → W.cell? (a.add (i * 3 + j)) = uq.1.cells[j]? := fun i hin => by
      obtain ⟨cs', hc, ht'⟩ := hi i (by omega)
      rw [hC] at hc
      obtain ⟨_, hcl, hat⟩ := World.cells?_some hc
      obtain ⟨uq, rfl, hw⟩ := packet_of_trod ht'
      exact ⟨uq, hw, fun j hj => by rw [← add_of_add]; exact hat j hj⟩
    obtain ⟨f, hf'⟩ := choose_lt hb
    unfold maxLen at hm
    have e1 : ((List.range n).map fun i => (f i).2).length = n := by simp
    refine ⟨(List.range n).map fun i => (f i).1, (List.range n).map fun i => (f i).2, some a, c, by rw [e1], by rw [e1]; exact hl, hm, by simp, ?_, fun i u q h1 h2 => ?_⟩
    · rw [e1]
      refine ⟨by rw [pkCells, flat_length PkV.cells_length]; simp, fun h0 => ⟨a, rfl, ?_, fun j u hu => ?_⟩⟩
      · have h1 := (hf' 0 h0).2 0 (by omega)
        have h2 := World.block_lt_of_cell? W _ (h1.trans (by simp [PkV.cells]; rfl))
        rwa [block_of_add] at h2
      · obtain ⟨x, hx1, hx2⟩ := flat_at PkV.cells_length (by omega) hu
        rw [List.getElem?_map, Option.map_eq_some_iff] at hx1
        obtain ⟨i, hi1, rfl⟩ := hx1
        obtain ⟨hlt, rfl⟩ := List.getElem?_eq_some_iff.1 hi1
        simp at hlt hx2
        have h2 := (hf' (j / 3) hlt).2 (j % 3) (Nat.mod_lt _ (by omega))
        rw [show j / 3 * 3 + j % 3 = j by omega] at h2
        rw [h2, hx2]
    · rw [List.getElem?_map, Option.map_eq_some_iff] at h1 h2
      obtain ⟨i1, hi1, rfl⟩ := h1
      obtain ⟨i2, hi2, rfl⟩ := h2
      rw [hi1] at hi2
      injection hi2 with hi2
      subst hi2
      obtain ⟨hlt, rfl⟩ := List.getElem?_eq_some_iff.1 hi1
      simp at hlt ⊢
      exact (hf' i hlt).1
def St.ok (W : World) (B : Nat) (s : St) : Prop := -9223372036854775808 ≤ s.k ∧ s.k ≤ 9223372036854775807 ∧ ∃ us qs, IsPks W B s.l us qs
theorem step_of_trod {fuel : Nat} {cs : List Value} {x : DataW H × List MemPlace} (h : DataW.trod enc Try.prog W 0 (fun _ => true) true fuel 48 cs = some x) :
    ∃ s : St, cs = s.cells ∧ s.ok W W.heap.size := by
  obtain ⟨y0, y1, y2, n, _, hl, h0, h1, h2⟩ := trod_struct3 Try.underlying48 h
  have hC : Try.prog.cellsOf 48 = 3 := by kernel_rfl
  have hI : Try.prog.cellsOf 3 = 1 := by kernel_rfl
  have hS : Try.prog.cellsOf 25 = 1 := by kernel_rfl
  rw [hC] at hl
  match cs, hl with
  | [c0, c1, c2], _ =>
    obtain ⟨a, ha, _, _⟩ := DataW.trod_int Try.underlying3 h0
    obtain ⟨b, hb, _, wb⟩ := DataW.trod_int Try.underlying3 h2
    simp only [hI] at ha hb
    simp only [hS] at h1
    obtain ⟨us, qs, hp⟩ := pks_of_trod (v := c1) (by simpa using h1)
    have := wf_i wb
    refine ⟨⟨a, c1, b⟩, ?_, this.1, this.2, us, qs, hp⟩
    simp at ha hb
    simp [St.cells, ha, hb]
/-- A slice of steps that came in. -/
theorem open_steps {v : Value} {d : DataW H} {p : List MemPlace} {r : Reach} {b : Nat}
    (hv : Value.okWide Try.prog W r b 43 v) (h : DataW.Trod enc Try.prog W 0 (fun _ => true) true 43 v d p) :
    ∃ (A : Option Addr) (n c : Nat) (ss : List St), v = .slice A n c ∧ Reads W W.heap.size 3 A n (ss.flatMap St.cells) ∧ (∀ s ∈ ss, s.ok W W.heap.size) ∧ ss.length = n ∧ n ≤ c ∧ c ≤ 9223372036854775807 := by
  obtain ⟨A, n, c, rfl⟩ := okWide_slice Try.underlying43 hv
  obtain ⟨fuel, hf⟩ := h
  have hC : Try.prog.cellsOf 48 = 3 := by kernel_rfl
  rcases open_slice Try.underlying43 hf with ⟨hcs, _⟩ | ⟨a, len, cap, m, k, D, Pl, hcs, _, hl, hm, hmm, _, hi⟩
  · simp [Value.cells] at hcs
    obtain ⟨rfl, rfl, rfl⟩ := hcs
    exact ⟨none, 0, 0, [], rfl, Reads.none_, fun r h => by simp at h, rfl, Nat.le_refl _, Nat.zero_le _⟩
  · simp [Value.cells] at hcs
    obtain ⟨rfl, rfl, rfl⟩ := hcs
    have hnm : n ≤ m := by rw [hmm]; simpa using hl
    have hb : ∀ i, i < n → ∃ s : St, s.ok W W.heap.size ∧ ∀ j, j < 3 → W.cell? (a.add (i * 3 + j)) = s.cells[j]? := fun i hin => by
      obtain ⟨cs', hc, ht'⟩ := hi i (by omega)
      rw [hC] at hc
      obtain ⟨_, hcl, hat⟩ := World.cells?_some hc
      obtain ⟨s, rfl, hw⟩ := step_of_trod ht'
      exact ⟨s, hw, fun j hj => by rw [← add_of_add]; exact hat j hj⟩
    obtain ⟨f, hf'⟩ := choose_lt hb
    unfold maxLen at hm
    refine ⟨some a, n, c, (List.range n).map f, rfl, ⟨by rw [flat_length St.cells_length]; simp, fun h0 => ⟨a, rfl, ?_, fun j u hu => ?_⟩⟩, fun s hs => ?_, by simp, hl, hm⟩
    · have h1 := (hf' 0 h0).2 0 (by omega)
      have h2 := World.block_lt_of_cell? W _ (h1.trans (by simp [St.cells]; rfl))
      rwa [block_of_add] at h2
    · obtain ⟨x, hx1, hx2⟩ := flat_at St.cells_length (by omega) hu
      rw [List.getElem?_map, Option.map_eq_some_iff] at hx1
      obtain ⟨i, hi1, rfl⟩ := hx1
      obtain ⟨hlt, rfl⟩ := List.getElem?_eq_some_iff.1 hi1
      simp at hlt hx2
      have h2 := (hf' (j / 3) hlt).2 (j % 3) (Nat.mod_lt _ (by omega))
      rw [show j / 3 * 3 + j % 3 = j by omega] at h2
      rw [h2, hx2]
    · rw [List.mem_map] at hs
      obtain ⟨i, hi', rfl⟩ := hs
      exact (hf' i (by simpa using hi')).1
end
end Go.Proofs.Ytlgkgmnnmlhaeaa
