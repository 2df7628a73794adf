/- A slice of slices of bytes that came in, opened. No condition. -/
import Derived.Test.YtpacbdfingbhgaaFrame
import Derived.Test.YtpacbdfingbhgaaLists
import Derived.Deep.Slices
namespace Go.Proofs.Ytpacbdfingbhgaa
open Go.ChangeShapes Go.WideShapes Go.ChangeAt Go.RowKit Go.Deep

theorem isBytes_of_trod {H : Type} {enc : TypeId × Value → H} {P : Program} {W : World} {t e : TypeId} {fuel : Nat} {v : Value} {x : DataW H × List MemPlace}
    (ht : P.underlying t = some (.slice e)) (he : P.underlying e = some (.int .u8)) (hc : P.cellsOf e = 1)
    (h : DataW.trod enc P W 0 (fun _ => true) true fuel t [v] = some x) : ∃ l : List UInt8, IsBytes W W.heap.size v l := by
  rcases open_ints ht he hc h with ⟨hcs, _⟩ | ⟨a, l, cap, zs, hcs, _, hl, hm, hz, _, hcell, hwz⟩
  · injection hcs with hcs _
    subst hcs
    exact ⟨[], none, 0, rfl, Nat.le_refl _, Nat.zero_le _, Reads.none_⟩
  · injection hcs with hcs _
    subst hcs
    obtain ⟨bs, hb⟩ := reads_ints hl (by simpa using hz) hcell hwz
    have hlen : bs.length = l := by have := hb.1; rw [bc_length] at this; omega
    subst hlen
    exact ⟨bs, some a, cap, rfl, hl, hm, hb⟩

theorem open_lists {H : Type} {enc : TypeId × Value → H} {P : Program} {W : World} {t e q : TypeId} {v : Value} {d : DataW H} {p : List MemPlace} {r : Reach} {b : Nat}
    (ht : P.underlying t = some (.slice e)) (he : P.underlying e = some (.slice q)) (hq : P.underlying q = some (.int .u8)) (hce : P.cellsOf e = 1) (hcq : P.cellsOf q = 1)
    (hv : Value.okWide P W r b t v) (h : DataW.Trod enc P W 0 (fun _ => true) true t v d p) :
    ∃ (A : Option Addr) (n c : Nat) (vs : List Value) (ls : List (List UInt8)), v = .slice A n c ∧ Reads W W.heap.size 1 A n vs ∧ AreBytes W W.heap.size vs ls ∧ n ≤ c ∧ c ≤ maxLen := by
  obtain ⟨A, n, c, rfl⟩ := okWide_slice ht hv
  obtain ⟨fuel, hf⟩ := h
  rcases open_slice1 ht hce hf with ⟨hcs, _⟩ | ⟨a, len, cap, m, k, V, D, Pl, hcs, _, hl, hm, hmm, _, hx⟩
  · simp [Value.cells] at hcs
    obtain ⟨rfl, rfl, rfl⟩ := hcs
    exact ⟨none, 0, 0, [], [], rfl, Reads.none_, ⟨rfl, fun i v l h => by simp at h⟩, Nat.le_refl _, Nat.zero_le _⟩
  · simp [Value.cells] at hcs
    obtain ⟨rfl, rfl, rfl⟩ := hcs
    have hnm : n ≤ m := by rw [hmm]; simpa using hl
    have hb : ∀ i, i < n → ∃ l : List UInt8, IsBytes W W.heap.size (V i) l := fun i hi => by
      obtain ⟨_, htr⟩ := hx i (by omega)
      exact isBytes_of_trod he hq hcq htr
    obtain ⟨f, hf'⟩ := choose_lt hb
    refine ⟨some a, n, c, (List.range n).map V, (List.range n).map f, rfl, ⟨by simp, fun h0 => ⟨a, rfl, ?_, fun j u hu => ?_⟩⟩, ⟨by simp, fun i v l h1 h2 => ?_⟩, hl, hm⟩
    · have h1 := World.block_lt_of_cell? W _ (hx 0 (by omega)).1
      rwa [block_of_add] at h1
    · rw [List.getElem?_map, Option.map_eq_some_iff] at hu
      obtain ⟨i, hi, rfl⟩ := hu
      obtain ⟨hlt, rfl⟩ := List.getElem?_eq_some_iff.1 hi
      simp at hlt ⊢
      exact (hx j (by omega)).1
    · rw [List.getElem?_map, Option.map_eq_some_iff] at h1 h2
      obtain ⟨i1, hi1, rfl⟩ := h1
      obtain ⟨i2, hi2, rfl⟩ := h2
      rw [hi1] at hi2
      injection hi2 with hi2
      subst hi2
      obtain ⟨hlt, rfl⟩ := List.getElem?_eq_some_iff.1 hi1
      simp at hlt ⊢
      exact hf' i hlt
end Go.Proofs.Ytpacbdfingbhgaa
