import Derived.Test.YtchhejheobceiaaBase
import Derived.Deep.MidRow
namespace Go.Proofs.Ytchhejheobceiaa
open Go.RowKit
set_option linter.unusedVariables false

/-- A cell of a row of the call's own is written. -/
theorem own_setCell {w : World} {base size n g c : Nat} {e : TypeId} {xs : List Value} (h : w.ownsRow base e size (.slice (some ⟨g, 0, none⟩) n c) n xs) {j : Nat} (hj : j < n * size) (u : Value) :
    (w.setCell ⟨g, j, none⟩ u).ownsRow base e size (.slice (some ⟨g, 0, none⟩) n c) n (xs.set j u) := by
  obtain ⟨h1, h2⟩ := h
  refine ⟨by rw [List.length_set]; exact h1, ?_⟩
  rcases h2 with ⟨h2, _⟩ | ⟨g', cap, cur, hv, hg, hh, hnc, hm, hs, ht⟩
  · cases h2
  · injection hv with a1 a2 a3
    injection a1 with a1
    injection a1 with a1
    subst a1 a3
    refine Or.inr ⟨g, c, cur.setIfInBounds j u, rfl, hg, ?_, hnc, hm, by simpa using hs, ?_⟩
    · have hlt := (Array.getElem?_eq_some_iff.1 hh).1
      have h' : w.heap[g] = .cells cur e (0, 0) := by simpa [Array.getElem?_eq_getElem hlt] using hh
      show (w.heap.modify g _)[g]? = _
      rw [Array.getElem?_eq_getElem (by simpa using hlt), Array.getElem_modify_self, h']
      rfl
    · rw [← ht, Array.toList_setIfInBounds, List.take_set]
theorem own_cell {w : World} {base size n g c : Nat} {e : TypeId} {xs : List Value} (h : w.ownsRow base e size (.slice (some ⟨g, 0, none⟩) n c) n xs) {j : Nat} {u : Value} (hj : xs[j]? = some u) :
    w.cell? ⟨g, j, none⟩ = some u ∧ w.frozen? ⟨g, j, none⟩ = false := by
  have hc := h.cells (g := g) rfl j _ hj
  rw [Addr.add_mid, Nat.zero_add] at hc
  exact ⟨hc, h.frozenAt _⟩
/-- A row that holds something: its block. -/
theorem own_head {w : World} {base size n : Nat} {e : TypeId} {v : Value} {xs : List Value} (h : Owns w base e size v n xs) (hn : 0 < n) :
    ∃ g c, v = .slice (some ⟨g, 0, none⟩) n c ∧ n ≤ c ∧ c ≤ maxLen ∧ base ≤ g ∧ g < w.heap.size ∧ w.ownsRow base e size (.slice (some ⟨g, 0, none⟩) n c) n xs := by
  rcases h with h | ⟨h0, _⟩
  · have hh := h
    rcases h.2 with ⟨_, h0⟩ | ⟨g, cap, cur, rfl, hB, hg, hnc, hm, _⟩
    · omega
    · exact ⟨g, cap, rfl, hnc, hm, hB, (Array.getElem?_eq_some_iff.1 hg).1, hh⟩
  · omega
end Go.Proofs.Ytchhejheobceiaa
