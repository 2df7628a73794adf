/- A round's end of SessionLives' second loop, apart from the walk. No condition. -/
import Derived.Test.YtchhejheobceiaaSesC
namespace Go.Proofs.Ytchhejheobceiaa
open Go.RowKit
set_option linter.unusedVariables false

/-- What is got is appended to the row: all that the round's relation asks. -/
theorem lives_rel {w wr w9 w19 w26 w29 : World} {c0 j k : Nat} {v v9 v26 vl : Value} {vs vs26 us news : List Value} {s s' : Se} {m1 m2 : List (List UInt8)} {v29 : Value}
    (HS : SesAt w.heap.size wr c0 v vs s) (HK : Kept (fun k => k = c0 ∨ v9.ownBlock = some k) w19 wr) (HR26 : Row w26 w19.heap.size 30 vl j us)
    (HO : OwnBs wr w19.heap.size us m1) (HK26 : Kept (foot c0 v) wr w26) (HS26 : SesAt w.heap.size w26 c0 v26 vs26 s') (HV26 : ∀ g, v26.ownBlock = some g → v.ownBlock = some g) (HV : ∀ g, v.ownBlock = some g → v9.ownBlock = some g)
    (HV9 : ∀ g, v9.ownBlock = some g → g < w9.heap.size) (h919 : w9.heap.size ≤ w19.heap.size) (hc0 : c0 < w19.heap.size)
    (HO29 : Row w29 w19.heap.size 30 v29 k (us ++ news)) (HK29 : Kept (fun k => vl.ownBlock = some k) w26 w29) (hnew : OwnBs w26 w19.heap.size (us ++ news) m2 ∨ (news = [] ∧ m2 = m1) ∨ ∃ u m, news = [u] ∧ m2 = m1 ++ [m] ∧ OwnB w26 w19.heap.size u m) :
    OwnBs w29 w19.heap.size (us ++ news) m2 ∧ SesAt w.heap.size w29 c0 v26 vs26 s' ∧ Kept (fun k => k = c0 ∨ v9.ownBlock = some k) w19 w29 ∧ ∀ g, v26.ownBlock = some g → v9.ownBlock = some g := by
  have hlo : ∀ g, vl.ownBlock = some g → w19.heap.size ≤ g := fun g hg => (HR26.lt g hg).1
  have hty : ∀ (g : Nat) (cc : Array Value), w26.heap[g]? = some (.cells cc 5 (0, 0)) → ¬ vl.ownBlock = some g := fun g cc hg e => row_apart_blk HR26 hg (by decide) e
  have hty2 : ∀ (g : Nat) (cc : Array Value), wr.heap[g]? = some (.cells cc 5 (0, 0)) → ¬ foot c0 v g := fun g cc hg hf => by
    rcases hf with e | e
    · rw [e, HS.cell] at hg; injection hg with hg; injection hg with _ hg; cases hg
    · exact row_apart_blk HS.row hg (by decide) e
  have e1 : OwnBs w26 w19.heap.size us m1 := HO.keep HK26 hty2
  have e2 : OwnBs w26 w19.heap.size (us ++ news) m2 := by
    rcases hnew with h | ⟨rfl, rfl⟩ | ⟨u, m, rfl, rfl, h⟩
    · exact h
    · rw [List.append_nil]; exact e1
    · exact OwnBs.snoc e1 h
  refine ⟨e2.keep HK29 hty, HS26.keep HK29 (fun e => by have := hlo c0 e; omega) (fun g hg e => by have := hlo g e; have := HV9 g (HV g (HV26 g hg)); omega) hty, (HK.trans HK26 (fun b hb hf => ?_)).trans HK29 (fun b hb e => by have := hlo b e; omega), fun g hg => HV g (HV26 g hg)⟩
  rcases hf with e | e
  · exact .inl e
  · exact .inr (HV b e)
end Go.Proofs.Ytchhejheobceiaa
