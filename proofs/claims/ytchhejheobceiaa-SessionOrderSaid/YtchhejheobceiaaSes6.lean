/- A session's fields set; what Recv hands back. No condition. -/
import Derived.Test.YtchhejheobceiaaSes5
import Derived.Test.YtchhejheobceiaaSesR
namespace Go.Proofs.Ytchhejheobceiaa
open Go.RowKit
set_option linter.unusedVariables false

section
variable {B : Nat} {w : World} {a : Nat} {v : Value} {vs : List Value} {s : Se}
theorem SesAt.kept_self (h : SesAt B w a v vs s) (j : Nat) (u : Value) : Row (w.setCell ⟨a, j, none⟩ u) B 30 v s.wait.length vs ∧ OwnBs (w.setCell ⟨a, j, none⟩ u) 0 vs s.wait := by
  have KS : Kept (fun k => k = a) w (w.setCell ⟨a, j, none⟩ u) := (Kept.refl (fun k => k = a) w).setCell (a := ⟨a, j, none⟩) (fun _ => rfl) _
  refine ⟨h.row.setCell_other (row_apart_blk h.row h.cell (by decide)) _, h.msgs.keep KS (fun g c hg e => ?_)⟩
  subst e
  rw [h.cell] at hg
  injection hg with hg
  injection hg with _ hg
  cases hg
theorem SesAt.set1 (h : SesAt B w a v vs s) (p : Nat) : SesAt B (w.setCell ⟨a, 1, none⟩ (.int .i64 p)) a v vs { s with peer := p } :=
  ⟨h.lo, heap_setCell_at h.cell 1 _, (h.kept_self 1 _).1, (h.kept_self 1 _).2⟩
theorem SesAt.set2 (h : SesAt B w a v vs s) (p : Nat) : SesAt B (w.setCell ⟨a, 2, none⟩ (.int .i64 p)) a v vs { s with took := p } :=
  ⟨h.lo, heap_setCell_at h.cell 2 _, (h.kept_self 2 _).1, (h.kept_self 2 _).2⟩
theorem SesAt.set3 (h : SesAt B w a v vs s) (p : Nat) : SesAt B (w.setCell ⟨a, 3, none⟩ (.int .i64 p)) a v vs { s with first := p } :=
  ⟨h.lo, heap_setCell_at h.cell 3 _, (h.kept_self 3 _).1, (h.kept_self 3 _).2⟩
/-- The first n that wait are struck. -/
theorem SesAt.set4 {A : Option Addr} {c : Nat} (h : SesAt B w a (.slice A s.wait.length c) vs s) {n : Nat} (hn : n ≤ s.wait.length) (u : Value) (hu : u = .slice (if c = n then A else A.map (·.add n)) (s.wait.length - n) (c - n)) :
    SesAt B (w.setCell ⟨a, 4, none⟩ u) a u (vs.drop n) { s with wait := s.wait.drop n } := by
  subst hu
  refine ⟨h.lo, heap_setCell_at h.cell 4 _, ?_, ?_⟩
  · have := (h.kept_self 4 (.slice (if c = n then A else A.map (·.add n)) (s.wait.length - n) (c - n))).1.cut hn
    simpa [List.length_drop] using this
  · have hk := (h.kept_self 4 (.slice (if c = n then A else A.map (·.add n)) (s.wait.length - n) (c - n))).2
    refine ⟨by simp [hk.len], fun i x m h1 h2 => ?_⟩
    rw [List.getElem?_drop] at h1 h2
    exact hk.at_ _ x m h1 h2
theorem meet_ok (hok : s.Ok) {l : Nat} (hl : l ≤ 1099511627776) : (s.meet l).Ok := by
  unfold Se.meet
  split
  · exact ⟨hok.life, hl, Nat.zero_le _, ⟨Nat.le_refl _, by show 1 ≤ 2000000000000; omega⟩, hok.wait, hok.msg⟩
  · exact hok
end
/-- The session behind a call that makes no new row. -/
def SesRec (B : Nat) (w : World) (a : Nat) (v : Value) (s : Se) (w' : World) : Prop := ∃ v' vs', SesAt B w' a v' vs' s ∧ Kept (foot a v) w w' ∧ ∀ g, v'.ownBlock = some g → v.ownBlock = some g
theorem SesRec.now {B : Nat} {w : World} {a : Nat} {v : Value} {s : Se} {w' : World} (h : SesRec B w a v s w') : SesNow B w a v s w' := by
  obtain ⟨v', vs', h1, h2, h3⟩ := h
  exact ⟨v', vs', h1, h2, fun g hg => .inl (h3 g hg)⟩
/-- What Recv hands back and leaves. -/
def RetRecv (B : Nat) (w : World) (a : Nat) (v : Value) (r : Se × List (List UInt8) × List (List UInt8) × Nat) (e : Ending) (w' : World) : Prop :=
  ∃ g o, e = .returned (.tuple #[g, o, .int .i64 (r.2.2.2 : Int)]) ∧ RowsAt w' w.heap.size g r.2.1 ∧ RowsAt w' w.heap.size o r.2.2.1 ∧ SesRec B w a v r.1 w'
theorem rows_nil (w : World) (b : Nat) : RowsAt w b (.slice none 0 0) [] := ⟨[], Row.nil_ _ _ _, rfl, fun i u m h => by simp at h⟩
theorem RowsAt.grow {w w1 : World} {b : Nat} {u : Value} {ls : List (List UInt8)} (h : RowsAt w b u ls) (hb : Below w.heap.size w w1) : RowsAt w1 b u ls := by
  obtain ⟨us, h1, h2⟩ := h
  exact ⟨us, h1.grow hb, h2.grow hb⟩
theorem RowsAt.more {w : World} {b b' : Nat} {u : Value} {ls : List (List UInt8)} (h : RowsAt w b u ls) (hb : b' ≤ b) : RowsAt w b' u ls := by
  obtain ⟨us, h1, h2⟩ := h
  exact ⟨us, h1.more hb, h2.more hb⟩
theorem RowsAt.keep {S : Nat → Prop} {w w1 : World} {b : Nat} {u : Value} {ls : List (List UInt8)} (h : RowsAt w b u ls) (hk : Kept S w w1) (hS : ∀ k, b ≤ k → k < w.heap.size → ¬ S k) : RowsAt w1 b u ls := by
  obtain ⟨us, h1, h2⟩ := h
  refine ⟨us, h1.keep hk (fun g hg => hS g (h1.lt g hg).1 (h1.lt g hg).2), h2.len, fun i x m g1 g2 => ?_⟩
  have hx := h2.at_ i x m g1 g2
  exact Row.keep hx hk (fun g hg => hS g (hx.lt g hg).1 (hx.lt g hg).2)
theorem RowsAt.value {w : World} {b : Nat} {u : Value} {ls : List (List UInt8)} (h : RowsAt w b u ls) : ∃ A c, u = .slice A ls.length c := by
  obtain ⟨us, h1, _⟩ := h
  obtain ⟨A, c, e, _⟩ := h1.form
  exact ⟨A, c, e⟩
end Go.Proofs.Ytchhejheobceiaa
