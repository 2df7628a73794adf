import Derived.Test.YtbgnmkjjfaepiaaBase
import Derived.Test.YtbgnmkjjfaepiaaProg
import Derived.Deep.MidRow
import Derived.Deep.Cut
import Derived.IntWalk
import Derived.Laws.Unary
namespace Go.Proofs.Ytbgnmkjjfaepiaa
open Go.RowKit
set_option linter.unusedVariables false
structure Rg where
  a : Int
  b : Int
  c : Int
  d : Int
instance : Inhabited Rg := ⟨⟨0, 0, 0, 0⟩⟩
instance : DecidableEq Rg := fun x y => decidable_of_iff (x.a = y.a ∧ x.b = y.b ∧ x.c = y.c ∧ x.d = y.d) (by cases x; cases y; simp)
def Rg.cells (r : Rg) : List Value := [.int .i64 r.a, .int .i64 r.b, .int .i64 r.c, .int .i64 r.d]
def Rg.val (r : Rg) : Value := .agg #[.int .i64 r.a, .int .i64 r.b, .int .i64 r.c, .int .i64 r.d]
def rowCells (l : List Rg) : List Value := l.flatMap Rg.cells
def ownedL (r : Rg) : Bool := decide (1 ≤ r.c) && decide (r.c ≤ 5) && decide (1 ≤ r.d) && decide (r.d ≤ 1099511627776)
def RetB (w : World) (b : Bool) (e : Ending) (w' : World) : Prop := e = .returned (.bool b) ∧ Below w.heap.size w w'
def soundGo : Int → List Rg → Option Int
  | n, [] => some n
  | n, r :: l => if r.a = n ∧ r.a ≤ r.b ∧ r.b ≤ 4294967295 ∧ ownedL r = true then soundGo (r.b + 1) l else none
def soundL (l : List Rg) : Bool := (soundGo 0 l == some 4294967296) && decide (l.length ≤ 64)
def Rg.wf (r : Rg) : Prop := -9223372036854775808 ≤ r.a ∧ r.a ≤ 9223372036854775807 ∧ -9223372036854775808 ≤ r.b ∧ r.b ≤ 9223372036854775807 ∧ -9223372036854775808 ≤ r.c ∧ r.c ≤ 9223372036854775807 ∧ -9223372036854775808 ≤ r.d ∧ r.d ≤ 9223372036854775807

/-- A struct is read at an address. -/
theorem run_loadVar_at {P : Program} (w : World) (a : Addr) (ty : TypeId) (cs : List Value) (d : TypeDesc) (hc : ∀ j v, cs[j]? = some v → w.cell? (a.add j) = some v)
    (hu : P.underlying ty = some d) (hd : d.isRow = true) (hi : (P.info? ty).map (·.size) = some cs.length) :
    (loadVar ty a).run P w = .ok (.agg cs.toArray) w := by
  have hl : (loadCells a cs.length).run P w = .ok cs.toArray w := run_loadCells_list (P := P) w a cs hc
  cases hq : P.info? ty with
  | none => simp [hq] at hi
  | some i =>
    have hs : i.size = cs.length := by simpa [hq] using hi
    have hagg : (isAgg ty).run P w = .ok true w := by
      unfold isAgg
      rw [Sem.run_bind, run_underlying hu w]
      cases d <;> simp_all
    simp [loadVar, Sem.run_bind, hagg, sizeOf, typeInfo, hq, hs, hl]
theorem wpList_load_at {P : Program} {ops : Array Oper} {rest : List Oper} {op : Oper} {a : Act} {w : World} {Q : Exit → Act → World → Prop} (hgd : op.guard = none) (ty : TypeId) (x : Operand) (ho : op.op = .load ty x)
    (ad : Addr) (hx : a.eval x = .pointer (some ad)) (cs : List Value) (d : TypeDesc) (hc : ∀ j v, cs[j]? = some v → w.cell? (ad.add j) = some v)
    (hu : P.underlying ty = some d) (hd : d.isRow = true) (hi : (P.info? ty).map (·.size) = some cs.length)
    (h : wpList P ops Q rest (a.put op.dst (.agg cs.toArray)) w) : wpList P ops Q (op :: rest) a w :=
  wpList_plain hgd fun K hK => by
    unfold Oper.wp execOp
    simp only [ho, hx, Instr.loadAt, Instr.sureAddr, Sem.run_bind, Sem.run_pure, Result.andThen_ok, run_loadVar_at w ad ty cs d hc hu hd hi]
    exact hK _ _ h
theorem rowCells_get {l : List Rg} {k : Nat} {r : Rg} (h : l[k]? = some r) (j : Nat) (hj : j < 4) : (rowCells l)[k * 4 + j]? = r.cells[j]? := by
  induction l generalizing k with
  | nil => simp at h
  | cons x l ih =>
    cases k with
    | zero =>
      simp at h; subst h
      simp only [rowCells, List.flatMap_cons, Nat.zero_mul, Nat.zero_add]
      rw [List.getElem?_append_left (by simp [Rg.cells]; exact hj)]
    | succ k =>
      have := ih (k := k) (by simpa using h)
      simp only [rowCells, List.flatMap_cons] at this ⊢
      rw [List.getElem?_append_right (by simp [Rg.cells]; omega)]
      rw [← this]
      congr 1
      simp [Rg.cells]; omega
theorem Reads.range {w : World} {B n k : Nat} {A : Option Addr} {l : List Rg} {r : Rg} (h : Reads w B 4 A n (rowCells l)) (hr : l[k]? = some r) (hk : k < n) :
    ∃ ad, A = some ad ∧ ad.block < B ∧ ∀ j v, r.cells[j]? = some v → w.cell? ((ad.add (k * 4)).add j) = some v := by
  obtain ⟨ad, rfl, hb, hc⟩ := h.2 (by omega)
  refine ⟨ad, rfl, hb, fun j v hv => ?_⟩
  have hj : j < 4 := by
    have := (List.getElem?_eq_some_iff.1 hv).1
    simpa [Rg.cells] using this
  have := hc (k * 4 + j) v (by rw [rowCells_get hr j hj]; exact hv)
  rwa [add_of_add]
theorem range_below {w w' : World} {B : Nat} {ad : Addr} {cs : List Value} (h : ∀ j v, cs[j]? = some v → w.cell? (ad.add j) = some v) (hb : Below B w w') (hB : ad.block < B) :
    ∀ j v, cs[j]? = some v → w'.cell? (ad.add j) = some v := fun j v hv => by
  rw [hb.cell (by rw [block_of_add]; exact hB)]; exact h j v hv

set_option maxRecDepth 100000 in
theorem owned_any (w : World) (r : Rg) : Calls Try.prog 32 #[r.val] w (RetB w (ownedL r)) := by
  obtain ⟨a, b, c, d⟩ := r
  unfold Rg.val
  simp only
  go_enter Try.func32, Try.ntmps32
  go_wp2
  all_goals go_ret
  all_goals refine ⟨?_, (Below.refl _ _).alloc (Nat.le_refl _) _⟩
  all_goals simp [ownedL]
  all_goals omega

theorem drop_at {α : Type} {l : List α} {k : Nat} {r : α} (h : l[k]? = some r) : l.drop k = r :: l.drop (k + 1) := by
  obtain ⟨hk, he⟩ := List.getElem?_eq_some_iff.1 h
  rw [List.drop_eq_getElem_cons hk, he]
theorem step_bad {l : List Rg} {k : Nat} {r : Rg} {x : Int} (hrk : l[k]? = some r) (hs : soundGo x (l.drop k) = soundGo 0 l)
    (hbad : ¬ (r.a = x ∧ r.a ≤ r.b ∧ r.b ≤ 4294967295 ∧ ownedL r = true)) : soundL l = false := by
  unfold soundL
  rw [← hs, drop_at hrk, soundGo, if_neg hbad]
  rfl
theorem step_ok {l : List Rg} {k : Nat} {r : Rg} {x : Int} (hrk : l[k]? = some r) (hs : soundGo x (l.drop k) = soundGo 0 l)
    (hok : r.a = x ∧ r.a ≤ r.b ∧ r.b ≤ 4294967295 ∧ ownedL r = true) : soundGo (r.b + 1) (l.drop (k + 1)) = soundGo 0 l := by
  rw [← hs, drop_at hrk, soundGo, if_pos hok]
theorem step_end {l : List Rg} {n : Nat} {x : Int} (hs : soundGo x (l.drop n) = soundGo 0 l) (hl : l.length = n) : soundL l = ((x == 4294967296) && decide (n ≤ 64)) := by
  unfold soundL
  rw [← hs, hl, List.drop_of_length_le (by omega), soundGo]
  simp


/-- An operation whose guard holds is walked as one without. -/
theorem wpList_unguard {P : Program} {ops : Array Oper} {Q : Exit → Act → World → Prop} {rest : List Oper} {a : Act} {w : World} {dst : Option Tmp} {op : Op} {ty : TypeId} {pos : String} {after : Array Edge} {g : Nat × Bool}
    (hw : Region.wanted ⟨dst, op, ty, pos, after, some g⟩ (yielded ops a.tmps) = true) (h : wpList P ops Q (⟨dst, op, ty, pos, after, none⟩ :: rest) a w) : wpList P ops Q (⟨dst, op, ty, pos, after, some g⟩ :: rest) a w := by
  unfold wpList at h ⊢
  rw [if_pos hw]
  rw [if_pos (by rfl)] at h
  exact h
/-- What is asked behind a statement, put out of simp's sight. -/
theorem code_hide {P : Program} {c : Code} {Q : Exit → Act → World → Prop} {a : Act} {w : World} (h : ∀ Q', Hid (Q' = Q) → Code.wp P c Q' a w) : Code.wp P c Q a w := h Q (Lib.hid rfl)
theorem hide_out {Q Q' : Exit → Act → World → Prop} {e : Exit} {a : Act} {w : World} (h : Hid (Q' = Q)) (hq : Q e a w) : Q' e a w := by rw [h.out]; exact hq
theorem alloc_size (w : World) (o : Obj) : (w.alloc o).heap.size = w.heap.size + 1 := Array.size_push _
end Go.Proofs.Ytbgnmkjjfaepiaa
