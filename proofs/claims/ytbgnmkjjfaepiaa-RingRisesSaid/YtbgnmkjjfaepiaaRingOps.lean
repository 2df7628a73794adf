import Derived.Test.YtbgnmkjjfaepiaaRing
import Derived.Test.YtbgnmkjjfaepiaaRows
import Derived.WalkKit
import Derived.WalkSpells
import Derived.WalkLawsBesides
import Derived.Laws.StructEq
import Derived.Deep.QuietTactic
import Derived.BigQuiet
namespace Go.Proofs.Ytbgnmkjjfaepiaa
open Go.RowKit
set_option linter.unusedVariables false

theorem add1 (x : Addr) (j : Nat) (hj : 0 < j) : x.add j = ⟨x.block, x.off + j, none⟩ := by unfold Addr.add; rw [if_neg (by omega)]
theorem Try.infoRange : (Try.prog.info? 31).map (fun i => (i.zero, i.size, i.bytes)) = some (some (.agg #[.int .i64 0, .int .i64 0, .int .i64 0, .int .i64 0]), 4, 32) := by kernel_rfl
theorem Rg.cells_one (r : Rg) : ∀ u ∈ r.cells, u.oneCell' = true := by
  intro u hu
  simp [Rg.cells] at hu
  rcases hu with rfl | rfl | rfl | rfl <;> rfl
theorem rowCells_one (l : List Rg) : ∀ u ∈ rowCells l, u.oneCell' = true := by
  intro u hu
  simp only [rowCells, List.mem_flatMap] at hu
  obtain ⟨r, _, hr⟩ := hu
  exact Rg.cells_one r u hr
theorem rowCells_length (l : List Rg) : (rowCells l).length = l.length * 4 := by
  induction l with
  | nil => rfl
  | cons x l ih =>
    simp only [rowCells, List.flatMap_cons, List.length_append, List.length_cons] at ih ⊢
    rw [ih]; simp [Rg.cells]; omega
theorem rowCells_append (l m : List Rg) : rowCells (l ++ m) = rowCells l ++ rowCells m := by simp [rowCells, List.flatMap_append]
theorem rowCells_one1 (r : Rg) : rowCells [r] = r.cells := by simp [rowCells]

/-- append(v, x...) at ranges, at the operation, in a plain walk. -/
theorem app_ranges (w : World) {ops : Array Oper} {rest : List Oper} {o : Oper} {a : Act} {Q : Exit → Act → World → Prop} (hgd : o.guard = none) (s x : Operand)
    (ho : o.op = .call { callee := .builtin .append, args := #[s, x], argTypes := #[22, 22] })
    (base : Nat) (v : Value) (n : Nat) (xs : List Value) (hs : a.eval s = v) (hown : Owns w base 31 4 v n xs)
    (B : Nat) (A : Option Addr) (m c : Nat) (news : List Value) (hx : a.eval x = .slice A m c) (hr : Reads w B 4 A m news) (h1 : ∀ u ∈ news, u.oneCell' = true)
    (hbytes : n + m ≤ 4398046511104) (hbase : base ≤ w.heap.size)
    (h : ∀ v' w', Owns w' base 31 4 v' (n + m) (xs ++ news) → Below base w w' → (w.ownsRow base 31 4 v n xs ∨ 0 < m → w'.ownsRow base 31 4 v' (n + m) (xs ++ news)) → wpList Try.prog ops Q rest (a.put o.dst v') w') : wpList Try.prog ops Q (o :: rest) a w := by
  obtain ⟨i0, hi, hz0, hz1, hz2⟩ := info_parts Try.infoRange
  exact wpList_append_owns w hgd s x _ ho base _ i0 _ 4 32 Try.underlying22 hi hz0 hz1 hz2 rfl (by omega) v n xs hs hown B A m c news hx hr h1 (by simp only [maxLen]; omega) (by omega) hbase h
/-- .. in a region that draws its order. -/
theorem app_ranges_step (w : World) {ops : Array Oper} {o : Oper} {a : Act} {K : Act → World → Prop} {Q : Exit → Act → World → Prop} {E : Prop} (hgd : o.guard = none) (s x : Operand)
    (ho : o.op = .call { callee := .builtin .append, args := #[s, x], argTypes := #[22, 22] })
    (base : Nat) (v : Value) (n : Nat) (xs : List Value) (hs : a.eval s = v) (hown : Owns w base 31 4 v n xs)
    (B : Nat) (A : Option Addr) (m c : Nat) (news : List Value) (hx : a.eval x = .slice A m c) (hr : Reads w B 4 A m news) (h1 : ∀ u ∈ news, u.oneCell' = true)
    (hbytes : n + m ≤ 4398046511104) (hbase : base ≤ w.heap.size)
    (h : ∀ v' w', Owns w' base 31 4 v' (n + m) (xs ++ news) → Below base w w' → (w.ownsRow base 31 4 v n xs ∨ 0 < m → w'.ownsRow base 31 4 v' (n + m) (xs ++ news)) → K (a.put o.dst v') w') :
    if Region.wanted o (yielded ops a.tmps) = true then Oper.wp Try.prog o a w K Q else E := by
  obtain ⟨i0, hi, hz0, hz1, hz2⟩ := info_parts Try.infoRange
  exact step_append_owns w hgd s x _ ho base _ i0 _ 4 32 Try.underlying22 hi hz0 hz1 hz2 rfl (by omega) v n xs hs hown B A m c news hx hr h1 (by simp only [maxLen]; omega) (by omega) hbase h

/-- A new block of one range reads as it. -/
theorem reads_newR (w : World) (a b c d : Int) (e : TypeId) : Reads (w.alloc (.cells #[.int .i64 a, .int .i64 b, .int .i64 c, .int .i64 d] e)) (w.heap.size + 1) 4 (some ⟨w.heap.size, 0, none⟩) 1 (Rg.mk a b c d).cells := by
  refine ⟨by simp [Rg.cells], fun _ => ⟨_, rfl, by simp, fun j u hu => ?_⟩⟩
  have hadd : (⟨w.heap.size, 0, none⟩ : Addr).add j = ⟨w.heap.size, j, none⟩ := by unfold Addr.add; split <;> simp_all
  rw [hadd, cell_of_row (w.alloc (.cells #[.int .i64 a, .int .i64 b, .int .i64 c, .int .i64 d] e)) w.heap.size j #[.int .i64 a, .int .i64 b, .int .i64 c, .int .i64 d] e (0, 0) (heap_alloc_new w _)]
  simpa [Rg.cells] using hu

/-- A row of ranges and a number are handed back. -/
def RetRow (w : World) (l : List Rg) (err : Int) (e : Ending) (w' : World) : Prop :=
  ∃ A c, e = .returned (.tuple #[.slice A l.length c, .int .i64 err]) ∧ l.length ≤ c ∧ c ≤ maxLen ∧ Reads w' w'.heap.size 4 A l.length (rowCells l) ∧ Below w.heap.size w w'

/-- Two ranges are compared. -/
theorem run_eq_rg (w : World) (r s : Rg) : (binOp .eql 31 r.val s.val).run Try.prog w = .ok (.bool (decide (r = s))) w := by
  obtain ⟨a, b, c, d⟩ := r
  obtain ⟨a', b', c', d'⟩ := s
  simp only [Rg.val]
  simp [go_sem]
  by_cases h1 : a = a' <;> by_cases h2 : b = b' <;> by_cases h3 : c = c' <;> by_cases h4 : d = d' <;> simp [h1, h2, h3, h4]
theorem run_ne_rg (w : World) (r s : Rg) : (binOp .neq 31 r.val s.val).run Try.prog w = .ok (.bool (!decide (r = s))) w := by
  obtain ⟨a, b, c, d⟩ := r
  obtain ⟨a', b', c', d'⟩ := s
  simp only [Rg.val]
  simp [go_sem]
  by_cases h1 : a = a' <;> by_cases h2 : b = b' <;> by_cases h3 : c = c' <;> by_cases h4 : d = d' <;> simp [h1, h2, h3, h4]
theorem run_guard_rg (w : World) (op : BinOp) (x y : Operand) (r s : Rg) : (eqGuard op 31 x y r.val s.val).run Try.prog w = .ok () w :=
  run_eqGuard_agg w op _ x y _ _ (by kernel_rfl)
theorem wpList_eq_rg {w : World} {ops : Array Oper} {rest : List Oper} {op : Oper} {a : Act} {Q : Exit → Act → World → Prop} (hgd : op.guard = none) (x y : Operand)
    (ho : op.op = .binOp .eql 31 x y 31) (r s : Rg) (hx : a.eval x = r.val) (hy : a.eval y = s.val)
    (h : wpList Try.prog ops Q rest (a.put op.dst (.bool (decide (r = s)))) w) : wpList Try.prog ops Q (op :: rest) a w :=
  wpList_plain hgd fun K hK => by
    unfold Oper.wp execOp
    simp only [ho, hx, hy, Sem.run_bind, Sem.run_pure, Result.andThen_ok, run_guard_rg, run_eq_rg]
    exact hK _ _ h
theorem wpList_ne_rg {w : World} {ops : Array Oper} {rest : List Oper} {op : Oper} {a : Act} {Q : Exit → Act → World → Prop} (hgd : op.guard = none) (x y : Operand)
    (ho : op.op = .binOp .neq 31 x y 31) (r s : Rg) (hx : a.eval x = r.val) (hy : a.eval y = s.val)
    (h : wpList Try.prog ops Q rest (a.put op.dst (.bool (!decide (r = s)))) w) : wpList Try.prog ops Q (op :: rest) a w :=
  wpList_plain hgd fun K hK => by
    unfold Oper.wp execOp
    simp only [ho, hx, hy, Sem.run_bind, Sem.run_pure, Result.andThen_ok, run_guard_rg, run_ne_rg]
    exact hK _ _ h

/-! ### In a region that draws its order and only reads -/
theorem quiet_load_at {P : Program} {C : World → Prop} {a : Act} {o : Oper} {K : Act → Prop} (ty : TypeId) (x : Operand) (ho : o.op = .load ty x) (ad : Addr) (hx : a.eval x = .pointer (some ad)) (cs : List Value) (d : TypeDesc)
    (hc : ∀ w, C w → ∀ j v, cs[j]? = some v → w.cell? (ad.add j) = some v) (hu : P.underlying ty = some d) (hd : d.isRow = true) (hi : (P.info? ty).map (·.size) = some cs.length)
    (hk : K (a.put o.dst (.agg cs.toArray))) : o.quiet P a C K :=
  ⟨_, fun w hw => by
    unfold Oper.quietAt execOp
    simp only [ho, hx, Instr.loadAt, Instr.sureAddr, Sem.run_bind, Sem.run_pure, Result.andThen_ok, run_loadVar_at w ad ty cs d (hc w hw) hu hd hi]
    exact ⟨rfl, rfl⟩, hk⟩
theorem quiet_ne_rg {C : World → Prop} {a : Act} {o : Oper} {K : Act → Prop} (x y : Operand)
    (ho : o.op = .binOp .neq 31 x y 31) (r s : Rg) (hx : a.eval x = r.val) (hy : a.eval y = s.val)
    (hk : K (a.put o.dst (.bool (!decide (r = s))))) : o.quiet Try.prog a C K :=
  ⟨_, fun w hw => by
    unfold Oper.quietAt execOp
    simp only [ho, hx, hy, Sem.run_bind, Sem.run_pure, Result.andThen_ok, run_guard_rg, run_ne_rg]
    exact ⟨rfl, rfl⟩, hk⟩
theorem quiet_eq_rg {C : World → Prop} {a : Act} {o : Oper} {K : Act → Prop} (x y : Operand)
    (ho : o.op = .binOp .eql 31 x y 31) (r s : Rg) (hx : a.eval x = r.val) (hy : a.eval y = s.val)
    (hk : K (a.put o.dst (.bool (decide (r = s))))) : o.quiet Try.prog a C K :=
  ⟨_, fun w hw => by
    unfold Oper.quietAt execOp
    simp only [ho, hx, hy, Sem.run_bind, Sem.run_pure, Result.andThen_ok, run_guard_rg, run_eq_rg]
    exact ⟨rfl, rfl⟩, hk⟩
end Go.Proofs.Ytbgnmkjjfaepiaa
