/- What a call leaves alone; rows in blocks; loads at addresses. No condition. (The general part of the net's texts.) -/
import Derived.Test.YtchhejheobceiaaClone
import Derived.Test.YtchhejheobceiaaFlat
import Derived.OneCell
import Derived.IntWalk
import Derived.BigQuiet
import Derived.BigRegion
import Derived.Laws.Unary
import Derived.Deep.QuietTactic
import Derived.RegionTactic
import Derived.Deep.Cut
import Derived.Deep.CutRange
import Derived.Deep.CutBlock
import Derived.Deep.RegionLaw
import Derived.Deep.RegionHeld3
import Derived.Deep.AppendLies
namespace Go.Proofs.Ytchhejheobceiaa
open Go.RowKit
set_option linter.unusedVariables false

/-! ### A result in a cell of its own -/
theorem ret_cell {P : Program} {fn : Func} {R : Ending → World → Prop} {a : Act} {w : World} (p u : Tmp) (ty : TypeId) (h : fn.results = #[.cell p ty, .tmp u]) (b : Nat) (cs : List Value) (d : TypeDesc)
    (hp : a.tmps.getD p undef = .pointer (some ⟨b, 0, none⟩)) (hc : w.rangeAt b 0 cs) (hu : P.underlying ty = some d) (hd : d.isRow = true) (hi : (P.info? ty).map (·.size) = some cs.length)
    (hdf : a.defers = []) (hR : R (.returned (.tuple #[.agg cs.toArray, a.tmps.getD u undef])) w) : bodyPost P fn R .ret a w := by
  refine bodyPost_ret (v := .tuple #[.agg cs.toArray, a.tmps.getD u undef]) ?_ hdf hR
  simp only [results, h]
  have := run_loadVar_mid (P := P) w b 0 ty cs d hc hu hd hi
  simp only [Array.getD_eq_getD_getElem?] at hp
  simp [Result.andThen, hp, asAddr, this]
theorem Below.setCells {B : Nat} {a : World} (b : Nat) (hb : B ≤ b) : ∀ (vs : List Value) (o : Nat) {w : World}, Below B a w → Below B a (w.setCells b o vs)
  | [], _, _, h => h
  | v :: r, o, w, h => by
    rw [World.setCells]
    exact Below.setCells b hb r (o + 1) (h.setCell (p := ⟨b, o, none⟩) hb v)
theorem there_below {w w' : World} {B b o n : Nat} (h : w.there b o n) (hb : Below B w w') (hB : b < B) : w'.there b o n := fun j hj => by
  rw [hb.cell (p := ⟨b, o + j, none⟩) hB, hb.frozen (p := ⟨b, o + j, none⟩) hB]; exact h j hj
theorem range_below_at {w w' : World} {B b o : Nat} {cs : List Value} (h : w.rangeAt b o cs) (hb : Below B w w') (hB : b < B) : w'.rangeAt b o cs := fun j v hv => by
  rw [hb.cell (p := ⟨b, o + j, none⟩) hB]; exact h j v hv
theorem range_new (w : World) (cs : List Value) (e : TypeId) : (w.alloc (.cells cs.toArray e)).rangeAt w.heap.size 0 cs := fun j v hv => by
  rw [Nat.zero_add, World.cell?_alloc_at _ _ _ _ rfl]; simpa using hv
set_option maxRecDepth 100000 in
theorem there_new (w : World) (cs : List Value) (e : TypeId) : (w.alloc (.cells cs.toArray e)).there w.heap.size 0 cs.length := fun j hj => by
  refine ⟨by rw [Nat.zero_add, World.cell?_alloc_at _ _ _ _ rfl]; simp [hj], ?_⟩
  exact World.frozen?_alloc_at _ _ _ _ rfl


theorem ret_cell1 {P : Program} {fn : Func} {R : Ending → World → Prop} {a : Act} {w : World} (p : Tmp) (ty : TypeId) (h : fn.results = #[.cell p ty]) (b : Nat) (cs : List Value) (d : TypeDesc)
    (hp : a.tmps.getD p undef = .pointer (some ⟨b, 0, none⟩)) (hc : w.rangeAt b 0 cs) (hu : P.underlying ty = some d) (hd : d.isRow = true) (hi : (P.info? ty).map (·.size) = some cs.length)
    (hdf : a.defers = []) (hR : R (.returned (.agg cs.toArray)) w) : bodyPost P fn R .ret a w := by
  refine bodyPost_ret (v := .agg cs.toArray) ?_ hdf hR
  simp only [results, h]
  have := run_loadVar_mid (P := P) w b 0 ty cs d hc hu hd hi
  simp only [Array.getD_eq_getD_getElem?] at hp
  simp [hp, asAddr, this]
/-- An operation whose guard holds is walked as one without. -/
theorem wpList_unguard {P : Program} {ops : Array Oper} {Q : Exit → Act → World → Prop} {rest : List Oper} {a : Act} {w : World} {dst : Option Tmp} {op : Op} {ty : TypeId} {pos : String} {after : Array Edge} {g : Nat × Bool}
    (hw : Region.wanted ⟨dst, op, ty, pos, after, some g⟩ (yielded ops a.tmps) = true) (h : wpList P ops Q (⟨dst, op, ty, pos, after, none⟩ :: rest) a w) : wpList P ops Q (⟨dst, op, ty, pos, after, some g⟩ :: rest) a w := by
  unfold wpList at h ⊢
  rw [if_pos hw]
  rw [if_pos (by rfl)] at h
  exact h
theorem code_hide {P : Program} {c : Code} {Q : Exit → Act → World → Prop} {a : Act} {w : World} (h : ∀ Q', Hid (Q' = Q) → Code.wp P c Q' a w) : Code.wp P c Q a w := h Q (Lib.hid rfl)
theorem hide_out {Q Q' : Exit → Act → World → Prop} {e : Exit} {a : Act} {w : World} (h : Hid (Q' = Q)) (hq : Q e a w) : Q' e a w := by rw [h.out]; exact hq
theorem alloc_size (w : World) (o : Obj) : (w.alloc o).heap.size = w.heap.size + 1 := Array.size_push _
theorem below_drewN {B : Nat} {a w : World} (h : Below B a w) (n : Nat) : Below B a (w.drewN n) := ⟨h.os, h.tape, h.output, h.size, h.block⟩

/-! ### What a call has left alone -/
structure Kept (S : Nat → Prop) (w w' : World) : Prop where
  os : w'.os = w.os
  tape : w'.tape = w.tape
  output : w'.output = w.output
  size : w.heap.size ≤ w'.heap.size
  block : ∀ k, k < w.heap.size → ¬ S k → w'.heap[k]? = w.heap[k]?
section
variable {S S' : Nat → Prop} {w w1 w2 : World}
theorem Kept.refl (S : Nat → Prop) (w : World) : Kept S w w := ⟨rfl, rfl, rfl, Nat.le_refl _, fun _ _ _ => rfl⟩
theorem Kept.trans (h : Kept S w w1) (k : Kept S' w1 w2) (hS : ∀ b, b < w.heap.size → S' b → S b) : Kept S w w2 :=
  ⟨k.os.trans h.os, k.tape.trans h.tape, k.output.trans h.output, Nat.le_trans h.size k.size, fun b hb hn => (k.block b (Nat.lt_of_lt_of_le hb h.size) (fun e => hn (hS b hb e))).trans (h.block b hb hn)⟩
theorem Kept.mono (h : Kept S w w1) (hS : ∀ b, b < w.heap.size → S b → S' b) : Kept S' w w1 := ⟨h.os, h.tape, h.output, h.size, fun b hb hn => h.block b hb (fun e => hn (hS b hb e))⟩
theorem Kept.of_below (h : Below w.heap.size w w1) : Kept S w w1 := ⟨h.os, h.tape, h.output, h.size, fun b hb _ => h.block b hb⟩
theorem Kept.of_grown {row : Option Nat} (h : w.grownBy w1 row) (hS : ∀ b, some b = row → S b) : Kept S w w1 := ⟨h.os, h.tape, h.output, h.size, fun b hb hn => h.block b hb (fun e => hn (hS b e))⟩
theorem Kept.below {B : Nat} (h : Kept S w w1) (hB : B ≤ w.heap.size) (hS : ∀ b, S b → B ≤ b) : Below B w w1 :=
  ⟨h.os, h.tape, h.output, h.size, fun b hb => h.block b (by omega) (fun e => by have := hS b e; omega)⟩
theorem Kept.alloc (h : Kept S w w1) (o : Obj) : Kept S w (w1.alloc o) := h.trans (.of_below ((Below.refl _ _).alloc (Nat.le_refl _) o) : Kept (fun _ => False) _ _) (fun _ _ e => e.elim)
theorem Kept.drew (h : Kept S w w1) : Kept S w w1.drew := ⟨h.os, h.tape, h.output, h.size, h.block⟩
theorem Kept.drewN (h : Kept S w w1) (n : Nat) : Kept S w (w1.drewN n) := ⟨h.os, h.tape, h.output, h.size, h.block⟩
theorem Kept.setCell (h : Kept S w w1) {a : Addr} (ha : a.block < w.heap.size → S a.block) (u : Value) : Kept S w (w1.setCell a u) :=
  ⟨h.os, h.tape, h.output, by simpa using h.size, fun b hb hn => (Below.heap_setCell w1 a u b (fun e => hn (by subst e; exact ha hb))).trans (h.block b hb hn)⟩
theorem Kept.own {base size n : Nat} {e : TypeId} {v : Value} {xs : List Value} (hk : Kept S w w1) (h : w.ownsRow base e size v n xs) (hv : ∀ g, v.ownBlock = some g → ¬ S g) : w1.ownsRow base e size v n xs := by
  obtain ⟨h1, h2⟩ := h
  refine ⟨h1, ?_⟩
  rcases h2 with h2 | ⟨g, cap, cur, rfl, hB, hg, r⟩
  · exact .inl h2
  · exact .inr ⟨g, cap, cur, rfl, hB, by rw [hk.block g (Array.getElem?_eq_some_iff.1 hg).1 (hv g rfl)]; exact hg, r⟩
theorem Kept.cell (hk : Kept S w w1) {a : Addr} (ha : a.block < w.heap.size) (hS : ¬ S a.block) : w1.cell? a = w.cell? a := World.cell?_of_block (hk.block _ ha hS)
theorem Kept.frozen (hk : Kept S w w1) {a : Addr} (ha : a.block < w.heap.size) (hS : ¬ S a.block) : w1.frozen? a = w.frozen? a := World.frozen?_of_block (hk.block _ ha hS)
theorem Kept.reads {B size n : Nat} {A : Option Addr} {xs : List Value} (hk : Kept S w w1) (h : Reads w B size A n xs) (hB : B ≤ w.heap.size) (hS : ∀ b, b < B → ¬ S b) : Reads w1 B size A n xs :=
  h.keep fun p hp => hk.cell (by omega) (hS _ hp)
end
/-- Rows of other elements lie in other blocks. -/
theorem own_apart {w : World} {b b' s s' n n' g : Nat} {e e' : TypeId} {v v' : Value} {xs xs' : List Value} (h : w.ownsRow b e s v n xs) (h' : w.ownsRow b' e' s' v' n' xs') (hne : e ≠ e') (hv : v.ownBlock = some g) : v'.ownBlock ≠ some g := by
  intro hv'
  rcases h.2 with ⟨rfl, _⟩ | ⟨g1, cap, cur, rfl, _, hg, _⟩
  · cases hv
  · rcases h'.2 with ⟨rfl, _⟩ | ⟨g2, cap', cur', rfl, _, hg', _⟩
    · cases hv'
    · simp only [Value.ownBlock, Option.some.injEq] at hv hv'
      subst hv hv'
      rw [hg] at hg'
      injection hg' with hg'
      injection hg' with _ hg'
      exact hne hg'
theorem own_apart_one {w : World} {b s n a : Nat} {e e' : TypeId} {v u : Value} {xs : List Value} (h : w.ownsRow b e s v n xs) (h' : w.heap[a]? = some (.cells #[u] e' (0, 0))) (hne : e ≠ e') : v.ownBlock ≠ some a := by
  intro hv
  rcases h.2 with ⟨rfl, _⟩ | ⟨g1, cap, cur, rfl, _, hg, _⟩
  · cases hv
  · simp only [Value.ownBlock, Option.some.injEq] at hv
    subst hv
    rw [hg] at h'
    injection h' with h'
    injection h' with _ h'
    exact hne h'


/-- A struct is read at an address. -/
theorem run_loadVar_at {P : Program} (w : World) (a : Addr) (ty : TypeId) (cs : List Value) (d : TypeDesc) (hc : ∀ j v, cs[j]? = some v → w.cell? (a.add j) = some v)
    (hu : P.underlying ty = some d) (hd : d.isRow = true) (hi : (P.info? ty).map (·.size) = some cs.length) :
    (loadVar ty a).run P w = .ok (.agg cs.toArray) w := by
  have hl : (loadCells a cs.length).run P w = .ok cs.toArray w := run_loadCells_list (P := P) w a cs hc
  cases hq : P.info? ty with
  | none => simp [hq] at hi
  | some i =>
    have hs : i.size = cs.length := by simpa [hq] using hi
    have hagg : (isAgg ty).run P w = .ok true w := by
      unfold isAgg
      rw [Sem.run_bind, run_underlying hu w]
      cases d <;> simp_all
    simp [loadVar, Sem.run_bind, hagg, sizeOf, typeInfo, hq, hs, hl]
theorem wpList_load_at {P : Program} {ops : Array Oper} {rest : List Oper} {op : Oper} {a : Act} {w : World} {Q : Exit → Act → World → Prop} (hgd : op.guard = none) (ty : TypeId) (x : Operand) (ho : op.op = .load ty x)
    (ad : Addr) (hx : a.eval x = .pointer (some ad)) (cs : List Value) (d : TypeDesc) (hc : ∀ j v, cs[j]? = some v → w.cell? (ad.add j) = some v)
    (hu : P.underlying ty = some d) (hd : d.isRow = true) (hi : (P.info? ty).map (·.size) = some cs.length)
    (h : wpList P ops Q rest (a.put op.dst (.agg cs.toArray)) w) : wpList P ops Q (op :: rest) a w :=
  wpList_plain hgd fun K hK => by
    unfold Oper.wp execOp
    simp only [ho, hx, Instr.loadAt, Instr.sureAddr, Sem.run_bind, Sem.run_pure, Result.andThen_ok, run_loadVar_at w ad ty cs d hc hu hd hi]
    exact hK _ _ h
theorem quiet_load_at {P : Program} {C : World → Prop} {a : Act} {o : Oper} {K : Act → Prop} (ty : TypeId) (x : Operand) (ho : o.op = .load ty x) (ad : Addr) (hx : a.eval x = .pointer (some ad)) (cs : List Value) (d : TypeDesc)
    (hc : ∀ w, C w → ∀ j v, cs[j]? = some v → w.cell? (ad.add j) = some v) (hu : P.underlying ty = some d) (hd : d.isRow = true) (hi : (P.info? ty).map (·.size) = some cs.length)
    (hk : K (a.put o.dst (.agg cs.toArray))) : o.quiet P a C K :=
  ⟨_, fun w hw => by
    unfold Oper.quietAt execOp
    simp only [ho, hx, Instr.loadAt, Instr.sureAddr, Sem.run_bind, Sem.run_pure, Result.andThen_ok, run_loadVar_at w ad ty cs d (hc w hw) hu hd hi]
    exact ⟨rfl, rfl⟩, hk⟩
/-- .. and where the row lies behind it: where it lay, or in a new block. -/
theorem append_own_more {P : Program} (w : World) (t ty : TypeId) (base : Nat) (e : TypeId) (i : TypeInfo) (z : Value) (size bytes : Nat) (ht : P.underlying t = some (.slice e)) (hi : P.info? e = some i) (hz : i.zero = some z)
    (hsize : i.size = size) (hby : i.bytes = bytes) (hzs : z.cells.size = size) (hsz : 0 < size)
    (v : Value) (n : Nat) (xs : List Value) (hown : w.ownsRow base e size v n xs)
    (ad : Addr) (m c : Nat) (news : List Value) (hl : news.length = m * size) (hc : ∀ j u, news[j]? = some u → w.cell? (ad.add j) = some u) (h1 : ∀ u ∈ news, u.oneCell' = true)
    (h63 : n + m ≤ maxLen) (hbytes : (n + m) * bytes ≤ 140737488355328) (hbase : base ≤ w.heap.size) :
    ∃ v' w', (Builtin.append_ #[t, t] ty #[v, .slice (some ad) m c]).run P w = .ok v' w' ∧ w'.ownsRow base e size v' (n + m) (xs ++ news) ∧ w.grownBy w' v.ownBlock ∧ ∀ g, v'.ownBlock = some g → v.ownBlock = some g ∨ w.heap.size ≤ g := by
  obtain ⟨v', w', hrun, h2, h3, _⟩ := run_append_own (P := P) w base t ty e i z size bytes ht hi hz hsize hby hzs hsz v n xs hown ad m c news hl hc h1 h63 hbytes hbase
  refine ⟨v', w', hrun, h2, h3, fun g' hg' => ?_⟩
  rcases hown.2 with ⟨hv, hn⟩ | ⟨g, cap, cur, hv, hB, hg, hnc, hmx, hs, htk⟩
  · subst hv hn
    have hx : xs = [] := List.eq_nil_of_length_eq_zero (by simpa using hown.1)
    subst hx
    obtain ⟨v2, w2, hrun2, g2, _, _⟩ := run_append_own (P := P) w w.heap.size t ty e i z size bytes ht hi hz hsize hby hzs hsz (.slice none 0 0) 0 [] (World.ownsRow_nil _ _ _ _) ad m c news hl hc h1 h63 hbytes (Nat.le_refl _)
    rw [hrun] at hrun2
    injection hrun2 with e1 e2
    subst e1 e2
    exact .inr (g2.lt _ hg').1
  · subst hv
    by_cases hroom : n + m ≤ cap
    · have hcell : ∀ j, j < cap * size → (w.cell? ⟨g, j, none⟩).isSome = true ∧ w.frozen? ⟨g, j, none⟩ = false := fun j hj => by
        refine ⟨?_, hown.frozenAt _⟩
        rw [cell_of_row w g j cur e (0, 0) hg]
        simp [hs, hj]
      have hmul : n * size + m * size ≤ cap * size := by rw [← Nat.add_mul]; exact Nat.mul_le_mul_right _ hroom
      have hrun2 := run_append_room_cells (P := P) w t ty e i ht hi g 0 n cap ad m c news (by rw [hsize]; exact hl) hc h1 hroom (fun j hj => by rw [hsize]; exact (hcell _ (by omega)).1) (fun j hj => by rw [hsize]; exact (hcell _ (by omega)).2)
      rw [hrun] at hrun2
      injection hrun2 with e1 e2
      subst e1
      exact .inl hg'
    · obtain ⟨v2, w2, hrun2, g2, _⟩ := run_append_arg_grows (P := P) w t ty e i z size bytes ht hi hz hsize hby hzs hsz ⟨g, 0, none⟩ n cap xs hown.1 (hown.cells (g := g) rfl) ad m c news hl hc (by omega) h63 hbytes
      rw [hrun] at hrun2
      injection hrun2 with e1 e2
      subst e1 e2
      exact .inr (g2.lt _ hg').1
/-- append onto a row of the call's own, in a region that draws its order: that row and new blocks alone turn. -/
theorem step_append_grow {P : Program} (w : World) {ops : Array Oper} {o : Oper} {a : Act} {K : Act → World → Prop} {Q : Exit → Act → World → Prop} {E : Prop} (hgd : o.guard = none) (s x : Operand) (t : TypeId)
    (ho : o.op = .call { callee := .builtin .append, args := #[s, x], argTypes := #[t, t] })
    (base : Nat) (e : TypeId) (i : TypeInfo) (z : Value) (size bytes : Nat) (ht : P.underlying t = some (.slice e)) (hi : P.info? e = some i) (hz : i.zero = some z)
    (hsize : i.size = size) (hby : i.bytes = bytes) (hzs : z.cells.size = size) (hsz : 0 < size)
    (v : Value) (n : Nat) (xs : List Value) (hs : a.eval s = v) (hown : w.ownsRow base e size v n xs)
    (ad : Addr) (B m c : Nat) (news : List Value) (hx : a.eval x = .slice (some ad) m c) (hr : Reads w B size (some ad) m news) (hm : 0 < m) (h1 : ∀ u ∈ news, u.oneCell' = true)
    (h63 : n + m ≤ maxLen) (hbytes : (n + m) * bytes ≤ 140737488355328) (hbase : base ≤ w.heap.size)
    (h : ∀ v' w', w'.ownsRow base e size v' (n + m) (xs ++ news) → w.grownBy w' v.ownBlock → (∀ g, v'.ownBlock = some g → v.ownBlock = some g ∨ w.heap.size ≤ g) → K (a.put o.dst v') w') :
    if Region.wanted o (yielded ops a.tmps) = true then Oper.wp P o a w K Q else E := by
  have hw : Region.wanted o (yielded ops a.tmps) = true := by simp [Region.wanted, hgd]
  rw [if_pos hw]
  obtain ⟨ad', e', _, hc⟩ := hr.2 hm
  injection e' with e'
  subst e'
  obtain ⟨v', w', hrun, h2, h3, h4⟩ := append_own_more (P := P) w t o.type base e i z size bytes ht hi hz hsize hby hzs hsz v n xs hown ad m c news hr.1 hc h1 h63 hbytes hbase
  unfold Oper.wp execOp
  simp only [ho, resolve, invoke, builtin, Sem.run_bind, Sem.run_pure, Result.andThen_ok, List.map_toArray, List.map_cons, List.map_nil, hs, hx, hrun]
  exact h v' w' h2 h3 h4
theorem own_moreN {w : World} {base base' : Nat} {e : TypeId} {s n : Nat} {v : Value} {xs : List Value} (h : w.ownsRow base e s v n xs) (hb : base' ≤ base) : w.ownsRow base' e s v n xs := by
  refine ⟨h.1, ?_⟩
  rcases h.2 with h2 | ⟨g, cap, cur, hv, hg, r⟩
  · exact .inl h2
  · exact .inr ⟨g, cap, cur, hv, by omega, r⟩
theorem kept_range {S : Nat → Prop} {w w1 : World} {b o : Nat} {cs : List Value} (hk : Kept S w w1) (h : w.rangeAt b o cs) (hb : b < w.heap.size) (hS : ¬ S b) : w1.rangeAt b o cs := fun j v hv => by
  rw [hk.cell (a := ⟨b, o + j, none⟩) hb hS]; exact h j v hv
theorem kept_there {S : Nat → Prop} {w w1 : World} {b o n : Nat} (hk : Kept S w w1) (h : w.there b o n) (hb : b < w.heap.size) (hS : ¬ S b) : w1.there b o n := fun j hj => by
  rw [hk.cell (a := ⟨b, o + j, none⟩) hb hS, hk.frozen (a := ⟨b, o + j, none⟩) hb hS]; exact h j hj
def RetTrue (w : World) (e : Ending) (w' : World) : Prop := e = .returned (.bool true) ∧ Below w.heap.size w w'
theorem RetTrue.from {w w1 : World} {e : Ending} {w' : World} (hb : Below w.heap.size w w1) (h : RetTrue w1 e w') : RetTrue w e w' :=
  ⟨h.1, hb.trans (h.2.mono hb.size)⟩
theorem reads_of_range {w : World} {B X s n : Nat} {cs : List Value} (h : w.rangeAt X 0 cs) (hl : cs.length = n * s) (hX : X < B) : Reads w B s (some ⟨X, 0, none⟩) n cs :=
  ⟨hl, fun _ => ⟨_, rfl, hX, fun j u hu => by rw [Addr.add_mid]; exact h j u hu⟩⟩
theorem own_reads_in {w : World} {base s n c B : Nat} {e : TypeId} {A : Option Addr} {xs : List Value} (h : w.ownsRow base e s (.slice A n c) n xs) (hB : ∀ g, (Value.slice A n c).ownBlock = some g → g < B) : Reads w B s A n xs := by
  refine ⟨h.1, fun hn => ?_⟩
  obtain ⟨g, c', e1, _, _, _, _, hgo⟩ := own_head (Or.inl h) hn
  injection e1 with e1 e2 e3
  subst e1
  exact ⟨⟨g, 0, none⟩, rfl, hB g rfl, fun j u hu => by rw [Addr.add_mid, Nat.zero_add]; exact (own_cell hgo hu).1⟩
theorem below_next {w a b : World} (h : Below w.heap.size w a) (k : Below a.heap.size a b) : Below w.heap.size w b := h.trans (k.mono h.size)
theorem own_apart_blk {w : World} {b s n a : Nat} {e e' : TypeId} {v : Value} {cur : Array Value} {xs : List Value} (h : w.ownsRow b e s v n xs) (h' : w.heap[a]? = some (.cells cur e' (0, 0))) (hne : e ≠ e') : v.ownBlock ≠ some a := by
  intro hv
  rcases h.2 with ⟨rfl, _⟩ | ⟨g1, cap, cur, rfl, _, hg, _⟩
  · cases hv
  · simp only [Value.ownBlock, Option.some.injEq] at hv
    subst hv
    rw [hg] at h'
    injection h' with h'
    injection h' with _ h'
    exact hne h'
/-- What a block holds behind a row of stores into it. -/
theorem setCells_heap (g : Nat) (e : TypeId) (fr : Nat × Nat) : ∀ (vs : List Value) (o : Nat) (w : World) (cur : Array Value), w.heap[g]? = some (.cells cur e fr) →
    ∃ cur', (w.setCells g o vs).heap[g]? = some (.cells cur' e fr) ∧ cur'.size = cur.size ∧ ∀ j, j < cur.size → cur'[j]? = if o ≤ j ∧ j < o + vs.length then vs[j - o]? else cur[j]?
  | [], o, w, cur, h => ⟨cur, h, rfl, fun j hj => by rw [if_neg (by simp)]⟩
  | v :: vs, o, w, cur, h => by
    have h1 : (w.setCell ⟨g, o, none⟩ v).heap[g]? = some (.cells (cur.setIfInBounds o v) e fr) := by
      have hlt := (Array.getElem?_eq_some_iff.1 h).1
      have h' : w.heap[g] = .cells cur e fr := by simpa [Array.getElem?_eq_getElem hlt] using h
      show (w.heap.modify g _)[g]? = _
      rw [Array.getElem?_eq_getElem (by simpa using hlt), Array.getElem_modify_self, h']
      rfl
    obtain ⟨cur', g1, g2, g3⟩ := setCells_heap g e fr vs (o + 1) _ _ h1
    refine ⟨cur', g1, by rw [g2]; simp, fun j hj => ?_⟩
    rw [g3 j (by simpa using hj)]
    by_cases hjo : j = o
    · subst hjo
      rw [if_neg (by omega), if_pos (by simp)]
      simp [hj]
    · rw [Array.getElem?_setIfInBounds_ne (by omega)]
      by_cases hin : o + 1 ≤ j ∧ j < o + 1 + vs.length
      · rw [if_pos hin, if_pos (by simp; omega)]
        rw [show j - o = (j - (o + 1)) + 1 by omega]
        simp
      · rw [if_neg hin, if_neg (by simp; omega)]
theorem kept_setCells {S : Nat → Prop} {w0 : World} (g : Nat) (hg : S g) : ∀ (vs : List Value) (o : Nat) {w : World}, Kept S w0 w → Kept S w0 (w.setCells g o vs)
  | [], _, _, h => h
  | v :: vs, o, w, h => kept_setCells g hg vs (o + 1) (h.setCell (fun _ => hg) v)

theorem own_or (v : Value) : v.ownBlock = none ∨ v.ownBlock ≠ none := by cases v.ownBlock <;> simp
end Go.Proofs.Ytchhejheobceiaa
