import Derived.Test.YtlgkgmnnmlhaeaaClone
import Derived.Test.YtlgkgmnnmlhaeaaFlat
import Derived.OneCell
import Derived.IntWalk
import Derived.BigQuiet
import Derived.BigRegion
import Derived.Laws.Unary
import Derived.Deep.QuietTactic
import Derived.RegionTactic
import Derived.Deep.Cut
namespace Go.Proofs.Ytlgkgmnnmlhaeaa
open Go.RowKit
set_option linter.unusedVariables false

/-! ### A result in a cell of its own -/
theorem ret_cell {P : Program} {fn : Func} {R : Ending → World → Prop} {a : Act} {w : World} (p u : Tmp) (ty : TypeId) (h : fn.results = #[.cell p ty, .tmp u]) (b : Nat) (cs : List Value) (d : TypeDesc)
    (hp : a.tmps.getD p undef = .pointer (some ⟨b, 0, none⟩)) (hc : w.rangeAt b 0 cs) (hu : P.underlying ty = some d) (hd : d.isRow = true) (hi : (P.info? ty).map (·.size) = some cs.length)
    (hdf : a.defers = []) (hR : R (.returned (.tuple #[.agg cs.toArray, a.tmps.getD u undef])) w) : bodyPost P fn R .ret a w := by
  refine bodyPost_ret (v := .tuple #[.agg cs.toArray, a.tmps.getD u undef]) ?_ hdf hR
  simp only [results, h]
  have := run_loadVar_mid (P := P) w b 0 ty cs d hc hu hd hi
  simp only [Array.getD_eq_getD_getElem?] at hp
  simp [Result.andThen, hp, asAddr, this]
theorem Below.setCells {B : Nat} {a : World} (b : Nat) (hb : B ≤ b) : ∀ (vs : List Value) (o : Nat) {w : World}, Below B a w → Below B a (w.setCells b o vs)
  | [], _, _, h => h
  | v :: r, o, w, h => by
    rw [World.setCells]
    exact Below.setCells b hb r (o + 1) (h.setCell (p := ⟨b, o, none⟩) hb v)
theorem there_below {w w' : World} {B b o n : Nat} (h : w.there b o n) (hb : Below B w w') (hB : b < B) : w'.there b o n := fun j hj => by
  rw [hb.cell (p := ⟨b, o + j, none⟩) hB, hb.frozen (p := ⟨b, o + j, none⟩) hB]; exact h j hj
theorem range_below_at {w w' : World} {B b o : Nat} {cs : List Value} (h : w.rangeAt b o cs) (hb : Below B w w') (hB : b < B) : w'.rangeAt b o cs := fun j v hv => by
  rw [hb.cell (p := ⟨b, o + j, none⟩) hB]; exact h j v hv
theorem range_new (w : World) (cs : List Value) (e : TypeId) : (w.alloc (.cells cs.toArray e)).rangeAt w.heap.size 0 cs := fun j v hv => by
  rw [Nat.zero_add, World.cell?_alloc_at _ _ _ _ rfl]; simpa using hv
set_option maxRecDepth 100000 in
theorem there_new (w : World) (cs : List Value) (e : TypeId) : (w.alloc (.cells cs.toArray e)).there w.heap.size 0 cs.length := fun j hj => by
  refine ⟨by rw [Nat.zero_add, World.cell?_alloc_at _ _ _ _ rfl]; simp [hj], ?_⟩
  exact World.frozen?_alloc_at _ _ _ _ rfl


theorem ret_cell1 {P : Program} {fn : Func} {R : Ending → World → Prop} {a : Act} {w : World} (p : Tmp) (ty : TypeId) (h : fn.results = #[.cell p ty]) (b : Nat) (cs : List Value) (d : TypeDesc)
    (hp : a.tmps.getD p undef = .pointer (some ⟨b, 0, none⟩)) (hc : w.rangeAt b 0 cs) (hu : P.underlying ty = some d) (hd : d.isRow = true) (hi : (P.info? ty).map (·.size) = some cs.length)
    (hdf : a.defers = []) (hR : R (.returned (.agg cs.toArray)) w) : bodyPost P fn R .ret a w := by
  refine bodyPost_ret (v := .agg cs.toArray) ?_ hdf hR
  simp only [results, h]
  have := run_loadVar_mid (P := P) w b 0 ty cs d hc hu hd hi
  simp only [Array.getD_eq_getD_getElem?] at hp
  simp [hp, asAddr, this]
/-- An operation whose guard holds is walked as one without. -/
theorem wpList_unguard {P : Program} {ops : Array Oper} {Q : Exit → Act → World → Prop} {rest : List Oper} {a : Act} {w : World} {dst : Option Tmp} {op : Op} {ty : TypeId} {pos : String} {after : Array Edge} {g : Nat × Bool}
    (hw : Region.wanted ⟨dst, op, ty, pos, after, some g⟩ (yielded ops a.tmps) = true) (h : wpList P ops Q (⟨dst, op, ty, pos, after, none⟩ :: rest) a w) : wpList P ops Q (⟨dst, op, ty, pos, after, some g⟩ :: rest) a w := by
  unfold wpList at h ⊢
  rw [if_pos hw]
  rw [if_pos (by rfl)] at h
  exact h
theorem code_hide {P : Program} {c : Code} {Q : Exit → Act → World → Prop} {a : Act} {w : World} (h : ∀ Q', Hid (Q' = Q) → Code.wp P c Q' a w) : Code.wp P c Q a w := h Q (Lib.hid rfl)
theorem hide_out {Q Q' : Exit → Act → World → Prop} {e : Exit} {a : Act} {w : World} (h : Hid (Q' = Q)) (hq : Q e a w) : Q' e a w := by rw [h.out]; exact hq
theorem alloc_size (w : World) (o : Obj) : (w.alloc o).heap.size = w.heap.size + 1 := Array.size_push _
theorem below_drewN {B : Nat} {a w : World} (h : Below B a w) (n : Nat) : Below B a (w.drewN n) := ⟨h.os, h.tape, h.output, h.size, h.block⟩

/-! ### What a call has left alone -/
structure Kept (S : Nat → Prop) (w w' : World) : Prop where
  os : w'.os = w.os
  tape : w'.tape = w.tape
  output : w'.output = w.output
  size : w.heap.size ≤ w'.heap.size
  block : ∀ k, k < w.heap.size → ¬ S k → w'.heap[k]? = w.heap[k]?
section
variable {S S' : Nat → Prop} {w w1 w2 : World}
theorem Kept.refl (S : Nat → Prop) (w : World) : Kept S w w := ⟨rfl, rfl, rfl, Nat.le_refl _, fun _ _ _ => rfl⟩
theorem Kept.trans (h : Kept S w w1) (k : Kept S' w1 w2) (hS : ∀ b, b < w.heap.size → S' b → S b) : Kept S w w2 :=
  ⟨k.os.trans h.os, k.tape.trans h.tape, k.output.trans h.output, Nat.le_trans h.size k.size, fun b hb hn => (k.block b (Nat.lt_of_lt_of_le hb h.size) (fun e => hn (hS b hb e))).trans (h.block b hb hn)⟩
theorem Kept.mono (h : Kept S w w1) (hS : ∀ b, b < w.heap.size → S b → S' b) : Kept S' w w1 := ⟨h.os, h.tape, h.output, h.size, fun b hb hn => h.block b hb (fun e => hn (hS b hb e))⟩
theorem Kept.of_below (h : Below w.heap.size w w1) : Kept S w w1 := ⟨h.os, h.tape, h.output, h.size, fun b hb _ => h.block b hb⟩
theorem Kept.of_grown {row : Option Nat} (h : w.grownBy w1 row) (hS : ∀ b, some b = row → S b) : Kept S w w1 := ⟨h.os, h.tape, h.output, h.size, fun b hb hn => h.block b hb (fun e => hn (hS b e))⟩
theorem Kept.below {B : Nat} (h : Kept S w w1) (hB : B ≤ w.heap.size) (hS : ∀ b, S b → B ≤ b) : Below B w w1 :=
  ⟨h.os, h.tape, h.output, h.size, fun b hb => h.block b (by omega) (fun e => by have := hS b e; omega)⟩
theorem Kept.alloc (h : Kept S w w1) (o : Obj) : Kept S w (w1.alloc o) := h.trans (.of_below ((Below.refl _ _).alloc (Nat.le_refl _) o) : Kept (fun _ => False) _ _) (fun _ _ e => e.elim)
theorem Kept.drew (h : Kept S w w1) : Kept S w w1.drew := ⟨h.os, h.tape, h.output, h.size, h.block⟩
theorem Kept.drewN (h : Kept S w w1) (n : Nat) : Kept S w (w1.drewN n) := ⟨h.os, h.tape, h.output, h.size, h.block⟩
theorem Kept.setCell (h : Kept S w w1) {a : Addr} (ha : a.block < w.heap.size → S a.block) (u : Value) : Kept S w (w1.setCell a u) :=
  ⟨h.os, h.tape, h.output, by simpa using h.size, fun b hb hn => (Below.heap_setCell w1 a u b (fun e => hn (by subst e; exact ha hb))).trans (h.block b hb hn)⟩
theorem Kept.own {base size n : Nat} {e : TypeId} {v : Value} {xs : List Value} (hk : Kept S w w1) (h : w.ownsRow base e size v n xs) (hv : ∀ g, v.ownBlock = some g → ¬ S g) : w1.ownsRow base e size v n xs := by
  obtain ⟨h1, h2⟩ := h
  refine ⟨h1, ?_⟩
  rcases h2 with h2 | ⟨g, cap, cur, rfl, hB, hg, r⟩
  · exact .inl h2
  · exact .inr ⟨g, cap, cur, rfl, hB, by rw [hk.block g (Array.getElem?_eq_some_iff.1 hg).1 (hv g rfl)]; exact hg, r⟩
theorem Kept.cell (hk : Kept S w w1) {a : Addr} (ha : a.block < w.heap.size) (hS : ¬ S a.block) : w1.cell? a = w.cell? a := World.cell?_of_block (hk.block _ ha hS)
theorem Kept.frozen (hk : Kept S w w1) {a : Addr} (ha : a.block < w.heap.size) (hS : ¬ S a.block) : w1.frozen? a = w.frozen? a := World.frozen?_of_block (hk.block _ ha hS)
theorem Kept.reads {B size n : Nat} {A : Option Addr} {xs : List Value} (hk : Kept S w w1) (h : Reads w B size A n xs) (hB : B ≤ w.heap.size) (hS : ∀ b, b < B → ¬ S b) : Reads w1 B size A n xs :=
  h.keep fun p hp => hk.cell (by omega) (hS _ hp)
end
/-- Rows of other elements lie in other blocks. -/
theorem own_apart {w : World} {b b' s s' n n' g : Nat} {e e' : TypeId} {v v' : Value} {xs xs' : List Value} (h : w.ownsRow b e s v n xs) (h' : w.ownsRow b' e' s' v' n' xs') (hne : e ≠ e') (hv : v.ownBlock = some g) : v'.ownBlock ≠ some g := by
  intro hv'
  rcases h.2 with ⟨rfl, _⟩ | ⟨g1, cap, cur, rfl, _, hg, _⟩
  · cases hv
  · rcases h'.2 with ⟨rfl, _⟩ | ⟨g2, cap', cur', rfl, _, hg', _⟩
    · cases hv'
    · simp only [Value.ownBlock, Option.some.injEq] at hv hv'
      subst hv hv'
      rw [hg] at hg'
      injection hg' with hg'
      injection hg' with _ hg'
      exact hne hg'
theorem own_apart_one {w : World} {b s n a : Nat} {e e' : TypeId} {v u : Value} {xs : List Value} (h : w.ownsRow b e s v n xs) (h' : w.heap[a]? = some (.cells #[u] e' (0, 0))) (hne : e ≠ e') : v.ownBlock ≠ some a := by
  intro hv
  rcases h.2 with ⟨rfl, _⟩ | ⟨g1, cap, cur, rfl, _, hg, _⟩
  · cases hv
  · simp only [Value.ownBlock, Option.some.injEq] at hv
    subst hv
    rw [hg] at h'
    injection h' with h'
    injection h' with _ h'
    exact hne h'

/-! ### A net -/
structure Pk where
  f : Int
  t : Int
  b : List UInt8
instance : Inhabited Pk := ⟨⟨0, 0, []⟩⟩
structure PkV where
  f : Int
  t : Int
  v : Value
def PkV.cells (x : PkV) : List Value := [.int .i64 x.f, .int .i64 x.t, x.v]
theorem PkV.cells_length (x : PkV) : x.cells.length = 3 := rfl
def pkCells (l : List PkV) : List Value := l.flatMap PkV.cells
def nodeL (k : Int) : Bool := decide (1 ≤ k) && decide (k ≤ 5)
def mayL (n : Nat) (p : Pk) : Bool := decide (n < 200) && nodeL p.f && nodeL p.t && decide (p.f ≠ p.t) && decide (p.b.length ≤ 131072)
/-- The packet's bytes are a row of somebody's own. -/
structure PkIs (w : World) (x : PkV) (p : Pk) : Prop where
  f : x.f = p.f
  t : x.t = p.t
  own : w.ownsRow 0 5 1 x.v p.b.length (bc p.b)
structure NetAt (B : Nat) (w : World) (a : Nat) (v : Value) (vs : List PkV) (ps : List Pk) : Prop where
  lo : B ≤ a
  cell : w.heap[a]? = some (.cells #[v] 27 (0, 0))
  row : w.ownsRow B 31 3 v ps.length (pkCells vs)
  len : vs.length = ps.length
  pks : ∀ (i : Nat) (x : PkV) (p : Pk), vs[i]? = some x → ps[i]? = some p → PkIs w x p
/-- What a net's call may turn of what there was. -/
def foot (a : Nat) (v : Value) (k : Nat) : Prop := k = a ∨ v.ownBlock = some k
theorem NetAt.keep {B : Nat} {w w1 : World} {S : Nat → Prop} {a : Nat} {v : Value} {vs : List PkV} {ps : List Pk} (h : NetAt B w a v vs ps) (hk : Kept S w w1)
    (ha : ¬ S a) (hv : ∀ g, v.ownBlock = some g → ¬ S g) (hb : ∀ g c, w.heap[g]? = some (.cells c 5 (0, 0)) → ¬ S g) : NetAt B w1 a v vs ps := by
  refine ⟨h.lo, ?_, hk.own h.row hv, h.len, fun i x p h1 h2 => ?_⟩
  · rw [hk.block a (Array.getElem?_eq_some_iff.1 h.cell).1 ha]; exact h.cell
  · obtain ⟨g1, g2, g3⟩ := h.pks i x p h1 h2
    refine ⟨g1, g2, hk.own g3 (fun g hg => ?_)⟩
    rcases g3.2 with ⟨e, _⟩ | ⟨g', cap, cur, e, _, hh, _⟩
    · rw [e] at hg; cases hg
    · rw [e] at hg
      simp only [Value.ownBlock, Option.some.injEq] at hg
      subst hg
      exact hb _ _ hh
theorem NetAt.grow {B : Nat} {w w1 : World} {a : Nat} {v : Value} {vs : List PkV} {ps : List Pk} (h : NetAt B w a v vs ps) (hb : Below w.heap.size w w1) : NetAt B w1 a v vs ps :=
  h.keep (S := fun _ => False) (.of_below hb) id (fun _ _ => id) (fun _ _ _ => id)
theorem NetAt.lt {B : Nat} {w : World} {a : Nat} {v : Value} {vs : List PkV} {ps : List Pk} (h : NetAt B w a v vs ps) : a < w.heap.size := (Array.getElem?_eq_some_iff.1 h.cell).1

set_option maxRecDepth 100000 in
theorem node_any (w : World) (k : Int) : Calls Try.prog 31 #[.int .i64 k] w fun e w' => e = .returned (.bool (nodeL k)) ∧ w = w' := by
  by_cases h1 : 1 ≤ k
  · by_cases h2 : k ≤ 5
    all_goals
      have HE := Lib.hid (show nodeL k = decide (k ≤ 5) by simp [nodeL, h1])
      go_enter Try.func31, Try.ntmps31
      go_wp2
      go_ret
      exact ⟨ret_bool (by rw [HE.out]; simp [h2]), rfl⟩
  · have h1d : decide (1 ≤ k) = false := by simpa using h1
    have HE := Lib.hid (show nodeL k = false by simp [nodeL, h1])
    go_enter Try.func31, Try.ntmps31
    go_wp2
    go_ret
    exact ⟨ret_bool HE.out.symm, rfl⟩

set_option maxRecDepth 100000 in
theorem all_any (w : World) (a : Nat) (v : Value) (hc : w.cell? ⟨a, 0, none⟩ = some v) : Calls Try.prog 28 #[.pointer (some ⟨a, 0, none⟩)] w fun e w' => e = .returned v ∧ w = w' := by
  go_enter Try.func28, Try.ntmps28
  go_wp2
  go_ret
  exact ⟨rfl, rfl⟩
set_option maxRecDepth 100000 in
theorem all_nil (w : World) : Calls Try.prog 28 #[.pointer none] w fun e w' => e = .returned (.slice none 0 0) ∧ w = w' := by
  go_enter Try.func28, Try.ntmps28
  go_wp2
  go_ret
  exact ⟨rfl, rfl⟩
set_option maxRecDepth 100000 in
theorem len_any (w : World) (a : Nat) (A : Option Addr) (n c : Nat) (hn : n ≤ maxLen) (hc : w.cell? ⟨a, 0, none⟩ = some (.slice A n c)) : Calls Try.prog 12 #[.pointer (some ⟨a, 0, none⟩)] w fun e w' => e = .returned (.int .i64 n) ∧ w = w' := by
  unfold maxLen at hn
  have HA := Lib.hid (all_any w a _ hc)
  go_enter Try.func12, Try.ntmps12
  go_wp2_with (go_at_call 28; ((with_reducible refine HA.out.mono ?_); rintro e w' ⟨rfl, rfl⟩))
  go_ret
  exact ⟨rfl, rfl⟩
set_option maxRecDepth 100000 in
theorem len_nil (w : World) : Calls Try.prog 12 #[.pointer none] w fun e w' => e = .returned (.int .i64 0) ∧ w = w' := by
  go_enter Try.func12, Try.ntmps12
  go_wp2_with (go_at_call 28; ((with_reducible refine (all_nil w).mono ?_); rintro e w' ⟨rfl, rfl⟩))
  go_ret
  exact ⟨rfl, rfl⟩
end Go.Proofs.Ytlgkgmnnmlhaeaa
