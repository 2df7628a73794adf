import Derived.Test.YtlgkgmnnmlhaeaaNet2
namespace Go.Proofs.Ytlgkgmnnmlhaeaa
open Go.RowKit
set_option linter.unusedVariables false

/-- A struct is read at an address. -/
theorem run_loadVar_at {P : Program} (w : World) (a : Addr) (ty : TypeId) (cs : List Value) (d : TypeDesc) (hc : ∀ j v, cs[j]? = some v → w.cell? (a.add j) = some v)
    (hu : P.underlying ty = some d) (hd : d.isRow = true) (hi : (P.info? ty).map (·.size) = some cs.length) :
    (loadVar ty a).run P w = .ok (.agg cs.toArray) w := by
  have hl : (loadCells a cs.length).run P w = .ok cs.toArray w := run_loadCells_list (P := P) w a cs hc
  cases hq : P.info? ty with
  | none => simp [hq] at hi
  | some i =>
    have hs : i.size = cs.length := by simpa [hq] using hi
    have hagg : (isAgg ty).run P w = .ok true w := by
      unfold isAgg
      rw [Sem.run_bind, run_underlying hu w]
      cases d <;> simp_all
    simp [loadVar, Sem.run_bind, hagg, sizeOf, typeInfo, hq, hs, hl]
theorem wpList_load_at {P : Program} {ops : Array Oper} {rest : List Oper} {op : Oper} {a : Act} {w : World} {Q : Exit → Act → World → Prop} (hgd : op.guard = none) (ty : TypeId) (x : Operand) (ho : op.op = .load ty x)
    (ad : Addr) (hx : a.eval x = .pointer (some ad)) (cs : List Value) (d : TypeDesc) (hc : ∀ j v, cs[j]? = some v → w.cell? (ad.add j) = some v)
    (hu : P.underlying ty = some d) (hd : d.isRow = true) (hi : (P.info? ty).map (·.size) = some cs.length)
    (h : wpList P ops Q rest (a.put op.dst (.agg cs.toArray)) w) : wpList P ops Q (op :: rest) a w :=
  wpList_plain hgd fun K hK => by
    unfold Oper.wp execOp
    simp only [ho, hx, Instr.loadAt, Instr.sureAddr, Sem.run_bind, Sem.run_pure, Result.andThen_ok, run_loadVar_at w ad ty cs d hc hu hd hi]
    exact hK _ _ h
theorem quiet_load_at {P : Program} {C : World → Prop} {a : Act} {o : Oper} {K : Act → Prop} (ty : TypeId) (x : Operand) (ho : o.op = .load ty x) (ad : Addr) (hx : a.eval x = .pointer (some ad)) (cs : List Value) (d : TypeDesc)
    (hc : ∀ w, C w → ∀ j v, cs[j]? = some v → w.cell? (ad.add j) = some v) (hu : P.underlying ty = some d) (hd : d.isRow = true) (hi : (P.info? ty).map (·.size) = some cs.length)
    (hk : K (a.put o.dst (.agg cs.toArray))) : o.quiet P a C K :=
  ⟨_, fun w hw => by
    unfold Oper.quietAt execOp
    simp only [ho, hx, Instr.loadAt, Instr.sureAddr, Sem.run_bind, Sem.run_pure, Result.andThen_ok, run_loadVar_at w ad ty cs d (hc w hw) hu hd hi]
    exact ⟨rfl, rfl⟩, hk⟩
theorem Try.infoPk : (Try.prog.info? 31).map (fun i => (i.zero, i.size, i.bytes)) = some (some (.agg #[.int .i64 0, .int .i64 0, .slice none 0 0]), 3, 40) := by kernel_rfl
/-- .. and where the row lies behind it: where it lay, or in a new block. -/
theorem append_own_more {P : Program} (w : World) (t ty : TypeId) (base : Nat) (e : TypeId) (i : TypeInfo) (z : Value) (size bytes : Nat) (ht : P.underlying t = some (.slice e)) (hi : P.info? e = some i) (hz : i.zero = some z)
    (hsize : i.size = size) (hby : i.bytes = bytes) (hzs : z.cells.size = size) (hsz : 0 < size)
    (v : Value) (n : Nat) (xs : List Value) (hown : w.ownsRow base e size v n xs)
    (ad : Addr) (m c : Nat) (news : List Value) (hl : news.length = m * size) (hc : ∀ j u, news[j]? = some u → w.cell? (ad.add j) = some u) (h1 : ∀ u ∈ news, u.oneCell' = true)
    (h63 : n + m ≤ maxLen) (hbytes : (n + m) * bytes ≤ 140737488355328) (hbase : base ≤ w.heap.size) :
    ∃ v' w', (Builtin.append_ #[t, t] ty #[v, .slice (some ad) m c]).run P w = .ok v' w' ∧ w'.ownsRow base e size v' (n + m) (xs ++ news) ∧ w.grownBy w' v.ownBlock ∧ ∀ g, v'.ownBlock = some g → v.ownBlock = some g ∨ w.heap.size ≤ g := by
  obtain ⟨v', w', hrun, h2, h3, _⟩ := run_append_own (P := P) w base t ty e i z size bytes ht hi hz hsize hby hzs hsz v n xs hown ad m c news hl hc h1 h63 hbytes hbase
  refine ⟨v', w', hrun, h2, h3, fun g' hg' => ?_⟩
  rcases hown.2 with ⟨hv, hn⟩ | ⟨g, cap, cur, hv, hB, hg, hnc, hmx, hs, htk⟩
  · subst hv hn
    have hx : xs = [] := List.eq_nil_of_length_eq_zero (by simpa using hown.1)
    subst hx
    obtain ⟨v2, w2, hrun2, g2, _, _⟩ := run_append_own (P := P) w w.heap.size t ty e i z size bytes ht hi hz hsize hby hzs hsz (.slice none 0 0) 0 [] (World.ownsRow_nil _ _ _ _) ad m c news hl hc h1 h63 hbytes (Nat.le_refl _)
    rw [hrun] at hrun2
    injection hrun2 with e1 e2
    subst e1 e2
    exact .inr (g2.lt _ hg').1
  · subst hv
    by_cases hroom : n + m ≤ cap
    · have hcell : ∀ j, j < cap * size → (w.cell? ⟨g, j, none⟩).isSome = true ∧ w.frozen? ⟨g, j, none⟩ = false := fun j hj => by
        refine ⟨?_, hown.frozenAt _⟩
        rw [cell_of_row w g j cur e (0, 0) hg]
        simp [hs, hj]
      have hmul : n * size + m * size ≤ cap * size := by rw [← Nat.add_mul]; exact Nat.mul_le_mul_right _ hroom
      have hrun2 := run_append_room_cells (P := P) w t ty e i ht hi g 0 n cap ad m c news (by rw [hsize]; exact hl) hc h1 hroom (fun j hj => by rw [hsize]; exact (hcell _ (by omega)).1) (fun j hj => by rw [hsize]; exact (hcell _ (by omega)).2)
      rw [hrun] at hrun2
      injection hrun2 with e1 e2
      subst e1
      exact .inl hg'
    · obtain ⟨v2, w2, hrun2, g2, _⟩ := run_append_arg_grows (P := P) w t ty e i z size bytes ht hi hz hsize hby hzs hsz ⟨g, 0, none⟩ n cap xs hown.1 (hown.cells (g := g) rfl) ad m c news hl hc (by omega) h63 hbytes
      rw [hrun] at hrun2
      injection hrun2 with e1 e2
      subst e1 e2
      exact .inr (g2.lt _ hg').1
/-- append onto a row of the call's own, in a region that draws its order: that row and new blocks alone turn. -/
theorem step_append_grow {P : Program} (w : World) {ops : Array Oper} {o : Oper} {a : Act} {K : Act → World → Prop} {Q : Exit → Act → World → Prop} {E : Prop} (hgd : o.guard = none) (s x : Operand) (t : TypeId)
    (ho : o.op = .call { callee := .builtin .append, args := #[s, x], argTypes := #[t, t] })
    (base : Nat) (e : TypeId) (i : TypeInfo) (z : Value) (size bytes : Nat) (ht : P.underlying t = some (.slice e)) (hi : P.info? e = some i) (hz : i.zero = some z)
    (hsize : i.size = size) (hby : i.bytes = bytes) (hzs : z.cells.size = size) (hsz : 0 < size)
    (v : Value) (n : Nat) (xs : List Value) (hs : a.eval s = v) (hown : w.ownsRow base e size v n xs)
    (ad : Addr) (B m c : Nat) (news : List Value) (hx : a.eval x = .slice (some ad) m c) (hr : Reads w B size (some ad) m news) (hm : 0 < m) (h1 : ∀ u ∈ news, u.oneCell' = true)
    (h63 : n + m ≤ maxLen) (hbytes : (n + m) * bytes ≤ 140737488355328) (hbase : base ≤ w.heap.size)
    (h : ∀ v' w', w'.ownsRow base e size v' (n + m) (xs ++ news) → w.grownBy w' v.ownBlock → (∀ g, v'.ownBlock = some g → v.ownBlock = some g ∨ w.heap.size ≤ g) → K (a.put o.dst v') w') :
    if Region.wanted o (yielded ops a.tmps) = true then Oper.wp P o a w K Q else E := by
  have hw : Region.wanted o (yielded ops a.tmps) = true := by simp [Region.wanted, hgd]
  rw [if_pos hw]
  obtain ⟨ad', e', _, hc⟩ := hr.2 hm
  injection e' with e'
  subst e'
  obtain ⟨v', w', hrun, h2, h3, h4⟩ := append_own_more (P := P) w t o.type base e i z size bytes ht hi hz hsize hby hzs hsz v n xs hown ad m c news hr.1 hc h1 h63 hbytes hbase
  unfold Oper.wp execOp
  simp only [ho, resolve, invoke, builtin, Sem.run_bind, Sem.run_pure, Result.andThen_ok, List.map_toArray, List.map_cons, List.map_nil, hs, hx, hrun]
  exact h v' w' h2 h3 h4
theorem step_app_pk (w : World) {ops : Array Oper} {o : Oper} {a : Act} {K : Act → World → Prop} {Q : Exit → Act → World → Prop} {E : Prop} (hgd : o.guard = none) (s x : Operand)
    (ho : o.op = .call { callee := .builtin .append, args := #[s, x], argTypes := #[25, 25] })
    (base : Nat) (v : Value) (n : Nat) (xs : List Value) (hs : a.eval s = v) (hown : w.ownsRow base 31 3 v n xs)
    (ad : Addr) (B m c : Nat) (news : List Value) (hx : a.eval x = .slice (some ad) m c) (hr : Reads w B 3 (some ad) m news) (hm : 0 < m) (h1 : ∀ u ∈ news, u.oneCell' = true)
    (hn : n + m ≤ 100000) (hbase : base ≤ w.heap.size)
    (h : ∀ v' w', w'.ownsRow base 31 3 v' (n + m) (xs ++ news) → w.grownBy w' v.ownBlock → (∀ g, v'.ownBlock = some g → v.ownBlock = some g ∨ w.heap.size ≤ g) → K (a.put o.dst v') w') :
    if Region.wanted o (yielded ops a.tmps) = true then Oper.wp Try.prog o a w K Q else E := by
  obtain ⟨i0, hi, hz0, hz1, hz2⟩ := info_parts Try.infoPk
  exact step_append_grow w hgd s x _ ho base _ i0 _ 3 40 Try.underlying25 hi hz0 hz1 hz2 rfl (by omega) v n xs hs hown ad B m c news hx hr hm h1 (by simp only [maxLen]; omega) (by omega) hbase h

def sendL : List Pk → List Pk → List Pk
  | ps, [] => ps
  | ps, q :: qs => if mayL ps.length q then sendL (ps ++ [q]) qs else sendL ps qs
theorem sendL_app (l2 : List Pk) : ∀ (l1 ps : List Pk), sendL ps (l1 ++ l2) = sendL (sendL ps l1) l2
  | [], _ => rfl
  | q :: l1, ps => by
    rw [List.cons_append, sendL, sendL]
    split <;> exact sendL_app l2 l1 _
theorem sendL_succ {ps qs : List Pk} {k : Nat} {q : Pk} (h : qs[k]? = some q) : sendL ps (qs.take (k + 1)) = if mayL (sendL ps (qs.take k)).length q then sendL ps (qs.take k) ++ [q] else sendL ps (qs.take k) := by
  rw [List.take_add_one, h, Option.toList, sendL_app, sendL]
  split <;> rfl
theorem sendL_len : ∀ (qs ps : List Pk), ps.length ≤ (sendL ps qs).length ∧ (sendL ps qs).length ≤ ps.length + qs.length ∧ (ps.length ≤ 200 → (sendL ps qs).length ≤ 200)
  | [], ps => ⟨Nat.le_refl _, by simp [sendL], id⟩
  | q :: qs, ps => by
    rw [sendL]
    split
    · rename_i h
      have := sendL_len qs (ps ++ [q])
      simp only [List.length_append, List.length_cons, List.length_nil] at this ⊢
      refine ⟨by omega, by omega, fun _ => this.2.2 ?_⟩
      simp [mayL] at h; omega
    · have := sendL_len qs ps
      simp only [List.length_cons]
      exact ⟨by omega, by omega, this.2.2⟩

/-- A packet that is handed in. -/
def PkArg (w : World) (B : Nat) (x : PkV) (q : Pk) : Prop := x.f = q.f ∧ x.t = q.t ∧ ∃ A c, x.v = .slice A q.b.length c ∧ q.b.length ≤ 9223372036854775807 ∧ Reads w B 1 A q.b.length (bc q.b)
theorem NetAt.old {B : Nat} {w w1 : World} {a : Nat} {v : Value} {vs : List PkV} {ps : List Pk} (h : NetAt B w a v vs ps) (hk : Kept (foot a v) w w1) {i : Nat} {x : PkV} {p : Pk} (h1 : vs[i]? = some x) (h2 : ps[i]? = some p) : PkIs w1 x p := by
  obtain ⟨g1, g2, g3⟩ := h.pks i x p h1 h2
  refine ⟨g1, g2, hk.own g3 (fun g hg hf => ?_)⟩
  rcases hf with rfl | hf
  · exact own_apart_one g3 h.cell (by decide) hg
  · exact own_apart g3 h.row (by decide) hg hf
theorem NetAt.push {B : Nat} {w2 w3 w5 : World} {a : Nat} {v v5 u : Value} {vs : List PkV} {ps : List Pk} {q : Pk} {o : Obj} (hN : NetAt B w2 a v vs ps) (hb : Below w2.heap.size w2 w3) {f t : Int}
    (ho : w3.ownsRow w2.heap.size 5 1 u q.b.length (bc q.b)) (hf : f = q.f) (ht : t = q.t) (hg : (w3.alloc o).grownBy w5 v.ownBlock) (ho5 : w5.ownsRow B 31 3 v5 (ps.length + 1) (pkCells vs ++ [.int .i64 f, .int .i64 t, u])) :
    NetAt B (w5.setCell ⟨a, 0, none⟩ v5) a v5 (vs ++ [⟨f, t, u⟩]) (ps ++ [q]) ∧ Kept (foot a v) w2 (w5.setCell ⟨a, 0, none⟩ v5) := by
  have hlt := hN.lt
  have hsz := hb.size
  have hne : some a ≠ v.ownBlock := fun e => own_apart_one hN.row hN.cell (by decide) e.symm
  have c3 : w3.heap[a]? = some (.cells #[v] 27 (0, 0)) := (hb.block a hlt).trans hN.cell
  have r3 : w3.ownsRow B 31 3 v ps.length (pkCells vs) := own_below hN.row hb (Nat.le_refl _)
  have c5 : w5.heap[a]? = some (.cells #[v] 27 (0, 0)) := (hg.block a (by rw [alloc_size]; omega) hne).trans ((Below.heap_alloc w3 o a (by omega)).trans c3)
  have K3 : Kept (foot a v) w3 (w5.setCell ⟨a, 0, none⟩ v5) := by
    have k1 : Kept (foot a v) w3 (w3.alloc o) := (Kept.refl _ _).alloc o
    have k2 : Kept (foot a v) (w3.alloc o) w5 := Kept.of_grown hg (fun b e => .inr e.symm)
    exact (k1.trans k2 (fun b _ h => h)).setCell (fun _ => .inl rfl) _
  have K2 : Kept (foot a v) w2 (w5.setCell ⟨a, 0, none⟩ v5) := (Kept.of_below hb : Kept (foot a v) w2 w3).trans K3 (fun b _ h => h)
  refine ⟨⟨hN.lo, one_setCell c5, ?_, by simp [hN.len], ?_⟩, K2⟩
  · have := ownsRow_setCell_other ho5 (a := ⟨a, 0, none⟩) (own_apart_one ho5 c5 (by decide)) v5
    simpa [pkCells, PkV.cells] using this
  · intro i x p h1 h2
    by_cases hi : i < ps.length
    · rw [List.getElem?_append_left (by rw [hN.len]; exact hi)] at h1
      rw [List.getElem?_append_left hi] at h2
      exact hN.old K2 h1 h2
    · rw [List.getElem?_append_right (by rw [hN.len]; omega), hN.len] at h1
      rw [List.getElem?_append_right (by omega)] at h2
      have hi0 : i - ps.length = 0 := by have := (List.getElem?_eq_some_iff.1 h2).1; simp at this; omega
      rw [hi0] at h1 h2
      simp at h1 h2
      subst h1 h2
      refine ⟨hf, ht, K3.own (own_moreN ho (Nat.zero_le _)) (fun g hg' hf' => ?_)⟩
      rcases hf' with rfl | hf'
      · exact own_apart_one ho c3 (by decide) hg'
      · exact own_apart ho r3 (by decide) hg' hf'
/-- The net behind a call: some row, what there is. -/
def NetNow (B : Nat) (w : World) (a : Nat) (v : Value) (ps : List Pk) (w' : World) : Prop :=
  ∃ v' vs', NetAt B w' a v' vs' ps ∧ Kept (foot a v) w w' ∧ ∀ g, v'.ownBlock = some g → v.ownBlock = some g ∨ w.heap.size ≤ g

/-- .. and what is new in it is fresh. -/
def NetNowF (B : Nat) (w : World) (a : Nat) (v : Value) (vs : List PkV) (ps : List Pk) (w' : World) : Prop :=
  ∃ v' vs', NetAt B w' a v' vs' ps ∧ Kept (foot a v) w w' ∧ (∀ g, v'.ownBlock = some g → v.ownBlock = some g ∨ w.heap.size ≤ g) ∧ ∀ x ∈ vs', x ∈ vs ∨ ∀ g, x.v.ownBlock = some g → w.heap.size ≤ g

section
variable (B : Nat) (w : World) (a : Nat) (v : Value) (vs : List PkV) (ps : List Pk) (hN : NetAt B w a v vs ps) (hB : B ≤ w.heap.size) (hps : ps.length ≤ 200)
include hN hB hps

set_option maxRecDepth 100000 in
set_option maxHeartbeats 8000000 in
theorem send_fresh (A : Option Addr) (m c : Nat) (us : List PkV) (qs : List Pk) (hA : ∀ W, Kept (foot a v) w W → Reads W w.heap.size 3 A m (pkCells us) ∧ ∀ (i : Nat) (x : PkV) (q : Pk), us[i]? = some x → qs[i]? = some q → PkArg W w.heap.size x q) (hus : us.length = m) (hqs : qs.length = m) (hm : m ≤ 1000) :
    Calls Try.prog 9 #[.pointer (some ⟨a, 0, none⟩), .slice A m c] w fun e w' => e = .returned (.int .i64 (((sendL ps qs).length - ps.length : Nat) : Int)) ∧ NetNowF B w a v vs (sendL ps qs) w' := by
  have HA := Lib.hid hA
  have HUS := Lib.hid hus
  have HQS := Lib.hid hqs
  have HN := Lib.hid hN
  clear hA hus hqs hN
  go_enter Try.func9, Try.ntmps9
  go_wp2
  go_loopw [4, 9] (fun s k wr => ∃ (j : Nat) (st : Nat) (v' : Value) (vs' : List PkV) (ps' : List Pk), j ≤ m ∧ s = .int .i64 st ∧ k = .int .i64 j ∧ st ≤ 200 ∧ Hid (ps' = sendL ps (qs.take j)) ∧ Hid (ps'.length = ps.length + st) ∧ Hid (NetAt B wr a v' vs' ps') ∧ Hid (Kept (foot a v) w wr) ∧ Hid (∀ g, v'.ownBlock = some g → v.ownBlock = some g ∨ w.heap.size ≤ g) ∧ Hid (∀ x ∈ vs', x ∈ vs ∨ ∀ g, x.v.ownBlock = some g → w.heap.size ≤ g)) (fun _ k _ => m - (intOf k).toNat)
  case atStart => exact ⟨0, 0, v, vs, ps, Nat.zero_le _, rfl, rfl, Nat.zero_le _, Lib.hid rfl, Lib.hid rfl, HN, Lib.hid (Kept.refl _ _), Lib.hid (fun _ h => .inl h), Lib.hid fun _ h => .inl h⟩
  case round =>
    obtain ⟨j, st, v', vs', ps', hj, rfl, rfl, hst, HPS, HST, HNW, HKW, HGW, HFW⟩ := hrel
    by_cases hlt : j < m
    · have hN200 : ps'.length ≤ 200 := by rw [HPS.out]; exact (sendL_len _ _).2.2 hps
      obtain ⟨u, hu⟩ : ∃ u, us[j]? = some u := ⟨_, List.getElem?_eq_getElem (by have := HUS.out; omega)⟩
      obtain ⟨q, hq⟩ : ∃ q, qs[j]? = some q := ⟨_, List.getElem?_eq_getElem (by have := HQS.out; omega)⟩
      obtain ⟨hrA, hpk⟩ := HA.out wr HKW.out
      obtain ⟨hf, ht, Ab, cb, hv, hbl, hrb⟩ := hpk j u q hu hq
      obtain ⟨ad, rfl, hab, huc⟩ := flat_reads PkV.cells_length hrA hu hlt
      have HSU := Lib.hid (sendL_succ (ps := ps) hq)
      obtain ⟨f, t, bv⟩ := u
      obtain ⟨qf, qt, qb⟩ := q
      simp only at hf ht hv hbl hrb
      subst hf ht hv
      have HUC := Lib.hid huc
      have HRB := Lib.hid hrb
      clear hrA hpk huc hrb hu hq
      obtain ⟨Av, cv, hv, hvc, hvm, _⟩ := Owns.form (Or.inl HNW.out.row)
      subst hv
      have HVC := Lib.hid hvc
      clear hvc
      obtain ⟨r, HR⟩ : ∃ r, Hid (mayL ps'.length ⟨f, t, qb⟩ = r) := ⟨_, Lib.hid rfl⟩
      go_upto_region 4 with (refine wpList_load_at rfl 31 _ rfl _ rfl [.int .i64 f, .int .i64 t, .slice Ab qb.length cb] _ HUC.out Try.underlying31 rfl (by kernel_rfl) ?_)
      have HW1 : Hid (NetAt B (wr.alloc (.cells #[.int .i64 f, .int .i64 t, .slice Ab qb.length cb] 31)) a (.slice Av ps'.length cv) vs' ps' ∧ Below wr.heap.size wr (wr.alloc (.cells #[.int .i64 f, .int .i64 t, .slice Ab qb.length cb] 31)) ∧ (wr.alloc (.cells #[.int .i64 f, .int .i64 t, .slice Ab qb.length cb] 31)).rangeAt wr.heap.size 0 [.int .i64 f, .int .i64 t, .slice Ab qb.length cb] ∧ wr.heap.size < (wr.alloc (.cells #[.int .i64 f, .int .i64 t, .slice Ab qb.length cb] 31)).heap.size ∧ Kept (foot a v) w (wr.alloc (.cells #[.int .i64 f, .int .i64 t, .slice Ab qb.length cb] 31))) :=
        Lib.hid ⟨HNW.out.grow ((Below.refl _ _).alloc (Nat.le_refl _) _), (Below.refl _ _).alloc (Nat.le_refl _) _, range_new wr [.int .i64 f, .int .i64 t, .slice Ab qb.length cb] _, by rw [alloc_size]; omega, HKW.out.alloc _⟩
      have HRB1 : Hid (Reads (wr.alloc (.cells #[.int .i64 f, .int .i64 t, .slice Ab qb.length cb] 31)) w.heap.size 1 Ab qb.length (bc qb)) := Lib.hid (HRB.out.alloc HKW.out.size _)
      clear HUC HRB
      generalize (wr.alloc (.cells #[.int .i64 f, .int .i64 t, .slice Ab qb.length cb] 31)) = W1 at *
      have HB6 : Hid (a < wr.heap.size) := Lib.hid HNW.out.lt
      have HWR : Hid (w.heap.size ≤ wr.heap.size) := Lib.hid HKW.out.size
      generalize wr.heap.size = b6 at *
      have HMAY : Hid (Calls Try.prog 25 #[.pointer (some ⟨a, 0, none⟩), .agg #[.int .i64 f, .int .i64 t, .slice Ab qb.length cb]] W1 fun e w' => e = .returned (.bool r) ∧ Below W1.heap.size W1 w') := Lib.hid (by
        rw [← HR.out]
        exact may_any W1 a Av ps'.length cv (by simp [maxLen]; omega) HW1.out.1.lt (cell_of_one HW1.out.1.cell) f t Ab qb.length cb (by simp [maxLen]; omega) qb rfl)
      cases r
      · go_wp2_with (first
          | (refine wpList_load_mid rfl 31 _ rfl b6 0 rfl [.int .i64 f, .int .i64 t, .slice Ab qb.length cb] _ HW1.out.2.2.1 Try.underlying31 rfl (by kernel_rfl) ?_)
          | (go_at_call 25; ((with_reducible refine HMAY.out.mono ?_); rintro e w2 ⟨rfl, hb2⟩)))
        go_roundw
        case rel =>
          have hps2 := HSU.out
          rw [← HPS.out, HR.out] at hps2
          refine ⟨j + 1, st, _, vs', ps', by omega, rfl, by go_num, hst, Lib.hid ?_, HST, Lib.hid (HW1.out.1.grow hb2), Lib.hid ?_, HGW, HFW⟩
          · rw [hps2]; rfl
          · exact HW1.out.2.2.2.2.trans (Kept.of_below hb2 : Kept (fun _ => False) _ _) (fun _ _ h => h.elim)
        case measure => simp [intOf]; omega
      · go_upto_region 5 with (first
          | (refine wpList_load_mid rfl 31 _ rfl b6 0 rfl [.int .i64 f, .int .i64 t, .slice Ab qb.length cb] _ HW1.out.2.2.1 Try.underlying31 rfl (by kernel_rfl) ?_)
          | (go_at_call 25; ((with_reducible refine HMAY.out.mono ?_); rintro e w2 ⟨rfl, hb2⟩)))
        have HNd : Hid (NetAt B w2.drew a (.slice Av ps'.length cv) vs' ps') := Lib.hid ((HW1.out.1.grow hb2).keep (S := fun _ => False) ((Kept.refl _ _).drew) id (fun _ _ => id) (fun _ _ _ => id))
        have HKd : Hid (Kept (foot a v) w w2.drew) := Lib.hid ((HW1.out.2.2.2.2.trans (Kept.of_below hb2 : Kept (fun _ => False) _ _) (fun _ _ h => h.elim)).drew)
        have HRd : Hid (Reads w2.drew w.heap.size 1 Ab qb.length (bc qb)) := Lib.hid (HRB1.out.keep fun p hp => hb2.cell (by have := HW1.out.2.2.2.2.size; omega))
        have HCP : Hid (Calls Try.prog 26 #[.agg #[.int .i64 f, .int .i64 t, .slice Ab qb.length cb]] w2.drew (RetPk w2.drew f t qb)) := Lib.hid (copied_any w2.drew f t Ab qb.length cb w.heap.size qb HRd.out HKd.out.size (by have := HR.out; simp [mayL] at this; omega))
        have xr := range_below_at HW1.out.2.2.1 hb2 HW1.out.2.2.2.1
        have x0 : w2.cell? ⟨b6, 0, none⟩ = some (.int .i64 f) := xr 0 _ rfl
        have x1 : w2.cell? ⟨b6, 1, none⟩ = some (.int .i64 t) := xr 1 _ rfl
        have x2 : w2.cell? ⟨b6, 2, none⟩ = some (.slice Ab qb.length cb) := xr 2 _ rfl
        have ca : w2.cell? ⟨a, 0, none⟩ = some (.slice Av ps'.length cv) := cell_of_one HNd.out.cell
        have fa : w2.frozen? ⟨a, 0, none⟩ = false := free_of_one HNd.out.cell
        have hne : some a ≠ (Value.slice Av ps'.length cv).ownBlock := fun e => own_apart_one HNd.out.row HNd.out.cell (by decide) e.symm
        have HNE := Lib.hid hne
        have hald : a < w2.heap.size := HNd.out.lt
        have hBd : B ≤ w2.heap.size := by have := HKd.out.size; have : w2.drew.heap.size = w2.heap.size := rfl; omega
        clear xr hb2 hne
        go_region_law (first
          | (refine step_app_pk _ rfl (.tmp 20) (.tmp 23) rfl B _ ps'.length (pkCells vs') rfl (HR4.out.kept (World.grownBy_alloc w3 _ none) (by cases (Value.slice Av ps'.length cv).ownBlock <;> simp)) _ _ 1 _ [.int .i64 f, .int .i64 t, .slice A4 qb.length c4] rfl (reads_newS w3 [.int .i64 f, .int .i64 t, .slice A4 qb.length c4] _ 3 1 rfl) (by omega) (by intro u hu; simp at hu; rcases hu with rfl | rfl | rfl <;> rfl) (by omega) (by rw [alloc_size]; have := HB4.out.size; have : w2.drew.heap.size = w2.heap.size := rfl; omega) ?_; intro v2 w5 ho5 hg5 hgr5; have HGR5 := Lib.hid hgr5; obtain ⟨A5, c5, rfl, hc5, hm5, _⟩ := Owns.form (Or.inl ho5); have HO5 := Lib.hid ho5; have HG5 := Lib.hid hg5; have ca5 : w5.cell? ⟨a, 0, none⟩ = some (.slice Av ps'.length cv) := hg5.cell (a := ⟨a, 0, none⟩) (((World.cell?_alloc_lt _ _ _ hal3).trans ca3)) HNE.out; have fa5 : w5.frozen? ⟨a, 0, none⟩ = false := (World.frozen?_of_block (a := ⟨a, 0, none⟩) (hg5.block a (by rw [alloc_size]; omega) HNE.out)).trans ((World.frozen?_alloc_past _ _ _ hal3).trans fa3); clear ho5 hg5 hc5 hgr5)
          | (go_simp; go_at_call 26; ((with_reducible refine HCP.out.mono ?_); rintro e w3 ⟨A4, c4, rfl, ho4, hc4, hm4, hb4⟩; have HO4 := Lib.hid ho4; have HB4 := Lib.hid hb4; have HR4 : Hid (w3.ownsRow B 31 3 (.slice Av ps'.length cv) ps'.length (pkCells vs')) := Lib.hid (own_below HNd.out.row hb4 (Nat.le_refl _)); have ca3 : w3.cell? ⟨a, 0, none⟩ = some (.slice Av ps'.length cv) := (hb4.cell (p := ⟨a, 0, none⟩) hald).trans ca; have fa3 : w3.frozen? ⟨a, 0, none⟩ = false := (hb4.frozen (p := ⟨a, 0, none⟩) hald).trans fa; have hal3 : a < w3.heap.size := (by have := hb4.size; have : w2.drew.heap.size = w2.heap.size := rfl; omega); clear ho4 hb4 hc4)))
        all_goals go_wp2
        all_goals go_roundw
        case rel =>
          have hmay : ps'.length < 200 := by have := HR.out; simp [mayL] at this; omega
          have hst' := HST.out
          obtain ⟨P1, P2⟩ := NetAt.push (q := ⟨f, t, qb⟩) HNd.out HB4.out HO4.out rfl rfl HG5.out HO5.out
          have hps2 := HSU.out
          rw [← HPS.out, HR.out, if_pos rfl] at hps2
          exact ⟨j + 1, st + 1, _, _, ps' ++ [⟨f, t, qb⟩], by omega, by go_num, by go_num, by omega, Lib.hid hps2.symm, Lib.hid (by simp; omega), Lib.hid P1, Lib.hid (HKd.out.trans P2 (fun b hb h => h.elim .inl (fun h => (HGW.out b h).elim .inr (fun h => by omega)))), Lib.hid (fun g hg => by
            have hsz := HKd.out.size
            have hsz4 := HB4.out.size
            rcases HGR5.out g hg with h | h
            · exact HGW.out g h
            · rw [alloc_size] at h; right; omega), Lib.hid (fun x hx => by
            rcases List.mem_append.1 hx with hx | hx
            · exact HFW.out x hx
            · simp at hx
              subst hx
              exact .inr (fun g hg => by have := (HO4.out.lt g hg).1; have := HKd.out.size; omega))⟩
        case measure => simp [intOf]; omega
        case rel =>
          have hmay : ps'.length < 200 := by have := HR.out; simp [mayL] at this; omega
          have hst' := HST.out
          obtain ⟨P1, P2⟩ := NetAt.push (q := ⟨f, t, qb⟩) HNd.out HB4.out HO4.out rfl rfl HG5.out HO5.out
          have hps2 := HSU.out
          rw [← HPS.out, HR.out, if_pos rfl] at hps2
          exact ⟨j + 1, st + 1, _, _, ps' ++ [⟨f, t, qb⟩], by omega, by go_num, by go_num, by omega, Lib.hid hps2.symm, Lib.hid (by simp; omega), Lib.hid P1, Lib.hid (HKd.out.trans P2 (fun b hb h => h.elim .inl (fun h => (HGW.out b h).elim .inr (fun h => by omega)))), Lib.hid (fun g hg => by
            have hsz := HKd.out.size
            have hsz4 := HB4.out.size
            rcases HGR5.out g hg with h | h
            · exact HGW.out g h
            · rw [alloc_size] at h; right; omega), Lib.hid (fun x hx => by
            rcases List.mem_append.1 hx with hx | hx
            · exact HFW.out x hx
            · simp at hx
              subst hx
              exact .inr (fun g hg => by have := (HO4.out.lt g hg).1; have := HKd.out.size; omega))⟩
        case measure => simp [intOf]; omega
        case rel =>
          have hmay : ps'.length < 200 := by have := HR.out; simp [mayL] at this; omega
          have hst' := HST.out
          obtain ⟨P1, P2⟩ := NetAt.push (q := ⟨f, t, qb⟩) HNd.out HB4.out HO4.out rfl rfl HG5.out HO5.out
          have hps2 := HSU.out
          rw [← HPS.out, HR.out, if_pos rfl] at hps2
          exact ⟨j + 1, st + 1, _, _, ps' ++ [⟨f, t, qb⟩], by omega, by go_num, by go_num, by omega, Lib.hid hps2.symm, Lib.hid (by simp; omega), Lib.hid P1, Lib.hid (HKd.out.trans P2 (fun b hb h => h.elim .inl (fun h => (HGW.out b h).elim .inr (fun h => by omega)))), Lib.hid (fun g hg => by
            have hsz := HKd.out.size
            have hsz4 := HB4.out.size
            rcases HGR5.out g hg with h | h
            · exact HGW.out g h
            · rw [alloc_size] at h; right; omega), Lib.hid (fun x hx => by
            rcases List.mem_append.1 hx with hx | hx
            · exact HFW.out x hx
            · simp at hx
              subst hx
              exact .inr (fun g hg => by have := (HO4.out.lt g hg).1; have := HKd.out.size; omega))⟩
        case measure => simp [intOf]; omega
        case rel =>
          have hmay : ps'.length < 200 := by have := HR.out; simp [mayL] at this; omega
          have hst' := HST.out
          obtain ⟨P1, P2⟩ := NetAt.push (q := ⟨f, t, qb⟩) HNd.out HB4.out HO4.out rfl rfl HG5.out HO5.out
          have hps2 := HSU.out
          rw [← HPS.out, HR.out, if_pos rfl] at hps2
          exact ⟨j + 1, st + 1, _, _, ps' ++ [⟨f, t, qb⟩], by omega, by go_num, by go_num, by omega, Lib.hid hps2.symm, Lib.hid (by simp; omega), Lib.hid P1, Lib.hid (HKd.out.trans P2 (fun b hb h => h.elim .inl (fun h => (HGW.out b h).elim .inr (fun h => by omega)))), Lib.hid (fun g hg => by
            have hsz := HKd.out.size
            have hsz4 := HB4.out.size
            rcases HGR5.out g hg with h | h
            · exact HGW.out g h
            · rw [alloc_size] at h; right; omega), Lib.hid (fun x hx => by
            rcases List.mem_append.1 hx with hx | hx
            · exact HFW.out x hx
            · simp at hx
              subst hx
              exact .inr (fun g hg => by have := (HO4.out.lt g hg).1; have := HKd.out.size; omega))⟩
        case measure => simp [intOf]; omega
    · obtain rfl : m = j := by omega
      have HE : Hid (ps' = sendL ps qs ∧ st = (sendL ps qs).length - ps.length) := Lib.hid (by
        have h1 := HPS.out
        rw [List.take_of_length_le (by have := HQS.out; omega)] at h1
        have h2 := HST.out
        refine ⟨h1, ?_⟩
        rw [← h1]; omega)
      go_wp2
      go_ret
      refine ⟨ret_int (by rw [HE.out.2]), v', vs', ?_, HKW.out, HGW.out, HFW.out⟩
      rw [← HE.out.1]; exact HNW.out
theorem send_any (A : Option Addr) (m c : Nat) (us : List PkV) (qs : List Pk) (hA : ∀ W, Kept (foot a v) w W → Reads W w.heap.size 3 A m (pkCells us) ∧ ∀ (i : Nat) (x : PkV) (q : Pk), us[i]? = some x → qs[i]? = some q → PkArg W w.heap.size x q) (hus : us.length = m) (hqs : qs.length = m) (hm : m ≤ 1000) :
    Calls Try.prog 9 #[.pointer (some ⟨a, 0, none⟩), .slice A m c] w fun e w' => e = .returned (.int .i64 (((sendL ps qs).length - ps.length : Nat) : Int)) ∧ NetNow B w a v (sendL ps qs) w' :=
  (send_fresh B w a v vs ps hN hB hps A m c us qs hA hus hqs hm).mono fun _ _ ⟨h1, v', vs', h2, h3, h4, _⟩ => ⟨h1, v', vs', h2, h3, h4⟩
end
end Go.Proofs.Ytlgkgmnnmlhaeaa
