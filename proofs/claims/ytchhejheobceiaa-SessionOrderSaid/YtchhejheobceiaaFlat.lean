import Derived.Test.YtchhejheobceiaaOwnSet
namespace Go.Proofs.Ytchhejheobceiaa
open Go.RowKit
set_option linter.unusedVariables false

/-! ### Rows of structs: each element has so many cells -/
section
variable {α : Type} {f : α → List Value} {s : Nat} (hf : ∀ x, (f x).length = s)
include hf
theorem flat_length (l : List α) : (l.flatMap f).length = l.length * s := by
  induction l with
  | nil => simp
  | cons x l ih => rw [List.flatMap_cons, List.length_append, ih, hf, List.length_cons, Nat.add_mul]; omega
theorem flat_get {l : List α} {k : Nat} {x : α} (h : l[k]? = some x) (j : Nat) (hj : j < s) : (l.flatMap f)[k * s + j]? = (f x)[j]? := by
  induction l generalizing k with
  | nil => simp at h
  | cons y l ih =>
    rw [List.flatMap_cons]
    cases k with
    | zero =>
      simp at h; subst h
      rw [Nat.zero_mul, Nat.zero_add, List.getElem?_append_left (by rw [hf]; exact hj)]
    | succ k =>
      rw [List.getElem?_append_right (by rw [hf, Nat.add_mul]; omega), ← ih (k := k) (by simpa using h)]
      congr 1
      rw [hf, Nat.add_mul]; omega
theorem flat_at {l : List α} {j : Nat} {u : Value} (hs : 0 < s) (h : (l.flatMap f)[j]? = some u) : ∃ x, l[j / s]? = some x ∧ (f x)[j % s]? = some u := by
  have hj : j < l.length * s := by rw [← flat_length hf]; exact (List.getElem?_eq_some_iff.1 h).1
  have hk : j / s < l.length := by rw [Nat.div_lt_iff_lt_mul hs]; exact hj
  have hg : l[j / s]? = some l[j / s] := List.getElem?_eq_getElem hk
  have := flat_get hf hg (j % s) (Nat.mod_lt _ hs)
  rw [Nat.mul_comm, Nat.div_add_mod] at this
  exact ⟨_, hg, by rw [← this]; exact h⟩
theorem flat_set_last (o : List α) (p : α) (j : Nat) (v : Value) : ((o ++ [p]).flatMap f).set (o.length * s + j) v = o.flatMap f ++ (f p).set j v := by
  rw [List.flatMap_append, List.set_append_right _ _ (by rw [flat_length hf]; omega), flat_length hf]
  congr 1
  rw [show o.length * s + j - o.length * s = j by omega]
  simp
theorem flat_reads {w : World} {B n k : Nat} {A : Option Addr} {l : List α} {x : α} (h : Reads w B s A n (l.flatMap f)) (hr : l[k]? = some x) (hk : k < n) :
    ∃ ad, A = some ad ∧ ad.block < B ∧ ∀ j v, (f x)[j]? = some v → w.cell? ((ad.add (k * s)).add j) = some v := by
  obtain ⟨ad, rfl, hb, hc⟩ := h.2 (by omega)
  refine ⟨ad, rfl, hb, fun j v hv => ?_⟩
  have hj : j < s := by
    have := (List.getElem?_eq_some_iff.1 hv).1
    rwa [hf] at this
  have := hc (k * s + j) v (by rw [flat_get hf hr j hj]; exact hv)
  rwa [add_of_add]
/-- A row of the call's own: the cells of its k-th element. -/
theorem flat_own {w : World} {base n g c k : Nat} {e : TypeId} {l : List α} {x : α} (h : w.ownsRow base e s (.slice (some ⟨g, 0, none⟩) n c) n (l.flatMap f)) (hr : l[k]? = some x) :
    ∀ j v, (f x)[j]? = some v → w.cell? ⟨g, k * s + j, none⟩ = some v ∧ w.frozen? ⟨g, k * s + j, none⟩ = false := fun j v hv => by
  have hj : j < s := by
    have := (List.getElem?_eq_some_iff.1 hv).1
    rwa [hf] at this
  exact own_cell h (by rw [flat_get hf hr j hj]; exact hv)
end
theorem flat_one {α : Type} {f : α → List Value} (hf : ∀ x, ∀ u ∈ f x, u.oneCell' = true) (l : List α) : ∀ u ∈ l.flatMap f, u.oneCell' = true := by
  intro u hu
  rw [List.mem_flatMap] at hu
  obtain ⟨x, _, hx⟩ := hu
  exact hf x u hx
/-- A block reads as cells: 'reads_new' at so many cells an element. -/
theorem reads_newS (w : World) (cs : List Value) (e : TypeId) (s n : Nat) (h : cs.length = n * s) : Reads (w.alloc (.cells cs.toArray e)) (w.heap.size + 1) s (some ⟨w.heap.size, 0, none⟩) n cs := by
  refine ⟨h, fun _ => ⟨_, rfl, by simp, fun j u hu => ?_⟩⟩
  rw [Addr.add_mid, Nat.zero_add, cell_of_row (w.alloc (.cells cs.toArray e)) w.heap.size j cs.toArray e (0, 0) (heap_alloc_new w _)]
  simpa using hu
/-- append(v, x...) onto a row of the call's own: that row and new blocks alone turn. -/
theorem wpList_append_grow {P : Program} (w : World) {ops : Array Oper} {rest : List Oper} {o : Oper} {a : Act} {Q : Exit → Act → World → Prop} (hgd : o.guard = none) (s x : Operand) (t : TypeId)
    (ho : o.op = .call { callee := .builtin .append, args := #[s, x], argTypes := #[t, t] })
    (base : Nat) (e : TypeId) (i : TypeInfo) (z : Value) (size bytes : Nat) (ht : P.underlying t = some (.slice e)) (hi : P.info? e = some i) (hz : i.zero = some z)
    (hsize : i.size = size) (hby : i.bytes = bytes) (hzs : z.cells.size = size) (hsz : 0 < size)
    (v : Value) (n : Nat) (xs : List Value) (hs : a.eval s = v) (hown : w.ownsRow base e size v n xs)
    (ad : Addr) (B m c : Nat) (news : List Value) (hx : a.eval x = .slice (some ad) m c) (hr : Reads w B size (some ad) m news) (hm : 0 < m) (h1 : ∀ u ∈ news, u.oneCell' = true)
    (h63 : n + m ≤ maxLen) (hbytes : (n + m) * bytes ≤ 140737488355328) (hbase : base ≤ w.heap.size)
    (h : ∀ v' w', w'.ownsRow base e size v' (n + m) (xs ++ news) → w.grownBy w' v.ownBlock → wpList P ops Q rest (a.put o.dst v') w') : wpList P ops Q (o :: rest) a w := by
  obtain ⟨ad', e', _, hc⟩ := hr.2 hm
  injection e' with e'
  subst e'
  obtain ⟨v', w', hrun, h2, h3, _⟩ := run_append_own (P := P) w base t o.type e i z size bytes ht hi hz hsize hby hzs hsz v n xs hown ad m c news hr.1 hc h1 h63 hbytes hbase
  refine wpList_plain hgd fun K hK => ?_
  unfold Oper.wp execOp
  simp only [ho, resolve, invoke, builtin, Sem.run_bind, Sem.run_pure, Result.andThen_ok, List.map_toArray, List.map_cons, List.map_nil, hs, hx, hrun]
  exact hK _ _ (h v' w' h2 h3)
theorem own_below {w w' : World} {base size n B : Nat} {e : TypeId} {v : Value} {xs : List Value} (h : w.ownsRow base e size v n xs) (hb : Below B w w') (hB : w.heap.size ≤ B) : w'.ownsRow base e size v n xs :=
  h.kept (row := none) ⟨hb.os, hb.tape, hb.output, hb.size, fun k hk _ => hb.block k (by omega)⟩ (by cases hv : v.ownBlock <;> simp)
theorem grown_range {w w' : World} {row : Option Nat} {b o : Nat} {cs : List Value} (hg : w.grownBy w' row) (h : w.rangeAt b o cs) (hne : some b ≠ row) : w'.rangeAt b o cs := fun j v hv => hg.cell (h j v hv) hne
theorem range_setCell_other {w : World} {b o : Nat} {cs : List Value} {a : Addr} (h : w.rangeAt b o cs) (hne : a.block ≠ b) (v : Value) : (w.setCell a v).rangeAt b o cs := fun j u hu => by
  rw [World.cell?_setCell_other _ _ _ _ (fun e => hne (by rw [e]))]; exact h j u hu
theorem range_setCell {w : World} {b o : Nat} {cs : List Value} (h : w.rangeAt b o cs) (j : Nat) (v : Value) : (w.setCell ⟨b, o + j, none⟩ v).rangeAt b o (cs.set j v) := fun i u hu => by
  rw [List.getElem?_set] at hu
  split at hu
  · rename_i e
    subst e
    split at hu
    · rename_i hj
      injection hu with hu
      subst hu
      exact World.cell?_setCell_same _ _ _ (h j _ (List.getElem?_eq_getElem hj))
    · cases hu
  · rename_i e
    rw [World.cell?_setCell_other _ _ _ _ (fun e' => e (by injection e'; omega))]
    exact h i u hu
theorem there_setCell {w : World} {b o n : Nat} (h : w.there b o n) (b' o' : Nat) (v : Value) : (w.setCell ⟨b', o', none⟩ v).there b o n := World.there_setCells h b' o' [v]
end Go.Proofs.Ytchhejheobceiaa
