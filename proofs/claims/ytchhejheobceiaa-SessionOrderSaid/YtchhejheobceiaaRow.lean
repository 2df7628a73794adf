/- Rows of one-cell elements that may begin inside a block (a slice that was resliced): what they read as; append onto them. No condition. -/
import Derived.Test.YtchhejheobceiaaKept
namespace Go.Proofs.Ytchhejheobceiaa
open Go.RowKit
set_option linter.unusedVariables false

def Row (w : World) (B : Nat) (e : TypeId) (v : Value) (n : Nat) (xs : List Value) : Prop :=
  xs.length = n ∧ ((v = .slice none 0 0 ∧ n = 0) ∨ ∃ g off cap cur, v = .slice (some ⟨g, off, none⟩) n cap ∧ B ≤ g ∧ w.heap[g]? = some (.cells cur e (0, 0)) ∧ n ≤ cap ∧ cap ≤ maxLen ∧ off + cap ≤ cur.size ∧ ∀ (j : Nat) u, xs[j]? = some u → cur[off + j]? = some u)
section
variable {w w1 : World} {B n : Nat} {e : TypeId} {v : Value} {xs : List Value}
theorem Row.nil_ (w : World) (B : Nat) (e : TypeId) : Row w B e (.slice none 0 0) 0 [] := ⟨rfl, .inl ⟨rfl, rfl⟩⟩
theorem Row.of_own (h : w.ownsRow B e 1 v n xs) : Row w B e v n xs := by
  obtain ⟨h1, h2⟩ := h
  refine ⟨by omega, ?_⟩
  rcases h2 with h2 | ⟨g, cap, cur, hv, hB, hg, hnc, hm, hs, ht⟩
  · exact .inl h2
  · refine .inr ⟨g, 0, cap, cur, hv, hB, hg, hnc, hm, by omega, fun j u hu => ?_⟩
    rw [← ht, List.getElem?_take] at hu
    split at hu
    · rw [Nat.zero_add]; simpa using hu
    · cases hu
theorem Row.form (h : Row w B e v n xs) : ∃ A c, v = .slice A n c ∧ n ≤ c ∧ c ≤ maxLen ∧ Reads w w.heap.size 1 A n xs := by
  obtain ⟨h1, ⟨rfl, rfl⟩ | ⟨g, off, cap, cur, rfl, hB, hg, hnc, hm, hs, hx⟩⟩ := h
  · have : xs = [] := List.eq_nil_of_length_eq_zero h1
    subst this
    exact ⟨none, 0, rfl, Nat.le_refl _, Nat.zero_le _, Reads.none_⟩
  · refine ⟨_, cap, rfl, hnc, hm, by omega, fun _ => ⟨_, rfl, (Array.getElem?_eq_some_iff.1 hg).1, fun j u hu => ?_⟩⟩
    rw [Addr.add_mid, cell_of_row w g _ cur e (0, 0) hg]
    exact hx j u hu
theorem Row.lt (h : Row w B e v n xs) : ∀ g, v.ownBlock = some g → B ≤ g ∧ g < w.heap.size := by
  intro g hg
  obtain ⟨h1, ⟨rfl, rfl⟩ | ⟨g', off, cap, cur, rfl, hB, hb, hnc, hm, hs, hx⟩⟩ := h
  · cases hg
  · simp only [Value.ownBlock, Option.some.injEq] at hg
    subst hg
    exact ⟨hB, (Array.getElem?_eq_some_iff.1 hb).1⟩
theorem Row.block (h : Row w B e v n xs) {g : Nat} (hg : v.ownBlock = some g) : ∃ cur, w.heap[g]? = some (.cells cur e (0, 0)) := by
  obtain ⟨h1, ⟨rfl, rfl⟩ | ⟨g', off, cap, cur, rfl, hB, hb, hnc, hm, hs, hx⟩⟩ := h
  · cases hg
  · simp only [Value.ownBlock, Option.some.injEq] at hg
    subst hg
    exact ⟨cur, hb⟩
theorem Row.keep {S : Nat → Prop} (h : Row w B e v n xs) (hk : Kept S w w1) (hv : ∀ g, v.ownBlock = some g → ¬ S g) : Row w1 B e v n xs := by
  obtain ⟨h1, h2 | ⟨g', off, cap, cur, rfl, hB, hb, r⟩⟩ := h
  · exact ⟨h1, .inl h2⟩
  · exact ⟨h1, .inr ⟨g', off, cap, cur, rfl, hB, by rw [hk.block g' (Array.getElem?_eq_some_iff.1 hb).1 (hv g' rfl)]; exact hb, r⟩⟩
theorem Row.grow (h : Row w B e v n xs) (hb : Below w.heap.size w w1) : Row w1 B e v n xs := h.keep (S := fun _ => False) (.of_below hb) (fun _ _ => id)
theorem Row.more {B' : Nat} (h : Row w B e v n xs) (hB : B' ≤ B) : Row w B' e v n xs := by
  obtain ⟨h1, h2 | ⟨g', off, cap, cur, rfl, hb, r⟩⟩ := h
  · exact ⟨h1, .inl h2⟩
  · exact ⟨h1, .inr ⟨g', off, cap, cur, rfl, by omega, r⟩⟩
theorem Row.setCell_other (h : Row w B e v n xs) {a : Addr} (ha : v.ownBlock ≠ some a.block) (u : Value) : Row (w.setCell a u) B e v n xs :=
  h.keep (S := fun k => k = a.block) ((Kept.refl (fun k => k = a.block) w).setCell (a := a) (fun _ => rfl) u) (fun g hg hs => ha (by rw [hg, hs]))
/-- The row without its first k. -/
theorem Row.cut {A : Option Addr} {c : Nat} (h : Row w B e (.slice A n c) n xs) {k : Nat} (hk : k ≤ n) : Row w B e (.slice (if c = k then A else A.map (·.add k)) (n - k) (c - k)) (n - k) (xs.drop k) := by
  obtain ⟨h1, ⟨h2, rfl⟩ | ⟨g, off, cap, cur, hv, hB, hg, hnc, hm, hs, hx⟩⟩ := h
  · injection h2 with h2 _ h3
    subst h2 h3
    have : k = 0 := by omega
    subst this
    exact ⟨by rw [List.length_drop, h1], .inl ⟨by simp, rfl⟩⟩
  · injection hv with e1 _ e3
    subst e1 e3
    refine ⟨by rw [List.length_drop, h1], .inr ?_⟩
    by_cases hck : c = k
    · refine ⟨g, off, c - k, cur, by rw [if_pos hck], hB, hg, by omega, by omega, by omega, fun j u hu => ?_⟩
      rw [List.getElem?_eq_none (by rw [List.length_drop]; omega)] at hu
      cases hu
    · refine ⟨g, off + k, c - k, cur, by rw [if_neg hck, Option.map_some, Addr.add_mid], hB, hg, by omega, by omega, by omega, fun j u hu => ?_⟩
      rw [List.getElem?_drop] at hu
      rw [Nat.add_assoc]
      exact hx _ u hu
/-- The row's first k. -/
theorem Row.head {A : Option Addr} {c : Nat} (h : Row w B e (.slice A n c) n xs) {k : Nat} (hk : k ≤ n) (hk0 : 0 < n) : Row w B e (.slice A k c) k (xs.take k) := by
  obtain ⟨h1, ⟨h2, rfl⟩ | ⟨g, off, cap, cur, hv, hB, hg, hnc, hm, hs, hx⟩⟩ := h
  · omega
  · injection hv with e1 _ e3
    subst e1 e3
    refine ⟨by rw [List.length_take]; omega, .inr ⟨g, off, c, cur, rfl, hB, hg, by omega, hm, hs, fun j u hu => hx j u ?_⟩⟩
    rw [List.getElem?_take] at hu
    split at hu
    · exact hu
    · cases hu
theorem row_apart {b b' n' g : Nat} {e' : TypeId} {v' : Value} {xs' : List Value} (h : Row w b e v n xs) (h' : Row w b' e' v' n' xs') (hne : e ≠ e') (hv : v.ownBlock = some g) : v'.ownBlock ≠ some g := fun hv' => by
  obtain ⟨c, hc⟩ := h.block hv
  obtain ⟨c', hc'⟩ := h'.block hv'
  rw [hc] at hc'
  injection hc' with hc'
  injection hc' with _ hc'
  exact hne hc'
theorem row_apart_blk {a : Nat} {e' : TypeId} {cur : Array Value} (h : Row w B e v n xs) (h' : w.heap[a]? = some (.cells cur e' (0, 0))) (hne : e ≠ e') : v.ownBlock ≠ some a := fun hv => by
  obtain ⟨c, hc⟩ := h.block hv
  rw [hc] at h'
  injection h' with h'
  injection h' with _ h'
  exact hne h'
end

/-- append(v, x...) onto such a row, x with something in it: that row's block and new blocks alone turn. -/
theorem run_append_row {P : Program} (w : World) (t ty : TypeId) (B : Nat) (e : TypeId) (i : TypeInfo) (z : Value) (bytes : Nat) (ht : P.underlying t = some (.slice e)) (hi : P.info? e = some i) (hz : i.zero = some z)
    (hsize : i.size = 1) (hby : i.bytes = bytes) (hzs : z.cells.size = 1)
    (v : Value) (n : Nat) (xs : List Value) (hrow : Row w B e v n xs)
    (ad : Addr) (B2 m c : Nat) (news : List Value) (hr : Reads w B2 1 (some ad) m news) (hm : 0 < m) (h1 : ∀ u ∈ news, u.oneCell' = true)
    (h63 : n + m ≤ maxLen) (hbytes : (n + m) * bytes ≤ 140737488355328) (hbase : B ≤ w.heap.size) :
    ∃ v' w', (Builtin.append_ #[t, t] ty #[v, .slice (some ad) m c]).run P w = .ok v' w' ∧ Row w' B e v' (n + m) (xs ++ news) ∧ Kept (fun k => v.ownBlock = some k) w w' ∧ ∀ g, v'.ownBlock = some g → v.ownBlock = some g ∨ w.heap.size ≤ g := by
  obtain ⟨ad', e', _, hc⟩ := hr.2 hm
  injection e' with e'
  subst e'
  have hnl : news.length = m := by have := hr.1; omega
  obtain ⟨hl, ⟨rfl, rfl⟩ | ⟨g, off, cap, cur, rfl, hB, hg, hnc, hmx, hs, hx⟩⟩ := hrow
  · have : xs = [] := List.eq_nil_of_length_eq_zero hl
    subst this
    obtain ⟨v', w', hrun, h2, h3, _⟩ := run_append_own (P := P) w w.heap.size t ty e i z 1 bytes ht hi hz hsize hby hzs (by omega) (.slice none 0 0) 0 [] (World.ownsRow_nil _ _ _ _) ad m c news hr.1 hc h1 h63 hbytes (Nat.le_refl _)
    exact ⟨v', w', hrun, (Row.of_own h2).more hbase, Kept.of_grown h3 (fun b e => by cases e), fun g hg => .inr (h2.lt g hg).1⟩
  · by_cases hroom : n + m ≤ cap
    · have hcell : ∀ j, j < cap → (w.cell? ⟨g, off + j, none⟩).isSome = true ∧ w.frozen? ⟨g, off + j, none⟩ = false := fun j hj => by
        refine ⟨?_, by simp [World.frozen?, hg]⟩
        rw [cell_of_row w g _ cur e (0, 0) hg]
        simp; omega
      have hrun := run_append_room_cells (P := P) w t ty e i ht hi g off n cap ad m c news (by rw [hsize]; exact hr.1) hc h1 hroom (fun j hj => by rw [hsize, Nat.mul_one, Nat.add_assoc]; exact (hcell _ (by omega)).1) (fun j hj => by rw [hsize, Nat.mul_one, Nat.add_assoc]; exact (hcell _ (by omega)).2)
      rw [hsize, Nat.mul_one] at hrun
      obtain ⟨cur', e1, e2, e3⟩ := setCells_heap g e (0, 0) news (off + n) w cur hg
      refine ⟨_, _, hrun, ⟨by rw [List.length_append, hl, hnl], .inr ⟨g, off, cap, cur', rfl, hB, e1, hroom, hmx, by omega, fun j u hu => ?_⟩⟩, kept_setCells (S := fun k => some g = some k) g rfl news _ (Kept.refl _ _), fun q hq => .inl hq⟩
      have hj : j < n + m := by have := (List.getElem?_eq_some_iff.1 hu).1; rw [List.length_append, hl, hnl] at this; exact this
      rw [e3 _ (by omega)]
      by_cases hjn : j < n
      · rw [if_neg (by omega)]
        rw [List.getElem?_append_left (by omega)] at hu
        exact hx j u hu
      · rw [if_pos (by omega)]
        rw [List.getElem?_append_right (by omega)] at hu
        rw [← hu]
        congr 1
        omega
    · obtain ⟨v', w', hrun, h2, h3⟩ := run_append_arg_grows (P := P) w t ty e i z 1 bytes ht hi hz hsize hby hzs (by omega) ⟨g, off, none⟩ n cap xs (by omega) (fun j u hu => by rw [Addr.add_mid, cell_of_row w g _ cur e (0, 0) hg]; exact hx j u hu) ad m c news hr.1 hc (by omega) h63 hbytes
      exact ⟨v', w', hrun, (Row.of_own h2).more hbase, Kept.of_grown h3 (fun b e => by cases e), fun q hq => .inr (h2.lt q hq).1⟩
theorem Try.infoBs : (Try.prog.info? 30).map (fun i => (i.zero, i.size, i.bytes)) = some (some (.slice none 0 0), 1, 24) := by kernel_rfl
/-- append at rows of bytes, in a plain walk. -/
theorem app_rows (w : World) {ops : Array Oper} {rest : List Oper} {o : Oper} {a : Act} {Q : Exit → Act → World → Prop} (hgd : o.guard = none) (s x : Operand)
    (ho : o.op = .call { callee := .builtin .append, args := #[s, x], argTypes := #[27, 27] })
    (B : Nat) (v : Value) (n : Nat) (xs : List Value) (hs : a.eval s = v) (hrow : Row w B 30 v n xs)
    (ad : Addr) (B2 m c : Nat) (news : List Value) (hx : a.eval x = .slice (some ad) m c) (hr : Reads w B2 1 (some ad) m news) (hm : 0 < m) (h1 : ∀ u ∈ news, u.oneCell' = true)
    (hn : n + m ≤ 1000000) (hbase : B ≤ w.heap.size)
    (h : ∀ v' w', Row w' B 30 v' (n + m) (xs ++ news) → Kept (fun k => v.ownBlock = some k) w w' → (∀ g, v'.ownBlock = some g → v.ownBlock = some g ∨ w.heap.size ≤ g) → wpList Try.prog ops Q rest (a.put o.dst v') w') : wpList Try.prog ops Q (o :: rest) a w := by
  obtain ⟨i0, hi, hz0, hz1, hz2⟩ := info_parts Try.infoBs
  obtain ⟨v', w', hrun, h2, h3, h4⟩ := run_append_row (P := Try.prog) w 27 o.type B 30 i0 _ 24 Try.underlying27 hi hz0 hz1 hz2 rfl v n xs hrow ad B2 m c news hr hm h1 (by simp only [maxLen]; omega) (by omega) hbase
  refine wpList_plain hgd fun K hK => ?_
  unfold Oper.wp execOp
  simp only [ho, resolve, invoke, builtin, Sem.run_bind, Sem.run_pure, Result.andThen_ok, List.map_toArray, List.map_cons, List.map_nil, hs, hx, hrun]
  exact hK _ _ (h v' w' h2 h3 h4)
/-- .. in a region that draws its order. -/
theorem step_app_rows (w : World) {ops : Array Oper} {o : Oper} {a : Act} {K : Act → World → Prop} {Q : Exit → Act → World → Prop} {E : Prop} (hgd : o.guard = none) (s x : Operand)
    (ho : o.op = .call { callee := .builtin .append, args := #[s, x], argTypes := #[27, 27] })
    (B : Nat) (v : Value) (n : Nat) (xs : List Value) (hs : a.eval s = v) (hrow : Row w B 30 v n xs)
    (ad : Addr) (B2 m c : Nat) (news : List Value) (hx : a.eval x = .slice (some ad) m c) (hr : Reads w B2 1 (some ad) m news) (hm : 0 < m) (h1 : ∀ u ∈ news, u.oneCell' = true)
    (hn : n + m ≤ 1000000) (hbase : B ≤ w.heap.size)
    (h : ∀ v' w', Row w' B 30 v' (n + m) (xs ++ news) → Kept (fun k => v.ownBlock = some k) w w' → (∀ g, v'.ownBlock = some g → v.ownBlock = some g ∨ w.heap.size ≤ g) → K (a.put o.dst v') w') :
    if Region.wanted o (yielded ops a.tmps) = true then Oper.wp Try.prog o a w K Q else E := by
  have hw : Region.wanted o (yielded ops a.tmps) = true := by simp [Region.wanted, hgd]
  rw [if_pos hw]
  obtain ⟨i0, hi, hz0, hz1, hz2⟩ := info_parts Try.infoBs
  obtain ⟨v', w', hrun, h2, h3, h4⟩ := run_append_row (P := Try.prog) w 27 o.type B 30 i0 _ 24 Try.underlying27 hi hz0 hz1 hz2 rfl v n xs hrow ad B2 m c news hr hm h1 (by simp only [maxLen]; omega) (by omega) hbase
  unfold Oper.wp execOp
  simp only [ho, resolve, invoke, builtin, Sem.run_bind, Sem.run_pure, Result.andThen_ok, List.map_toArray, List.map_cons, List.map_nil, hs, hx, hrun]
  exact h v' w' h2 h3 h4
end Go.Proofs.Ytchhejheobceiaa
