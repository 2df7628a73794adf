import Derived.Test.YtlgkgmnnmlhaeaaNet3
namespace Go.Proofs.Ytlgkgmnnmlhaeaa
open Go.RowKit
set_option linter.unusedVariables false

/-- What a block holds behind a row of stores into it. -/
theorem setCells_heap (g : Nat) (e : TypeId) (fr : Nat × Nat) : ∀ (vs : List Value) (o : Nat) (w : World) (cur : Array Value), w.heap[g]? = some (.cells cur e fr) →
    ∃ cur', (w.setCells g o vs).heap[g]? = some (.cells cur' e fr) ∧ cur'.size = cur.size ∧ ∀ j, j < cur.size → cur'[j]? = if o ≤ j ∧ j < o + vs.length then vs[j - o]? else cur[j]?
  | [], o, w, cur, h => ⟨cur, h, rfl, fun j hj => by rw [if_neg (by simp)]⟩
  | v :: vs, o, w, cur, h => by
    have h1 : (w.setCell ⟨g, o, none⟩ v).heap[g]? = some (.cells (cur.setIfInBounds o v) e fr) := by
      have hlt := (Array.getElem?_eq_some_iff.1 h).1
      have h' : w.heap[g] = .cells cur e fr := by simpa [Array.getElem?_eq_getElem hlt] using h
      show (w.heap.modify g _)[g]? = _
      rw [Array.getElem?_eq_getElem (by simpa using hlt), Array.getElem_modify_self, h']
      rfl
    obtain ⟨cur', g1, g2, g3⟩ := setCells_heap g e fr vs (o + 1) _ _ h1
    refine ⟨cur', g1, by rw [g2]; simp, fun j hj => ?_⟩
    rw [g3 j (by simpa using hj)]
    by_cases hjo : j = o
    · subst hjo
      rw [if_neg (by omega), if_pos (by simp)]
      simp [hj]
    · rw [Array.getElem?_setIfInBounds_ne (by omega)]
      by_cases hin : o + 1 ≤ j ∧ j < o + 1 + vs.length
      · rw [if_pos hin, if_pos (by simp; omega)]
        rw [show j - o = (j - (o + 1)) + 1 by omega]
        simp
      · rw [if_neg hin, if_neg (by simp; omega)]
theorem kept_setCells {S : Nat → Prop} {w0 : World} (g : Nat) (hg : S g) : ∀ (vs : List Value) (o : Nat) {w : World}, Kept S w0 w → Kept S w0 (w.setCells g o vs)
  | [], _, _, h => h
  | v :: vs, o, w, h => kept_setCells g hg vs (o + 1) (h.setCell (fun _ => hg) v)

/-- clear of a slice of structs. -/
theorem run_clear_row {P : Program} (w : World) (t e ty : TypeId) (z : Value) (ht : P.underlying t = some (.slice e)) (hv : ∀ w, (zeroValue e).run P w = .ok z w) (h1 : ∀ n, ∀ u ∈ (Builtin.zeroCells z.cells n).toList, u.oneCell' = true) (hl : ∀ n, (Builtin.zeroCells z.cells n).toList.length = n * z.cells.size) (b o n c : Nat) (hn : 0 < n)
    (hc : ∀ j, j < n * z.cells.size → (w.cell? ⟨b, o + j, none⟩).isSome = true) (hf : ∀ j, j < n * z.cells.size → w.frozen? ⟨b, o + j, none⟩ = false) :
    (Builtin.clear_ #[t] ty #[.slice (some ⟨b, o, none⟩) n c]).run P w = .ok (.tuple #[]) (w.setCells b o (Builtin.zeroCells z.cells n).toList) := by
  have hst := run_storeCells_cells (P := P) b o (Builtin.zeroCells z.cells n).toList 0 w (by rw [hl]; simpa using hc) (by rw [hl]; simpa using hf) (h1 n)
  simp only [Nat.add_zero] at hst
  cases n with
  | zero => omega
  | succ n => simp [Builtin.clear_, run_underlying ht, hv, hst]

theorem zero_len (n : Nat) : (Builtin.zeroCells (Value.agg #[.int .i64 0, .int .i64 0, .slice none 0 0]).cells n).toList.length = n * (Value.agg #[.int .i64 0, .int .i64 0, .slice none 0 0]).cells.size := by
  simp [Builtin.zeroCells, Value.cells]
theorem zero_one (n : Nat) : ∀ u ∈ (Builtin.zeroCells (Value.agg #[.int .i64 0, .int .i64 0, .slice none 0 0]).cells n).toList, u.oneCell' = true := by
  intro u hu
  simp only [Builtin.zeroCells, Array.toList_map, List.mem_map] at hu
  obtain ⟨i, _, rfl⟩ := hu
  have h3 : i % (Value.agg #[.int .i64 0, .int .i64 0, .slice none 0 0]).cells.size < 3 := Nat.mod_lt _ (by decide)
  generalize i % (Value.agg #[.int .i64 0, .int .i64 0, .slice none 0 0]).cells.size = r at h3
  rcases r with _ | _ | _ | r
  · rfl
  · rfl
  · rfl
  · omega
theorem pk_take_drop (vs : List PkV) (k : Nat) : pkCells (vs.eraseIdx k) = (pkCells vs).take (k * 3) ++ (pkCells vs).drop ((k + 1) * 3) := by
  have ht : ∀ (l : List PkV) (k : Nat), pkCells (l.take k) = (pkCells l).take (k * 3) := by
    intro l
    induction l with
    | nil => intro k; simp [pkCells]
    | cons x l ih =>
      intro k
      cases k with
      | zero => simp [pkCells]
      | succ k =>
        have h1 : pkCells (x :: l) = .int .i64 x.f :: .int .i64 x.t :: x.v :: pkCells l := rfl
        have h2 : pkCells (x :: l.take k) = .int .i64 x.f :: .int .i64 x.t :: x.v :: pkCells (l.take k) := rfl
        rw [List.take_succ_cons, h2, h1, ih, show (k + 1) * 3 = k * 3 + 3 by omega]
        rfl
  have hd : ∀ (l : List PkV) (k : Nat), pkCells (l.drop k) = (pkCells l).drop (k * 3) := by
    intro l
    induction l with
    | nil => intro k; simp [pkCells]
    | cons x l ih =>
      intro k
      cases k with
      | zero => simp
      | succ k =>
        have h1 : pkCells (x :: l) = .int .i64 x.f :: .int .i64 x.t :: x.v :: pkCells l := rfl
        rw [List.drop_succ_cons, h1, ih, show (k + 1) * 3 = k * 3 + 3 by omega]
        rfl
  rw [List.eraseIdx_eq_take_drop_succ, ← ht, ← hd]
  simp [pkCells, List.flatMap_append]

set_option maxRecDepth 100000 in
set_option maxHeartbeats 4000000 in
theorem delete_any (w : World) (g c n k j B : Nat) (vs : List PkV) (h : w.ownsRow B 31 3 (.slice (some ⟨g, 0, none⟩) n c) n (pkCells vs)) (hl : vs.length = n) (hone : ∀ u ∈ pkCells vs, u.oneCell' = true) (hk : k < n) (hj : k + 1 = j) (hn : n ≤ 1000) (hnc : n ≤ c) (hc : c ≤ maxLen) :
    Calls Try.prog 27 #[.slice (some ⟨g, 0, none⟩) n c, .int .i64 k, .int .i64 j] w fun e w' => e = .returned (.slice (some ⟨g, 0, none⟩) (k + (n - j)) c) ∧ w'.ownsRow B 31 3 (.slice (some ⟨g, 0, none⟩) (k + (n - j)) c) (k + (n - j)) (pkCells (vs.eraseIdx k)) ∧ Kept (fun b => b = g) w w' := by
  have hh := h
  obtain ⟨i0, hi, hz0, hz1, hz2⟩ := info_parts Try.infoPk
  obtain ⟨h1, h2⟩ := h
  rcases h2 with ⟨h2, _⟩ | ⟨g', cap, cur, hv, hg, hb, _, hm, hs, htk⟩
  · cases h2
  injection hv with a1 a2 a3
  injection a1 with a1
  injection a1 with a1
  subst a1 a3
  have hcell : ∀ i, i < c * 3 → ((w.drew.cell? ⟨g, i, none⟩).isSome = true ∧ w.drew.frozen? ⟨g, i, none⟩ = false) := fun i hi' => by
    refine ⟨?_, hh.frozenAt _⟩
    show (w.cell? _).isSome = true
    rw [cell_of_row w g i cur _ (0, 0) hb]
    simp [hs, hi']
  obtain ⟨news, hnews⟩ : ∃ news, news = (pkCells vs).drop (j * 3) := ⟨_, rfl⟩
  have hlen : news.length = (n - j) * 3 := by rw [hnews, List.length_drop, h1]; omega
  obtain ⟨A, hA, hsrc⟩ : ∃ A : Addr, (if c = j then some (⟨g, 0, none⟩ : Addr) else some ⟨g, j * 3, none⟩) = some A ∧ Hid (∀ t u, news[t]? = some u → w.drew.cell? (A.add t) = some u) := by
    by_cases h : c = j
    · refine ⟨⟨g, 0, none⟩, by simp [h], fun t u hu => ?_⟩
      have h0 : news.length = 0 := by rw [hlen]; omega
      rw [List.length_eq_zero_iff.1 h0] at hu
      simp at hu
    · refine ⟨⟨g, j * 3, none⟩, by simp [h], fun t u hu => ?_⟩
      rw [hnews, List.getElem?_drop] at hu
      rw [Addr.add_mid]
      exact (own_cell hh hu).1
  have s1 : Hid (news.length = (n - j) * 3) := hlen
  have s2 : Hid (∀ u ∈ news, u.oneCell' = true) := by
    intro u hu
    rw [hnews] at hu
    exact hone u (List.mem_of_mem_drop hu)
  have s3 : Hid (∀ t, t < news.length → (w.drew.cell? ⟨g, 0 + k * 3 + t, none⟩).isSome = true ∧ w.drew.frozen? ⟨g, 0 + k * 3 + t, none⟩ = false) := by
    intro t ht
    rw [hlen] at ht
    rw [Nat.zero_add]
    exact hcell _ (by omega)
  obtain ⟨cur1, d1, d2, d3⟩ := setCells_heap g 31 (0, 0) news (0 + k * 3) w.drew cur hb
  obtain ⟨W1, hW1⟩ : ∃ W1, W1 = w.drew.setCells g (0 + k * 3) news := ⟨_, rfl⟩
  have hK1 : Hid (Kept (fun b => b = g) w W1) := Lib.hid (by rw [hW1]; exact kept_setCells (S := fun b => b = g) g rfl news _ (Kept.refl _ _).drew)
  rw [← hW1] at d1
  have hcl : ∀ ty, (Builtin.clear_ #[25] ty #[.slice (some ⟨g, (k + (n - j)) * 3, none⟩) (n - (k + (n - j))) (c - (k + (n - j)))]).run Try.prog W1 = .ok (.tuple #[]) (W1.setCells g ((k + (n - j)) * 3) (Builtin.zeroCells (Value.agg #[.int .i64 0, .int .i64 0, .slice none 0 0]).cells (n - (k + (n - j)))).toList) := by
    intro ty
    refine run_clear_row W1 25 31 ty (Value.agg #[.int .i64 0, .int .i64 0, .slice none 0 0]) Try.underlying25 (fun w => by simp [zeroValue, typeInfo, hi, hz0]) zero_one zero_len g _ _ _ (by omega) (fun i hi' => ?_) (fun i hi' => ?_)
    · have hi'' : i < (n - (k + (n - j))) * 3 := hi'
      rw [cell_of_row W1 g _ cur1 _ (0, 0) d1]
      simp only [Array.getElem?_eq_getElem (show (k + (n - j)) * 3 + i < cur1.size by rw [d2, hs]; omega), Option.isSome_some]
    · simp [World.frozen?, d1]
  have hW : Hid (W1 = w.drew.setCells g (0 + k * 3) news) := hW1
  have hic : k ≤ c := by omega
  have hjc : j ≤ c := by omega
  have HCUR := Lib.hid (And.intro d1 (And.intro d2 d3))
  have HH := Lib.hid hh
  have hkj : decide (k = j) = false := by simp; omega
  have hkj2 : ((k : Int) == (j : Int)) = false := by simp; omega
  have HTK := Lib.hid htk
  have HS := Lib.hid hs
  have HNEWS := Lib.hid hnews
  have HL := Lib.hid hl
  have HJ := Lib.hid hj
  have hkj3 : k < j := by omega
  have hjn : j ≤ n := by omega
  clear hW1 d1 d2 d3 hh hb hs htk hnews hlen hcell h1 hl hj
  go_enter Try.func27, Try.ntmps27
  go_wp2_with fail
  go_region_law (refine step_append_room rfl (.tmp 22) (.tmp 25) 25 rfl 31 i0 3 Try.underlying25 hi hz1 g 0 k c (by simp [Act.eval, Act.put]) A (n - j) (c - j) news (by simp [Act.eval, Act.put]) s1.out hsrc.out s2.out (by omega) s3.out ?_; rw [← hW.out])
  go_wp2
  go_ret
  obtain ⟨d1, d2, d3⟩ := HCUR.out
  obtain ⟨cur2, e1, e2, e3⟩ := setCells_heap g 31 (0, 0) (Builtin.zeroCells (Value.agg #[.int .i64 0, .int .i64 0, .slice none 0 0]).cells (n - (k + (n - j)))).toList ((k + (n - j)) * 3) W1 cur1 d1
  refine ⟨rfl, ⟨?_, .inr ⟨g, c, cur2, rfl, hg, e1, by omega, hc, by rw [e2, d2]; exact HS.out, ?_⟩⟩, kept_setCells (S := fun b => b = g) g rfl _ _ hK1.out⟩
  · rw [pkCells, flat_length PkV.cells_length, List.length_eraseIdx_of_lt (by have := HL.out; omega)]
    have := HL.out
    have := HJ.out
    omega
  · have hj := HJ.out
    have hs := HS.out
    have hpl : (pkCells vs).length = n * 3 := HH.out.1
    rw [pk_take_drop]
    apply List.ext_getElem?
    intro i
    by_cases hi' : i < (k + (n - j)) * 3
    · rw [List.getElem?_take_of_lt hi', Array.getElem?_toList, e3 i (by rw [d2, hs]; omega), if_neg (by omega), d3 i (by rw [hs]; omega)]
      by_cases hik : i < k * 3
      · rw [if_neg (by omega), List.getElem?_append_left (by rw [List.length_take, hpl]; omega), List.getElem?_take_of_lt hik, ← HTK.out, List.getElem?_take_of_lt (by omega), Array.getElem?_toList]
      · rw [if_pos (by rw [s1.out]; omega), HNEWS.out, List.getElem?_drop, List.getElem?_append_right (by rw [List.length_take, hpl]; omega), List.getElem?_drop, List.length_take, hpl]
        congr 1
        omega
    · rw [List.getElem?_eq_none (by rw [List.length_take]; omega), List.getElem?_eq_none (by rw [List.length_append, List.length_take, List.length_drop, hpl]; omega)]
end Go.Proofs.Ytlgkgmnnmlhaeaa
