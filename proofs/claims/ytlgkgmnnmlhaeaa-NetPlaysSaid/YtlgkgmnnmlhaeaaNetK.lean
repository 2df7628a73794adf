import Derived.Test.YtlgkgmnnmlhaeaaNetJ
namespace Go.Proofs.Ytlgkgmnnmlhaeaa
open Go.RowKit
set_option linter.unusedVariables false

/-- append(v, x...) at packets, at the operation, in a plain walk. -/
theorem app_pk (w : World) {ops : Array Oper} {rest : List Oper} {o : Oper} {a : Act} {Q : Exit → Act → World → Prop} (hgd : o.guard = none) (s x : Operand)
    (ho : o.op = .call { callee := .builtin .append, args := #[s, x], argTypes := #[25, 25] })
    (base : Nat) (v : Value) (n : Nat) (xs : List Value) (hs : a.eval s = v) (hown : w.ownsRow base 31 3 v n xs)
    (B : Nat) (A : Option Addr) (m c : Nat) (news : List Value) (hx : a.eval x = .slice A m c) (hr : Reads w B 3 A m news) (h1 : ∀ u ∈ news, u.oneCell' = true)
    (hbytes : n + m ≤ 100000) (hbase : base ≤ w.heap.size)
    (h : ∀ v' w', w'.ownsRow base 31 3 v' (n + m) (xs ++ news) → Below base w w' → wpList Try.prog ops Q rest (a.put o.dst v') w') : wpList Try.prog ops Q (o :: rest) a w := by
  obtain ⟨i0, hi, hz0, hz1, hz2⟩ := info_parts Try.infoPk
  exact wpList_append_owns w hgd s x _ ho base _ i0 _ 3 40 Try.underlying25 hi hz0 hz1 hz2 rfl (by omega) v n xs hs (.inl hown) B A m c news hx hr h1 (by simp only [maxLen]; omega) (by omega) hbase fun v' w' _ h2 h3 => h v' w' (h3 (.inl hown)) h2
theorem RefAt.one {B : Nat} {w : World} {a : Nat} {v : Value} {vs : List PkV} {ps : List Pk} (h : RefAt B w a v vs ps) : ∀ u ∈ pkCells vs, u.oneCell' = true := by
  intro u hu
  simp only [pkCells, List.mem_flatMap] at hu
  obtain ⟨x, hx, hu⟩ := hu
  obtain ⟨i, hi, rfl⟩ := List.getElem_of_mem hx
  have hi2 : i < ps.length := by rw [← h.len]; exact hi
  obtain ⟨_, _, ho⟩ := h.pks i vs[i] ps[i] (List.getElem?_eq_getElem hi) (List.getElem?_eq_getElem hi2)
  obtain ⟨A, c, hv, _⟩ := Owns.form (Or.inl ho)
  simp only [PkV.cells, List.mem_cons, List.mem_nil_iff, or_false] at hu
  rcases hu with rfl | rfl | rfl
  · rfl
  · rfl
  · rw [hv]; rfl
theorem own_apart_blk {w : World} {b s n a : Nat} {e e' : TypeId} {v : Value} {cur : Array Value} {xs : List Value} (h : w.ownsRow b e s v n xs) (h' : w.heap[a]? = some (.cells cur e' (0, 0))) (hne : e ≠ e') : v.ownBlock ≠ some a := by
  intro hv
  rcases h.2 with ⟨rfl, _⟩ | ⟨g1, cap, cur, rfl, _, hg, _⟩
  · cases hv
  · simp only [Value.ownBlock, Option.some.injEq] at hv
    subst hv
    rw [hg] at h'
    injection h' with h'
    injection h' with _ h'
    exact hne h'
/-- A packet is handed back, and the reference's net has these. -/
def RetRefDel (B : Nat) (w : World) (a : Nat) (v : Value) (p : Pk) (ps : List Pk) (e : Ending) (w' : World) : Prop :=
  ∃ A c, e = .returned (.tuple #[.agg #[.int .i64 p.f, .int .i64 p.t, .slice A p.b.length c], .bool true]) ∧ w'.ownsRow 0 5 1 (.slice A p.b.length c) p.b.length (bc p.b) ∧ RefNow B w a v ps w'
section
variable (B : Nat) (w : World) (a : Nat) (v : Value) (vs : List PkV) (ps : List Pk) (hN : RefAt B w a v vs ps) (hps : ps.length ≤ 200)
include hN hps

set_option maxRecDepth 100000 in
set_option maxHeartbeats 4000000 in
theorem rdeliver_some (hB : B ≤ w.heap.size) (k : Nat) (p : Pk) (hk : ps[k]? = some p) : Calls Try.prog 18 #[.pointer (some ⟨a, 0, none⟩), .int .i64 k] w (RetRefDel B w a v p (ps.eraseIdx k)) := by
  obtain ⟨N, HNN⟩ : ∃ N, Hid (ps.length = N) := ⟨_, Lib.hid rfl⟩
  have hkN : k < N := by rw [← HNN.out]; exact (List.getElem?_eq_some_iff.1 hk).1
  have hN200 : N ≤ 200 := by have := HNN.out; omega
  have HN := Lib.hid hN
  have hal := hN.lt
  have HP : Hid (∀ W, Below w.heap.size w W → Calls Try.prog 23 #[.pointer (some ⟨a, 0, none⟩), .int .i64 k] W (RetRef W p)) := Lib.hid fun W hb => rpeek_some B W a _ vs ps (hN.grow hb) hps k p hk
  have HONE : Hid (∀ u ∈ pkCells vs, u.oneCell' = true) := Lib.hid hN.one
  have hrow := hN.row
  rw [HNN.out] at hrow
  obtain ⟨g, c0, rfl, hc0, hm0, _⟩ := own_head (Or.inl hrow) (by omega)
  clear hrow
  obtain ⟨f, t, b⟩ := p
  have HK := Lib.hid hk
  clear hN hps hk
  go_enter Try.func18, Try.ntmps18
  go_upto_region 1 with fail
  have HW : Hid (Below w.heap.size w (w.alloc (.cells #[.int .i64 0, .int .i64 0, .slice none 0 0] 31)) ∧ (w.alloc (.cells #[.int .i64 0, .int .i64 0, .slice none 0 0] 31)).there w.heap.size 0 3 ∧ w.heap.size + 1 = (w.alloc (.cells #[.int .i64 0, .int .i64 0, .slice none 0 0] 31)).heap.size ∧ (w.alloc (.cells #[.int .i64 0, .int .i64 0, .slice none 0 0] 31)).heap[w.heap.size]? = some (.cells #[.int .i64 0, .int .i64 0, .slice none 0 0] 31 (0, 0))) :=
    Lib.hid ⟨(Below.refl _ _).alloc (Nat.le_refl _) _, there_new w [.int .i64 0, .int .i64 0, .slice none 0 0] _, by rw [alloc_size], heap_alloc_new w _⟩
  generalize (w.alloc (.cells #[.int .i64 0, .int .i64 0, .slice none 0 0] 31)) = W1 at *
  have HP1 := Lib.hid (HP.out W1 HW.out.1)
  go_upto_region 4 with (go_at_call 23; ((with_reducible refine HP1.out.mono ?_); rintro e w2 ⟨A2, c2, rfl, ho2, hb2⟩))
  have HO2 := Lib.hid ho2
  have H3 : Hid (Below w.heap.size w (w2.alloc (.cells #[.int .i64 f, .int .i64 t, .slice A2 b.length c2] 31)) ∧ (w2.alloc (.cells #[.int .i64 f, .int .i64 t, .slice A2 b.length c2] 31)).there w.heap.size 0 3 ∧ (w2.alloc (.cells #[.int .i64 f, .int .i64 t, .slice A2 b.length c2] 31)).rangeAt w2.heap.size 0 [.int .i64 f, .int .i64 t, .slice A2 b.length c2] ∧ w2.heap.size < (w2.alloc (.cells #[.int .i64 f, .int .i64 t, .slice A2 b.length c2] 31)).heap.size ∧ w.heap.size < w2.heap.size ∧ (w2.alloc (.cells #[.int .i64 f, .int .i64 t, .slice A2 b.length c2] 31)).ownsRow 0 5 1 (.slice A2 b.length c2) b.length (bc b)) :=
    Lib.hid ⟨(HW.out.1.trans (hb2.mono HW.out.1.size)).alloc (by have := HW.out.1.size; have := hb2.size; omega) _, World.there_alloc (there_below HW.out.2.1 hb2 (by have := HW.out.2.2.1; omega)) _, range_new w2 [.int .i64 f, .int .i64 t, .slice A2 b.length c2] _, by rw [alloc_size]; omega, by have := HW.out.2.2.1; have := hb2.size; omega, ho2.kept (World.grownBy_alloc w2 _ none) (own_or _)⟩
  have HNE2 : Hid ((Value.slice A2 b.length c2).ownBlock ≠ some w.heap.size) := Lib.hid (own_apart_blk ho2 ((hb2.block _ (by have := HW.out.2.2.1; omega)).trans HW.out.2.2.2) (by decide))
  clear hb2 ho2 HO2
  generalize (w2.alloc (.cells #[.int .i64 f, .int .i64 t, .slice A2 b.length c2] 31)) = W3 at *
  generalize w2.heap.size = b6 at *
  have HN3 : Hid (RefAt B W3 a (.slice (some ⟨g, 0, none⟩) N c0) vs ps) := Lib.hid (HN.out.grow H3.out.1)
  have HR3 : Hid (Reads W3 W3.heap.size 3 (some ⟨g, 0, none⟩) N (pkCells vs)) := Lib.hid (by have := Reads.of_own (c := c0) (A := some ⟨g, 0, none⟩) (w := W3) (e := 31) (n := N) (base := B) (by have := HN3.out.row; rwa [HNN.out] at this); exact this)
  have ca : W3.cell? ⟨a, 0, none⟩ = some (.slice (some ⟨g, 0, none⟩) N c0) := cell_of_one HN3.out.cell
  have fa : W3.frozen? ⟨a, 0, none⟩ = false := free_of_one HN3.out.cell
  have ha3 : a < W3.heap.size := HN3.out.lt
  have hkN' : k ≤ N := by omega
  have hkc : (k : Int) ≤ (c0 : Int) := by omega
  have hk0 : (0 : Int) ≤ (k : Int) := by omega
  have hnk : k + (N - (k + 1)) = N - 1 := by omega
  have HGA : Hid (a ≠ g) := Lib.hid fun e => own_apart_one (by have := HN3.out.row; rw [HNN.out] at this; exact this) HN3.out.cell (by decide) (by rw [e]; rfl)
  have HCUT := Lib.hid (HR3.out.cut (k := k + 1) (cap := c0) (by omega) hc0)
  obtain ⟨o2, ho2⟩ : ∃ o2, (if c0 = k + 1 then (some ⟨g, 0, none⟩ : Option Addr) else (some (⟨g, 0, none⟩ : Addr)).map (·.add ((k + 1) * 3))) = o2 := ⟨_, rfl⟩
  have HR2 : Hid (Reads W3 W3.heap.size 3 o2 (N - (k + 1)) ((pkCells vs).drop ((k + 1) * 3))) := Lib.hid (by have := HCUT.out; rw [ho2] at this; exact this)
  clear HCUT
  have hsplit : (c0 = k + 1 ∧ o2 = some ⟨g, 0, none⟩) ∨ (¬ c0 = k + 1 ∧ o2 = some ⟨g, (k + 1) * 3, none⟩) := by
    by_cases h : c0 = k + 1
    · left; rw [if_pos h] at ho2; exact ⟨h, ho2.symm⟩
    · right; rw [if_neg h] at ho2; exact ⟨h, by rw [← ho2, Option.map_some, Addr.add_mid, Nat.zero_add]⟩
  clear ho2
  rcases hsplit with ⟨hck, rfl⟩ | ⟨hck, rfl⟩
  all_goals
    go_upto_region 6 with (first
      | (at_builtin; refine app_pk _ rfl (.tmp 16) (.tmp 22) rfl W3.heap.size _ 0 [] rfl (World.ownsRow_nil _ _ _ _) W3.heap.size _ k _ _ rfl (HR3.out.take_ hkN') (fun u hu => HONE.out u (List.mem_of_mem_take hu)) (by omega) (Nat.le_refl _) ?_; intro v4 w4 ho4 hb4; rw [Nat.zero_add] at ho4; have HO4 := Lib.hid ho4; have HB4 := Lib.hid hb4; have ca4 : w4.cell? ⟨a, 0, none⟩ = some (.slice (some ⟨g, 0, none⟩) N c0) := (hb4.cell (p := ⟨a, 0, none⟩) ha3).trans ca; have fa4 : w4.frozen? ⟨a, 0, none⟩ = false := (hb4.frozen (p := ⟨a, 0, none⟩) ha3).trans fa; obtain ⟨A4, c4, rfl, hc4, hm4, _⟩ := Owns.form (Or.inl ho4); clear ho4 hb4)
      | (at_builtin; refine app_pk _ rfl (.tmp 25) (.tmp 32) rfl W3.heap.size _ k _ rfl HO4.out W3.heap.size _ (N - (k + 1)) _ _ rfl (HR2.out.below HB4.out) (fun u hu => HONE.out u (List.mem_of_mem_drop hu)) (by omega) HB4.out.size ?_; intro v5 w5 ho5 hb5; rw [hnk] at ho5; have HO5 := Lib.hid ho5; have HB5 := Lib.hid hb5; have ca5 : w5.cell? ⟨a, 0, none⟩ = some (.slice (some ⟨g, 0, none⟩) N c0) := (hb5.cell (p := ⟨a, 0, none⟩) ha3).trans ca4; have fa5 : w5.frozen? ⟨a, 0, none⟩ = false := (hb5.frozen (p := ⟨a, 0, none⟩) ha3).trans fa4; obtain ⟨A5, c5, rfl, hc5, hm5, _⟩ := Owns.form (Or.inl ho5); clear ho5 hb5))
    have HLT5 : Hid (∀ q, (Value.slice A5 (N - 1) c5).ownBlock = some q → W3.heap.size ≤ q ∧ q < w5.heap.size) := Lib.hid HO5.out.lt
    have HB5' : Hid (Below W3.heap.size W3 w5) := Lib.hid (HB4.out.trans HB5.out)
    have HW6 : Hid ((w5.setCell ⟨a, 0, none⟩ (.slice A5 (N - 1) c5)).heap[a]? = some (.cells #[.slice A5 (N - 1) c5] 46 (0, 0)) ∧ (w5.setCell ⟨a, 0, none⟩ (.slice A5 (N - 1) c5)).ownsRow W3.heap.size 31 3 (.slice A5 (N - 1) c5) (N - 1) (pkCells (vs.eraseIdx k)) ∧ Kept (foot a (.slice (some ⟨g, 0, none⟩) N c0)) W3 (w5.setCell ⟨a, 0, none⟩ (.slice A5 (N - 1) c5)) ∧ (w5.setCell ⟨a, 0, none⟩ (.slice A5 (N - 1) c5)).rangeAt b6 0 [.int .i64 f, .int .i64 t, .slice A2 b.length c2] ∧ (w5.setCell ⟨a, 0, none⟩ (.slice A5 (N - 1) c5)).there w.heap.size 0 3) := Lib.hid (by
      have hne : (Value.slice A5 (N - 1) c5).ownBlock ≠ some a := fun e => by have := (HLT5.out a e).1; omega
      refine ⟨one_setCell ((HB5'.out.block a ha3).trans HN3.out.cell), ?_, (Kept.of_below HB5'.out).setCell (fun _ => .inl rfl) _, range_setCell_other (range_below_at H3.out.2.2.1 HB5'.out H3.out.2.2.2.1) (fun e => by have := H3.out.2.2.2.2.1; simp only at e; omega) _, there_setCell (there_below H3.out.2.1 HB5'.out (by have := H3.out.2.2.2.1; have := H3.out.2.2.2.2.1; omega)) _ _ _⟩
      rw [pk_take_drop]
      exact ownsRow_setCell_other HO5.out hne _)
    have hs5 : W3.heap.size ≤ (w5.setCell ⟨a, 0, none⟩ (.slice A5 (N - 1) c5)).heap.size := by have := HB5'.out.size; simp only [World.size_setCell]; omega
    clear HB5' HO5 HB5 HO4 HB4 ca5 fa5 ca4 fa4
    generalize (w5.setCell ⟨a, 0, none⟩ (.slice A5 (N - 1) c5)) = W6 at *
    go_wp2_with (first
      | (refine wpList_load_mid rfl 31 _ rfl b6 0 rfl [.int .i64 f, .int .i64 t, .slice A2 b.length c2] _ HW6.out.2.2.2.1 Try.underlying31 rfl (by kernel_rfl) ?_)
      | (refine wpList_store_mid rfl 31 _ _ rfl w.heap.size 0 [.int .i64 f, .int .i64 t, .slice A2 b.length c2].toArray rfl rfl HW6.out.2.2.2.2 (by kernel_rfl) (all_oneCell_toArray (pk3_one _ _ _ _ _)) ?_))
    refine ret_cell 4 5 31 rfl w.heap.size [.int .i64 f, .int .i64 t, .slice A2 b.length c2] _ rfl (World.rangeAt_setCells_same _ _ _ _ HW6.out.2.2.2.2) Try.underlying31 rfl (by kernel_rfl) rfl ?_
    have hw3 : w.heap.size < W3.heap.size := by have := H3.out.2.2.2.1; have := H3.out.2.2.2.2.1; omega
    have K6 : Kept (fun b' => b' = w.heap.size) W6 (W6.setCells w.heap.size 0 [.int .i64 f, .int .i64 t, .slice A2 b.length c2]) := kept_setCells (S := fun b' => b' = w.heap.size) w.heap.size rfl _ _ (Kept.refl _ _)
    have K36 : Kept (fun b' => foot a (.slice (some ⟨g, 0, none⟩) N c0) b' ∨ b' = w.heap.size) W3 (W6.setCells w.heap.size 0 [.int .i64 f, .int .i64 t, .slice A2 b.length c2]) := (HW6.out.2.2.1.mono (fun _ _ h => .inl h)).trans K6 (fun b' _ e => .inr e)
    have K06 : Kept (foot a (.slice (some ⟨g, 0, none⟩) N c0)) w (W6.setCells w.heap.size 0 [.int .i64 f, .int .i64 t, .slice A2 b.length c2]) := (Kept.of_below H3.out.1 : Kept (foot a (.slice (some ⟨g, 0, none⟩) N c0)) w W3).trans K36 (fun b' hb' e => e.elim id (fun e => by omega))
    have hPL : (ps.eraseIdx k).length = N - 1 := by rw [List.length_eraseIdx_of_lt (by have := HNN.out; omega), HNN.out]
    refine ⟨A2, c2, rfl, ?_, .slice A5 (N - 1) c5, vs.eraseIdx k, ⟨HN.out.lo, ?_, ?_, ?_, ?_⟩, K06, fun q hq => .inr (by have := (HLT5.out q hq).1; omega)⟩
    · refine K36.own H3.out.2.2.2.2.2 (fun q hq e => ?_)
      rcases e with (rfl | e) | rfl
      · exact own_apart_one H3.out.2.2.2.2.2 HN3.out.cell (by decide) hq
      · exact own_apart H3.out.2.2.2.2.2 (by have := HN3.out.row; rw [HNN.out] at this; exact this) (by decide) hq e
      · exact HNE2.out hq
    · exact (K6.block a (by omega) (by omega)).trans HW6.out.1
    · rw [hPL]
      exact own_moreN (K6.own HW6.out.2.1 (fun q hq e => by have := (HLT5.out q hq).1; omega)) (by omega)
    · rw [hPL, List.length_eraseIdx_of_lt (by rw [HN.out.len, HNN.out]; exact hkN), HN.out.len, HNN.out]
    · intro i x p h1 h2
      rw [List.getElem?_eraseIdx] at h1 h2
      split at h1
      · rename_i hi
        rw [if_pos hi] at h2
        exact HN.out.old K06 h1 h2
      · rename_i hi
        rw [if_neg hi] at h2
        exact HN.out.old K06 h1 h2
end
end Go.Proofs.Ytlgkgmnnmlhaeaa
