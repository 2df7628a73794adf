import Derived.Test.YtlgkgmnnmlhaeaaNet4
namespace Go.Proofs.Ytlgkgmnnmlhaeaa
open Go.RowKit
set_option linter.unusedVariables false

theorem pk3_one (f t : Int) (A : Option Addr) (n c : Nat) : ∀ u ∈ [Value.int .i64 f, .int .i64 t, .slice A n c], u.oneCell' = true := by
  intro u hu
  simp at hu
  rcases hu with rfl | rfl | rfl <;> rfl
def RetPeek (w : World) (p : Pk) (e : Ending) (w' : World) : Prop :=
  ∃ A c, e = .returned (.tuple #[.agg #[.int .i64 p.f, .int .i64 p.t, .slice A p.b.length c], .bool true]) ∧ w'.ownsRow w.heap.size 5 1 (.slice A p.b.length c) p.b.length (bc p.b) ∧ p.b.length ≤ c ∧ c ≤ maxLen ∧ Below w.heap.size w w'
theorem kept_range {S : Nat → Prop} {w w1 : World} {b o : Nat} {cs : List Value} (hk : Kept S w w1) (h : w.rangeAt b o cs) (hb : b < w.heap.size) (hS : ¬ S b) : w1.rangeAt b o cs := fun j v hv => by
  rw [hk.cell (a := ⟨b, o + j, none⟩) hb hS]; exact h j v hv
theorem kept_there {S : Nat → Prop} {w w1 : World} {b o n : Nat} (hk : Kept S w w1) (h : w.there b o n) (hb : b < w.heap.size) (hS : ¬ S b) : w1.there b o n := fun j hj => by
  rw [hk.cell (a := ⟨b, o + j, none⟩) hb hS, hk.frozen (a := ⟨b, o + j, none⟩) hb hS]; exact h j hj
/-- A packet is handed back, and the net has these. -/
def RetDel (B : Nat) (w : World) (a : Nat) (v : Value) (p : Pk) (ps : List Pk) (e : Ending) (w' : World) : Prop :=
  ∃ A c, e = .returned (.tuple #[.agg #[.int .i64 p.f, .int .i64 p.t, .slice A p.b.length c], .bool true]) ∧ w'.ownsRow w.heap.size 5 1 (.slice A p.b.length c) p.b.length (bc p.b) ∧ p.b.length ≤ c ∧ c ≤ maxLen ∧ NetNow B w a v ps w'
theorem NetAt.one {B : Nat} {w : World} {a : Nat} {v : Value} {vs : List PkV} {ps : List Pk} (h : NetAt B w a v vs ps) : ∀ u ∈ pkCells vs, u.oneCell' = true := by
  intro u hu
  simp only [pkCells, List.mem_flatMap] at hu
  obtain ⟨x, hx, hu⟩ := hu
  obtain ⟨i, hi, rfl⟩ := List.getElem_of_mem hx
  have hi2 : i < ps.length := by rw [← h.len]; exact hi
  obtain ⟨_, _, ho⟩ := h.pks i vs[i] ps[i] (List.getElem?_eq_getElem hi) (List.getElem?_eq_getElem hi2)
  obtain ⟨A, c, hv, _⟩ := Owns.form (Or.inl ho)
  simp only [PkV.cells, List.mem_cons, List.mem_nil_iff, or_false] at hu
  rcases hu with rfl | rfl | rfl
  · rfl
  · rfl
  · rw [hv]; rfl
section
variable (B : Nat) (w : World) (a : Nat) (v : Value) (vs : List PkV) (ps : List Pk) (hN : NetAt B w a v vs ps) (hps : ps.length ≤ 200)
include hN hps

set_option maxRecDepth 100000 in
set_option maxHeartbeats 4000000 in
theorem peek_some (k : Nat) (p : Pk) (hk : ps[k]? = some p) (hpl : p.b.length ≤ 131072) : Calls Try.prog 16 #[.pointer (some ⟨a, 0, none⟩), .int .i64 k] w (RetPeek w p) := by
  obtain ⟨N, HNN⟩ : ∃ N, Hid (ps.length = N) := ⟨_, Lib.hid rfl⟩
  have hkN : k < N := by rw [← HNN.out]; exact (List.getElem?_eq_some_iff.1 hk).1
  have hN200 : N ≤ 200 := by have := HNN.out; omega
  have hrow := hN.row
  rw [HNN.out] at hrow
  obtain ⟨g, c, rfl, hgc, hgm, hgb, hgl, hgo⟩ := own_head (Or.inl hrow) (by omega)
  obtain ⟨x, hx⟩ : ∃ x, vs[k]? = some x := ⟨_, List.getElem?_eq_getElem (by have := hN.len; have := HNN.out; omega)⟩
  obtain ⟨pf, pt, po⟩ := hN.pks k x p hx hk
  obtain ⟨Ab, cb, hxv, hbc, hbm, hbr⟩ := Owns.form (Or.inl po)
  obtain ⟨f, t, xv⟩ := x
  obtain ⟨f', t', b⟩ := p
  simp only at pf pt hxv hbc hbr hpl
  subst pf pt hxv
  have hcl := flat_own PkV.cells_length hgo hx
  have HG : Hid (w.rangeAt g (k * 3) [.int .i64 f, .int .i64 t, .slice Ab b.length cb]) := Lib.hid fun j u hu => (hcl j u hu).1
  have HL : Hid (∀ W, Below w.heap.size w W → Calls Try.prog 12 #[.pointer (some ⟨a, 0, none⟩)] W fun e w' => e = .returned (.int .i64 N) ∧ W = w') := Lib.hid fun W hb => len_any W a _ N c (by simp [maxLen]; omega) (by rw [hb.cell hN.lt]; exact cell_of_one hN.cell)
  have HBR := Lib.hid hbr
  have HCA : Hid (w.cell? ⟨a, 0, none⟩ = some (.slice (some ⟨g, 0, none⟩) N c) ∧ a < w.heap.size) := Lib.hid ⟨cell_of_one hN.cell, hN.lt⟩
  have hk0 : decide ((k : Int) < 0) = false := by simp
  have hk1 : decide (N ≤ k) = false := by simp; omega
  clear hN hps hrow hx hk hcl hgo hgb po hbr hbc
  go_enter Try.func16, Try.ntmps16
  go_upto_region 3 with (first
    | (refine wpList_unguard rfl ?_)
    | (go_at_call 12; ((with_reducible refine (HL.out _ ((Below.refl _ _).alloc (Nat.le_refl _) _)).mono ?_); rintro e w' ⟨rfl, rfl⟩)))
  have HW : Hid (Below w.heap.size w (w.alloc (.cells #[.int .i64 0, .int .i64 0, .slice none 0 0] 31)) ∧ (w.alloc (.cells #[.int .i64 0, .int .i64 0, .slice none 0 0] 31)).there w.heap.size 0 3 ∧ w.heap.size < (w.alloc (.cells #[.int .i64 0, .int .i64 0, .slice none 0 0] 31)).heap.size) :=
    Lib.hid ⟨(Below.refl _ _).alloc (Nat.le_refl _) _, there_new w [.int .i64 0, .int .i64 0, .slice none 0 0] _, by rw [alloc_size]; omega⟩
  have ca : (w.alloc (.cells #[.int .i64 0, .int .i64 0, .slice none 0 0] 31)).cell? ⟨a, 0, none⟩ = some (.slice (some ⟨g, 0, none⟩) N c) := (World.cell?_alloc_lt _ _ _ HCA.out.2).trans HCA.out.1
  generalize (w.alloc (.cells #[.int .i64 0, .int .i64 0, .slice none 0 0] 31)) = W1 at *
  have HCP : Hid (Calls Try.prog 26 #[.agg #[.int .i64 f, .int .i64 t, .slice Ab b.length cb]] W1 (RetPk W1 f t b)) := Lib.hid (copied_any W1 f t Ab b.length cb w.heap.size b (HBR.out.below HW.out.1) HW.out.1.size (by omega))
  have HG1 : Hid (W1.rangeAt g (k * 3) [.int .i64 f, .int .i64 t, .slice Ab b.length cb]) := Lib.hid (range_below_at HG.out HW.out.1 hgl)
  go_wp2_with (first
    | (refine wpList_load_mid rfl 31 _ rfl g (k * 3) rfl [.int .i64 f, .int .i64 t, .slice Ab b.length cb] _ HG1.out Try.underlying31 rfl (by kernel_rfl) ?_)
    | (go_at_call 26; ((with_reducible refine HCP.out.mono ?_); rintro e w2 ⟨A2, c2, rfl, ho2, hc2, hm2, hb2⟩; have HO2 := Lib.hid ho2; have HB2 := Lib.hid hb2; have HC2 := Lib.hid hc2; clear ho2 hb2 hc2))
    | (refine wpList_store_mid rfl 31 _ _ rfl w.heap.size 0 [.int .i64 f, .int .i64 t, .slice A2 b.length c2].toArray rfl rfl (there_below HW.out.2.1 HB2.out HW.out.2.2) (by kernel_rfl) (all_oneCell_toArray (pk3_one _ _ _ _ _)) ?_))
  have hne : (Value.slice A2 b.length c2).ownBlock ≠ some w.heap.size := fun e => by have := (HO2.out.lt _ e).1; have := HW.out.2.2; omega
  refine ret_cell 4 5 31 rfl w.heap.size [.int .i64 f, .int .i64 t, .slice A2 b.length c2] _ rfl (World.rangeAt_setCells_same _ _ _ _ (there_below HW.out.2.1 HB2.out HW.out.2.2)) Try.underlying31 rfl (by kernel_rfl) rfl ?_
  refine ⟨A2, c2, rfl, ?_, HC2.out, hm2, Below.setCells _ (Nat.le_refl _) _ _ (HW.out.1.trans (HB2.out.mono HW.out.1.size))⟩
  exact ownsRow_setCell_other (ownsRow_setCell_other (ownsRow_setCell_other (own_moreN HO2.out HW.out.1.size) hne _) hne _) hne _

set_option maxRecDepth 100000 in
set_option maxHeartbeats 4000000 in
theorem deliver_some (hB : B ≤ w.heap.size) (k : Nat) (p : Pk) (hk : ps[k]? = some p) (hpl : p.b.length ≤ 131072) : Calls Try.prog 11 #[.pointer (some ⟨a, 0, none⟩), .int .i64 k] w (RetDel B w a v p (ps.eraseIdx k)) := by
  obtain ⟨N, HNN⟩ : ∃ N, Hid (ps.length = N) := ⟨_, Lib.hid rfl⟩
  have hkN : k < N := by rw [← HNN.out]; exact (List.getElem?_eq_some_iff.1 hk).1
  have hN200 : N ≤ 200 := by have := HNN.out; omega
  have hrow := hN.row
  rw [HNN.out] at hrow
  obtain ⟨g, c, rfl, hgc, hgm, hgb, hgl, hgo⟩ := own_head (Or.inl hrow) (by omega)
  have HN := Lib.hid hN
  have HGO := Lib.hid hgo
  have HVL : Hid (vs.length = N) := Lib.hid (by rw [hN.len]; exact HNN.out)
  have hag : a ≠ g := fun e => own_apart_one hgo hN.cell (by decide) (by rw [e]; rfl)
  have hal := hN.lt
  have HP : Hid (∀ W, Below w.heap.size w W → Calls Try.prog 16 #[.pointer (some ⟨a, 0, none⟩), .int .i64 k] W (RetPeek W p)) := Lib.hid fun W hb => peek_some B W a _ vs ps (hN.grow hb) hps k p hk hpl
  have HONE : Hid (∀ u ∈ pkCells vs, u.oneCell' = true) := Lib.hid hN.one
  have HD : Hid (∀ W, Below w.heap.size w W → Calls Try.prog 27 #[.slice (some ⟨g, 0, none⟩) N c, .int .i64 k, .int .i64 ((k : Int) + 1)] W fun e w' => e = .returned (.slice (some ⟨g, 0, none⟩) (N - 1) c) ∧ w'.ownsRow B 31 3 (.slice (some ⟨g, 0, none⟩) (N - 1) c) (N - 1) (pkCells (vs.eraseIdx k)) ∧ Kept (fun b => b = g) W w') := Lib.hid fun W hb => by
    have := delete_any W g c N k (k + 1) B vs (own_below hgo hb (Nat.le_refl _)) HVL.out HONE.out hkN rfl (by omega) hgc hgm
    rw [show k + (N - (k + 1)) = N - 1 by omega] at this
    exact this
  obtain ⟨f, t, b⟩ := p
  have HCA : Hid (∀ W, Below w.heap.size w W → W.heap[a]? = some (.cells #[.slice (some ⟨g, 0, none⟩) N c] 27 (0, 0))) := Lib.hid fun W hb => (hb.block a hal).trans hN.cell
  have HK := Lib.hid hk
  clear hN hps hrow hk hgo
  go_enter Try.func11, Try.ntmps11
  go_upto_region 1 with fail
  have HW : Hid (Below w.heap.size w (w.alloc (.cells #[.int .i64 0, .int .i64 0, .slice none 0 0] 31)) ∧ (w.alloc (.cells #[.int .i64 0, .int .i64 0, .slice none 0 0] 31)).there w.heap.size 0 3 ∧ w.heap.size + 1 = (w.alloc (.cells #[.int .i64 0, .int .i64 0, .slice none 0 0] 31)).heap.size) :=
    Lib.hid ⟨(Below.refl _ _).alloc (Nat.le_refl _) _, there_new w [.int .i64 0, .int .i64 0, .slice none 0 0] _, by rw [alloc_size]⟩
  generalize (w.alloc (.cells #[.int .i64 0, .int .i64 0, .slice none 0 0] 31)) = W1 at *
  have HP1 := Lib.hid (HP.out W1 HW.out.1)
  go_upto_region 2 with (go_at_call 16; ((with_reducible refine HP1.out.mono ?_); rintro e w2 ⟨A2, c2, rfl, ho2, hc2, hm2, hb2⟩))
  have HO2 := Lib.hid ho2
  have HC2 := Lib.hid hc2
  have H3 : Hid (Below w.heap.size w (w2.alloc (.cells #[.int .i64 f, .int .i64 t, .slice A2 b.length c2] 31)) ∧ Below W1.heap.size W1 (w2.alloc (.cells #[.int .i64 f, .int .i64 t, .slice A2 b.length c2] 31)) ∧ (w2.alloc (.cells #[.int .i64 f, .int .i64 t, .slice A2 b.length c2] 31)).rangeAt w2.heap.size 0 [.int .i64 f, .int .i64 t, .slice A2 b.length c2] ∧ w2.heap.size < (w2.alloc (.cells #[.int .i64 f, .int .i64 t, .slice A2 b.length c2] 31)).heap.size ∧ W1.heap.size ≤ w2.heap.size) :=
    Lib.hid ⟨(HW.out.1.trans (hb2.mono HW.out.1.size)).alloc (by have := HW.out.1.size; have := hb2.size; omega) _, hb2.alloc hb2.size _, range_new w2 [.int .i64 f, .int .i64 t, .slice A2 b.length c2] _, by rw [alloc_size]; omega, hb2.size⟩
  have HO3 : Hid ((w2.alloc (.cells #[.int .i64 f, .int .i64 t, .slice A2 b.length c2] 31)).ownsRow W1.heap.size 5 1 (.slice A2 b.length c2) b.length (bc b)) := Lib.hid (ho2.kept (World.grownBy_alloc w2 _ none) (by cases (Value.slice A2 b.length c2).ownBlock <;> simp))
  have HLT2 : Hid (∀ q, (Value.slice A2 b.length c2).ownBlock = some q → W1.heap.size ≤ q ∧ q < w2.heap.size) := Lib.hid (ho2.lt)
  clear hb2 ho2 hc2 HO2
  generalize (w2.alloc (.cells #[.int .i64 f, .int .i64 t, .slice A2 b.length c2] 31)) = W3 at *
  generalize w2.heap.size = b6 at *
  have hca3 := HCA.out W3 H3.out.1
  have ca : W3.cell? ⟨a, 0, none⟩ = some (.slice (some ⟨g, 0, none⟩) N c) := cell_of_one hca3
  have HD3 := Lib.hid (HD.out W3 H3.out.1)
  have HCA3 := Lib.hid hca3
  clear hca3
  go_upto_region 4 with (go_at_call 27; ((with_reducible refine HD3.out.mono ?_); rintro e w4 ⟨rfl, ho4, hk4⟩; have HO4 := Lib.hid ho4; have HK4 := Lib.hid hk4; have HC4 : Hid (w4.heap[a]? = some (.cells #[.slice (some ⟨g, 0, none⟩) N c] 27 (0, 0))) := Lib.hid ((hk4.block a (by have := H3.out.1.size; omega) hag).trans HCA3.out); have ca4 := cell_of_one HC4.out; have fa4 := free_of_one HC4.out; clear ho4 hk4))
  have hs3 : w.heap.size < W3.heap.size := by have := HW.out.2.2; have := H3.out.2.1.size; omega
  have hb6 : w.heap.size < b6 := by have := HW.out.2.2; have := H3.out.2.2.2.2; omega
  have HR5 : Hid ((w4.setCell ⟨a, 0, none⟩ (.slice (some ⟨g, 0, none⟩) (N - 1) c)).rangeAt b6 0 [.int .i64 f, .int .i64 t, .slice A2 b.length c2]) := Lib.hid (range_setCell_other (kept_range HK4.out H3.out.2.2.1 H3.out.2.2.2.1 (fun e => by omega)) (fun e => by simp only at e; omega) _)
  have HT5 : Hid ((w4.setCell ⟨a, 0, none⟩ (.slice (some ⟨g, 0, none⟩) (N - 1) c)).there w.heap.size 0 3) := Lib.hid (there_setCell (kept_there HK4.out (there_below HW.out.2.1 H3.out.2.1 (by have := HW.out.2.2; omega)) hs3 (fun e => by omega)) _ _ _)
  have K5 : Hid (Kept (foot a (.slice (some ⟨g, 0, none⟩) N c)) w (w4.setCell ⟨a, 0, none⟩ (.slice (some ⟨g, 0, none⟩) (N - 1) c))) := Lib.hid (((Kept.of_below H3.out.1 : Kept (foot a (.slice (some ⟨g, 0, none⟩) N c)) w W3).trans HK4.out (fun b' _ e => .inr (by rw [e]; rfl))).setCell (fun _ => .inl rfl) _)
  have HN5 : Hid ((w4.setCell ⟨a, 0, none⟩ (.slice (some ⟨g, 0, none⟩) (N - 1) c)).heap[a]? = some (.cells #[.slice (some ⟨g, 0, none⟩) (N - 1) c] 27 (0, 0)) ∧ (w4.setCell ⟨a, 0, none⟩ (.slice (some ⟨g, 0, none⟩) (N - 1) c)).ownsRow B 31 3 (.slice (some ⟨g, 0, none⟩) (N - 1) c) (N - 1) (pkCells (vs.eraseIdx k))) := Lib.hid
    ⟨one_setCell HC4.out, ownsRow_setCell_other HO4.out (by intro e; injection e with e; exact hag e.symm) _⟩
  have HB5 : Hid ((w4.setCell ⟨a, 0, none⟩ (.slice (some ⟨g, 0, none⟩) (N - 1) c)).ownsRow W1.heap.size 5 1 (.slice A2 b.length c2) b.length (bc b)) := Lib.hid (ownsRow_setCell_other (HK4.out.own HO3.out (fun q hq e => by have := (HLT2.out q hq).1; have := HW.out.2.2; omega)) (fun e => by have := (HLT2.out a e).1; have := HW.out.2.2; omega) _)
  clear HO4 HK4 HC4 ca4 fa4
  generalize (w4.setCell ⟨a, 0, none⟩ (.slice (some ⟨g, 0, none⟩) (N - 1) c)) = W5 at *
  go_wp2_with (first
    | (refine wpList_load_mid rfl 31 _ rfl b6 0 rfl [.int .i64 f, .int .i64 t, .slice A2 b.length c2] _ HR5.out Try.underlying31 rfl (by kernel_rfl) ?_)
    | (refine wpList_store_mid rfl 31 _ _ rfl w.heap.size 0 [.int .i64 f, .int .i64 t, .slice A2 b.length c2].toArray rfl rfl HT5.out (by kernel_rfl) (all_oneCell_toArray (pk3_one _ _ _ _ _)) ?_))
  refine ret_cell 4 5 31 rfl w.heap.size [.int .i64 f, .int .i64 t, .slice A2 b.length c2] _ rfl (World.rangeAt_setCells_same _ _ _ _ HT5.out) Try.underlying31 rfl (by kernel_rfl) rfl ?_
  have K6 : Kept (fun b' => b' = w.heap.size) W5 (W5.setCells w.heap.size 0 [.int .i64 f, .int .i64 t, .slice A2 b.length c2]) := kept_setCells (S := fun b' => b' = w.heap.size) w.heap.size rfl _ _ (Kept.refl _ _)
  have K06 : Kept (foot a (.slice (some ⟨g, 0, none⟩) N c)) w (W5.setCells w.heap.size 0 [.int .i64 f, .int .i64 t, .slice A2 b.length c2]) := K5.out.trans K6 (fun b' hb' e => by omega)
  have hPL : (ps.eraseIdx k).length = N - 1 := by rw [List.length_eraseIdx_of_lt (by have := HNN.out; omega), HNN.out]
  refine ⟨A2, c2, rfl, ?_, HC2.out, hm2, .slice (some ⟨g, 0, none⟩) (N - 1) c, vs.eraseIdx k, ⟨HN.out.lo, ?_, ?_, ?_, ?_⟩, K06, fun q hq => .inl hq⟩
  · exact own_moreN (K6.own HB5.out (fun q hq e => by have := (HLT2.out q hq).1; have := HW.out.2.2; omega)) HW.out.1.size
  · exact (K6.block a (by have := K5.out.size; omega) (by omega)).trans HN5.out.1
  · rw [hPL]
    exact K6.own HN5.out.2 (fun q hq e => by injection hq with hq; simp only at hq; omega)
  · rw [hPL, List.length_eraseIdx_of_lt (by rw [HVL.out]; exact hkN), HVL.out]
  · intro i x p h1 h2
    rw [List.getElem?_eraseIdx] at h1 h2
    split at h1
    · rename_i hi
      rw [if_pos hi] at h2
      exact HN.out.old K06 h1 h2
    · rename_i hi
      rw [if_neg hi] at h2
      exact HN.out.old K06 h1 h2
end
end Go.Proofs.Ytlgkgmnnmlhaeaa
