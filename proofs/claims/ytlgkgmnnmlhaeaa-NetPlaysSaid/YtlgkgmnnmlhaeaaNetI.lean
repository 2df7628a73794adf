import Derived.Test.YtlgkgmnnmlhaeaaNetH
namespace Go.Proofs.Ytlgkgmnnmlhaeaa
open Go.RowKit
set_option linter.unusedVariables false

/-- The reference hands out the very packet. -/
def RetRef (w : World) (p : Pk) (e : Ending) (w' : World) : Prop :=
  ∃ A c, e = .returned (.tuple #[.agg #[.int .i64 p.f, .int .i64 p.t, .slice A p.b.length c], .bool true]) ∧ w'.ownsRow 0 5 1 (.slice A p.b.length c) p.b.length (bc p.b) ∧ Below w.heap.size w w'
section
variable (B : Nat) (w : World) (a : Nat) (v : Value) (vs : List PkV) (ps : List Pk) (hN : RefAt B w a v vs ps) (hps : ps.length ≤ 200)
include hN hps
set_option maxRecDepth 100000 in
set_option maxHeartbeats 4000000 in
theorem rpeek_some (k : Nat) (p : Pk) (hk : ps[k]? = some p) : Calls Try.prog 23 #[.pointer (some ⟨a, 0, none⟩), .int .i64 k] w (RetRef w p) := by
  obtain ⟨N, HNN⟩ : ∃ N, Hid (ps.length = N) := ⟨_, Lib.hid rfl⟩
  have hkN : k < N := by rw [← HNN.out]; exact (List.getElem?_eq_some_iff.1 hk).1
  have hN200 : N ≤ 200 := by have := HNN.out; omega
  have hrow := hN.row
  rw [HNN.out] at hrow
  obtain ⟨g, c, rfl, hgc, hgm, hgb, hgl, hgo⟩ := own_head (Or.inl hrow) (by omega)
  obtain ⟨x, hx⟩ : ∃ x, vs[k]? = some x := ⟨_, List.getElem?_eq_getElem (by have := hN.len; have := HNN.out; omega)⟩
  obtain ⟨pf, pt, po⟩ := hN.pks k x p hx hk
  obtain ⟨Ab, cb, hxv, hbc, hbm, hbr⟩ := Owns.form (Or.inl po)
  obtain ⟨f, t, xv⟩ := x
  obtain ⟨f', t', b⟩ := p
  simp only at pf pt hxv hbc hbr
  subst pf pt hxv
  have hcl := flat_own PkV.cells_length hgo hx
  have HG : Hid (w.rangeAt g (k * 3) [.int .i64 f, .int .i64 t, .slice Ab b.length cb]) := Lib.hid fun j u hu => (hcl j u hu).1
  have HPO := Lib.hid po
  have ca : (w.alloc (.cells #[.int .i64 0, .int .i64 0, .slice none 0 0] 31)).cell? ⟨a, 0, none⟩ = some (.slice (some ⟨g, 0, none⟩) N c) := (World.cell?_alloc_lt _ _ _ hN.lt).trans (cell_of_one hN.cell)
  have hk0 : decide ((k : Int) < 0) = false := by simp
  have hk1 : decide (N ≤ k) = false := by simp; omega
  clear hN hps hrow hx hk hcl hgo hgb po hbr hbc
  go_enter Try.func23, Try.ntmps23
  go_wp2_with (first
    | (refine wpList_unguard rfl ?_)
    | (refine wpList_load_mid rfl 31 _ rfl g (k * 3) rfl [.int .i64 f, .int .i64 t, .slice Ab b.length cb] _ (World.rangeAt_alloc HG.out _) Try.underlying31 rfl (by kernel_rfl) ?_)
    | (refine wpList_store_mid rfl 31 _ _ rfl w.heap.size 0 [.int .i64 f, .int .i64 t, .slice Ab b.length cb].toArray rfl rfl (HZ3 w) (by kernel_rfl) (all_oneCell_toArray (pk3_one _ _ _ _ _)) ?_))
  refine ret_cell 4 5 31 rfl w.heap.size [.int .i64 f, .int .i64 t, .slice Ab b.length cb] _ rfl (World.rangeAt_setCells_same _ _ _ _ (HZ3 w)) Try.underlying31 rfl (by kernel_rfl) rfl ?_
  have hb := Below.setCells (B := w.heap.size) (a := w) w.heap.size (Nat.le_refl _) [.int .i64 f, .int .i64 t, .slice Ab b.length cb] 0 ((Below.refl _ _).alloc (Nat.le_refl _) (.cells #[.int .i64 0, .int .i64 0, .slice none 0 0] 31))
  exact ⟨Ab, cb, rfl, own_below HPO.out hb (Nat.le_refl _), hb⟩
set_option maxRecDepth 100000 in
set_option maxHeartbeats 4000000 in
theorem rpeek_none (z : Int) (hz : z < 0 ∨ (ps.length : Int) ≤ z) : Calls Try.prog 23 #[.pointer (some ⟨a, 0, none⟩), .int .i64 z] w (RetNone w) := by
  obtain ⟨N, HNN⟩ : ∃ N, Hid (ps.length = N) := ⟨_, Lib.hid rfl⟩
  rw [HNN.out] at hz
  have hN200 : N ≤ 200 := by have := HNN.out; omega
  obtain ⟨A0, c0, hv0, _⟩ := Owns.form (Or.inl hN.row)
  rw [HNN.out] at hv0
  subst hv0
  have ca : (w.alloc (.cells #[.int .i64 0, .int .i64 0, .slice none 0 0] 31)).cell? ⟨a, 0, none⟩ = some (.slice A0 N c0) := (World.cell?_alloc_lt _ _ _ hN.lt).trans (cell_of_one hN.cell)
  clear hN
  have hways : (z < 0) ∨ (decide (z < 0) = false ∧ (N : Int) ≤ z) := by
    rcases hz with h | h
    · exact .inl h
    · right; exact ⟨by simp; omega, h⟩
  clear hz
  rcases hways with h1 | ⟨h1, h2⟩
  all_goals
    go_enter Try.func23, Try.ntmps23
    go_wp2_with (first
      | (refine wpList_unguard rfl ?_)
      | (refine wpList_store_mid rfl 31 _ _ rfl w.heap.size 0 [.int .i64 0, .int .i64 0, .slice none 0 0].toArray rfl rfl (HZ3 w) (by kernel_rfl) (all_oneCell_toArray (pk3_one _ _ _ _ _)) ?_))
    refine ret_cell 4 5 31 rfl w.heap.size [.int .i64 0, .int .i64 0, .slice none 0 0] _ rfl (World.rangeAt_setCells_same _ _ _ _ (HZ3 w)) Try.underlying31 rfl (by kernel_rfl) rfl ?_
    exact ⟨rfl, Below.setCells _ (Nat.le_refl _) _ _ ((Below.refl _ _).alloc (Nat.le_refl _) _)⟩
end
end Go.Proofs.Ytlgkgmnnmlhaeaa
