import Derived.Test.YtlgkgmnnmlhaeaaNetB
namespace Go.Proofs.Ytlgkgmnnmlhaeaa
open Go.RowKit
set_option linter.unusedVariables false

def hitP (d : Int) (p : Pk) : Bool := decide (p.f = d) || decide (p.t = d)
theorem NetAt.slices {B : Nat} {w : World} {a : Nat} {v : Value} {vs : List PkV} {ps : List Pk} (h : NetAt B w a v vs ps) : ∀ x ∈ vs, ∃ A n c, x.v = .slice A n c := by
  intro x hx
  obtain ⟨i, hi, rfl⟩ := List.getElem_of_mem hx
  have hi2 : i < ps.length := by rw [← h.len]; exact hi
  obtain ⟨_, _, ho⟩ := h.pks i vs[i] ps[i] (List.getElem?_eq_getElem hi) (List.getElem?_eq_getElem hi2)
  obtain ⟨A, c, hv, _⟩ := Owns.form (Or.inl ho)
  exact ⟨_, _, _, hv⟩
/-- The two lists are parted alike. -/
theorem filter_alike {d : Int} : ∀ (vs : List PkV) (ps : List Pk), vs.length = ps.length → (∀ (i : Nat) x p, vs[i]? = some x → ps[i]? = some p → x.f = p.f ∧ x.t = p.t) →
    (vs.filter (keepB d)).length = (ps.filter (fun p => !hitP d p)).length ∧ ∀ (i : Nat) x p, (vs.filter (keepB d))[i]? = some x → (ps.filter (fun p => !hitP d p))[i]? = some p → ∃ j : Nat, vs[j]? = some x ∧ ps[j]? = some p
  | [], [], _, _ => ⟨rfl, fun i x p h => by simp at h⟩
  | [], p :: ps, h, _ => by simp at h
  | x :: vs, [], h, _ => by simp at h
  | x :: vs, p :: ps, h, ha => by
    obtain ⟨h1, h2⟩ := filter_alike (d := d) vs ps (by simpa using h) (fun i y q hy hq => ha (i + 1) y q (by simpa using hy) (by simpa using hq))
    obtain ⟨e1, e2⟩ := ha 0 x p rfl rfl
    have hk : keepB d x = (!hitP d p) := by simp [keepB, hitB, hitP, e1, e2]
    cases hh : hitP d p
    · rw [List.filter_cons_of_pos (by rw [hk, hh]; rfl), List.filter_cons_of_pos (by rw [hh]; rfl)]
      refine ⟨by simp [h1], fun i y q hy hq => ?_⟩
      cases i with
      | zero => simp at hy hq; subst hy hq; exact ⟨0, rfl, rfl⟩
      | succ i =>
        obtain ⟨j, g1, g2⟩ := h2 i y q (by simpa using hy) (by simpa using hq)
        exact ⟨j + 1, by simpa using g1, by simpa using g2⟩
    · rw [List.filter_cons_of_neg (by rw [hk, hh]; simp), List.filter_cons_of_neg (by rw [hh]; simp)]
      refine ⟨h1, fun i y q hy hq => ?_⟩
      obtain ⟨j, g1, g2⟩ := h2 i y q hy hq
      exact ⟨j + 1, by simpa using g1, by simpa using g2⟩

section
variable (B : Nat) (w : World) (a : Nat) (v : Value) (vs : List PkV) (ps : List Pk) (hN : NetAt B w a v vs ps) (hps : ps.length ≤ 200)
include hN hps
set_option maxRecDepth 100000 in
set_option maxHeartbeats 4000000 in
theorem clear_any (d : Int) : Calls Try.prog 15 #[.pointer (some ⟨a, 0, none⟩), .int .i64 d] w fun e w' =>
    e = .returned (.int .i64 ((ps.length : Int) - ((ps.filter (fun p => !hitP d p)).length : Nat))) ∧ NetNow B w a v (ps.filter (fun p => !hitP d p)) w' := by
  obtain ⟨N, HNN⟩ : ∃ N, Hid (ps.length = N) := ⟨_, Lib.hid rfl⟩
  have hN200 : N ≤ 200 := by have := HNN.out; omega
  obtain ⟨hf1, hf2⟩ := filter_alike (d := d) vs ps hN.len (fun i x p h1 h2 => ⟨(hN.pks i x p h1 h2).f, (hN.pks i x p h1 h2).t⟩)
  have HF := Lib.hid (And.intro hf1 hf2)
  have HN := Lib.hid hN
  obtain ⟨m, HM⟩ : ∃ m, Hid ((ps.filter (fun p => !hitP d p)).length = m) := ⟨_, Lib.hid rfl⟩
  rw [HNN.out, HM.out]
  have hmN : m ≤ N := by rw [← HM.out, ← HNN.out]; exact List.length_filter_le _ _
  obtain ⟨A0, c0, hv0, _⟩ := Owns.form (Or.inl hN.row)
  rw [HNN.out] at hv0
  have HLE : Hid (∀ W, Below w.heap.size w W → Calls Try.prog 12 #[.pointer (some ⟨a, 0, none⟩)] W fun e w' => e = .returned (.int .i64 N) ∧ W = w') := Lib.hid fun W hb => len_any W a A0 N c0 (by simp [maxLen]; omega) (by rw [hb.cell hN.lt, cell_of_one hN.cell, hv0])
  rcases Nat.eq_zero_or_pos N with h0 | h0
  · subst h0
    have hm0 : m = 0 := by omega
    subst hm0
    have HP0 : Hid (ps = []) := Lib.hid (List.eq_nil_of_length_eq_zero HNN.out)
    clear hN hf1 hf2 hv0
    go_enter Try.func15, Try.ntmps15
    go_wp2_with (go_at_call 12; ((with_reducible refine (HLE.out _ ((Below.refl _ _).alloc (Nat.le_refl _) _)).mono ?_); rintro e w' ⟨rfl, rfl⟩))
    go_ret
    have hb := (Below.refl w.heap.size w).alloc (Nat.le_refl _) (.cells #[.int .i64 d] 3)
    refine ⟨rfl, v, vs, ?_, Kept.of_below hb, fun g hg => .inl hg⟩
    have := HN.out.grow hb
    rw [HP0.out] at this ⊢
    exact this
  · have hrow := hN.row
    rw [HNN.out] at hrow
    obtain ⟨g, c, rfl, hgc, hgm, hgb, hgl, hgo⟩ := own_head (Or.inl hrow) h0
    injection hv0 with e1 _ e3
    subst e1 e3
    have hag : a ≠ g := fun e => own_apart_one hgo hN.cell (by decide) (by rw [e]; rfl)
    have hal := hN.lt
    have HLF : Hid ((vs.filter (keepB d)).length = m) := Lib.hid (by rw [hf1]; exact HM.out)
    have HD : Hid (∀ W, W = w.alloc (.cells #[.int .i64 d] 3) → Calls Try.prog 29 #[.slice (some ⟨g, 0, none⟩) N c, .func (.func 30) #[] #[.pointer (some ⟨w.heap.size, 0, none⟩)]] W fun e w' =>
        e = .returned (.slice (some ⟨g, 0, none⟩) m c) ∧ w'.ownsRow B 31 3 (.slice (some ⟨g, 0, none⟩) m c) m (pkCells (vs.filter (keepB d))) ∧ Kept (fun b => b = g) W w') := Lib.hid fun W hW => by
      have hb : Below w.heap.size w W := by rw [hW]; exact (Below.refl _ _).alloc (Nat.le_refl _) _
      have := delfunc_any W g c N B vs d ⟨w.heap.size, 0, none⟩ (own_below hgo hb (Nat.le_refl _)) (by rw [hN.len]; exact HNN.out) hN.slices (by omega) hgc hgm (by rw [hW]; exact World.cell?_alloc_at _ _ _ _ rfl) (by rw [hW, alloc_size]; exact Nat.lt_succ_self _) (by show w.heap.size ≠ g; omega)
      rw [HLF.out] at this
      exact this
    have HC0 : Hid (w.heap[a]? = some (.cells #[.slice (some ⟨g, 0, none⟩) N c] 27 (0, 0))) := Lib.hid hN.cell
    have ca : (w.alloc (.cells #[.int .i64 d] 3)).cell? ⟨a, 0, none⟩ = some (.slice (some ⟨g, 0, none⟩) N c) := (World.cell?_alloc_lt _ _ _ hal).trans (cell_of_one hN.cell)
    have hN0 : ((N : Int) == 0) = false := by simp; omega
    clear hN hf1 hf2 hrow hgo
    go_enter Try.func15, Try.ntmps15
    go_wp2_with (first
      | (go_at_call 12; ((with_reducible refine (HLE.out _ ((Below.refl _ _).alloc (Nat.le_refl _) _)).mono ?_); rintro e w' ⟨rfl, rfl⟩))
      | (go_at_call 29; refine (HD.out _ rfl).mono ?_; rintro e w4 ⟨rfl, ho4, hk4⟩; have HO4 := Lib.hid ho4; have HK4 := Lib.hid hk4; have HC4 : Hid (w4.heap[a]? = some (.cells #[.slice (some ⟨g, 0, none⟩) N c] 27 (0, 0))) := Lib.hid ((hk4.block a (by rw [alloc_size]; omega) hag).trans ((Below.heap_alloc w _ a hal).trans HC0.out)); have ca4 := cell_of_one HC4.out; have fa4 := free_of_one HC4.out; clear ho4 hk4))
    go_ret
    have K : Kept (foot a (.slice (some ⟨g, 0, none⟩) N c)) w (w4.setCell ⟨a, 0, none⟩ (.slice (some ⟨g, 0, none⟩) m c)) := (((Kept.refl (foot a (.slice (some ⟨g, 0, none⟩) N c)) w).alloc _).trans HK4.out (fun b _ e => .inr (by rw [e]; rfl))).setCell (fun _ => .inl rfl) _
    refine ⟨rfl, .slice (some ⟨g, 0, none⟩) m c, vs.filter (keepB d), ⟨HN.out.lo, one_setCell HC4.out, ?_, HF.out.1, ?_⟩, K, fun q hq => .inl hq⟩
    · rw [HM.out]
      exact ownsRow_setCell_other HO4.out (by intro e; injection e with e; exact hag e.symm) _
    · intro i x p h1 h2
      obtain ⟨j, g1, g2⟩ := HF.out.2 i x p h1 h2
      exact HN.out.old K g1 g2
end
end Go.Proofs.Ytlgkgmnnmlhaeaa
