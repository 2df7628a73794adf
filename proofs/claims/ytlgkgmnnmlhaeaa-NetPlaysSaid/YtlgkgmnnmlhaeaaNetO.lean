/- The net and the reference's net side by side. No condition. -/
import Derived.Test.YtlgkgmnnmlhaeaaNetM
import Derived.Test.YtlgkgmnnmlhaeaaNetN
namespace Go.Proofs.Ytlgkgmnnmlhaeaa
open Go.RowKit
set_option linter.unusedVariables false

theorem RefAt.keep {B : Nat} {w w1 : World} {S : Nat → Prop} {a : Nat} {v : Value} {vs : List PkV} {ps : List Pk} (h : RefAt B w a v vs ps) (hk : Kept S w w1)
    (ha : ¬ S a) (hv : ∀ g, v.ownBlock = some g → ¬ S g) (hb : ∀ g c, w.heap[g]? = some (.cells c 5 (0, 0)) → ¬ S g) : RefAt B w1 a v vs ps := by
  refine ⟨h.lo, ?_, hk.own h.row hv, h.len, fun i x p h1 h2 => ?_⟩
  · rw [hk.block a (Array.getElem?_eq_some_iff.1 h.cell).1 ha]; exact h.cell
  · obtain ⟨g1, g2, g3⟩ := h.pks i x p h1 h2
    refine ⟨g1, g2, hk.own g3 (fun g hg => ?_)⟩
    rcases g3.2 with ⟨e, _⟩ | ⟨g', cap, cur, e, _, hh, _⟩
    · rw [e] at hg; cases hg
    · rw [e] at hg
      simp only [Value.ownBlock, Option.some.injEq] at hg
      subst hg
      exact hb _ _ hh

def Good (ps : List Pk) : Prop := ps.length ≤ 200 ∧ ∀ p ∈ ps, p.b.length ≤ 131072
theorem good_send : ∀ (qs ps : List Pk), Good ps → Good (sendL ps qs)
  | [], ps, h => h
  | q :: qs, ps, h => by
    rw [sendL]
    split
    · rename_i hm
      refine good_send qs _ ⟨?_, fun p hp => ?_⟩
      · simp [mayL] at hm
        simp; omega
      · rcases List.mem_append.1 hp with hp | hp
        · exact h.2 p hp
        · simp at hp
          subst hp
          simp [mayL] at hm
          omega
    · exact good_send qs _ h
theorem good_sub {ps qs : List Pk} (h : Good ps) (hs : qs.Sublist ps) : Good qs := ⟨Nat.le_trans hs.length_le h.1, fun p hp => h.2 p (hs.subset hp)⟩

/-- What lies at an index: the packet, whether there is one; what is left; what doubling leaves. -/
def pkAt (ps : List Pk) (z : Int) : Option Pk := if z < 0 then none else ps[z.toNat]?
def pkOr (o : Option Pk) : Pk := o.getD ⟨0, 0, []⟩
def delAt (ps : List Pk) (z : Int) : List Pk := if (pkAt ps z).isSome then ps.eraseIdx z.toNat else ps
def twAt (ps : List Pk) (z : Int) : Bool := match pkAt ps z with | some p => mayL ps.length p | none => false
def twL (ps : List Pk) (z : Int) : List Pk := match pkAt ps z with | some p => sendL ps [p] | none => ps
theorem pkAt_cases (ps : List Pk) (z : Int) : (∃ k : Nat, z = k ∧ ∃ p, ps[k]? = some p ∧ pkAt ps z = some p ∧ delAt ps z = ps.eraseIdx k) ∨ ((z < 0 ∨ (ps.length : Int) ≤ z) ∧ pkAt ps z = none ∧ delAt ps z = ps) := by
  by_cases h : z < 0
  · right; exact ⟨.inl h, by simp [pkAt, h], by simp [delAt, pkAt, h]⟩
  · by_cases h2 : z.toNat < ps.length
    · left
      have hg : ps[z.toNat]? = some ps[z.toNat] := List.getElem?_eq_getElem h2
      exact ⟨z.toNat, by omega, _, hg, by simp [pkAt, h, hg], by simp [delAt, pkAt, h, hg]⟩
    · right
      have hg : ps[z.toNat]? = none := by simp; omega
      exact ⟨.inr (by omega), by simp only [pkAt, if_neg h, hg], by simp only [delAt, pkAt, if_neg h, hg, Option.isSome_none]; rfl⟩
theorem good_del {ps : List Pk} (h : Good ps) (z : Int) : Good (delAt ps z) := by
  unfold delAt
  split
  · exact good_sub h (List.eraseIdx_sublist _ _)
  · exact h
theorem good_tw {ps : List Pk} (h : Good ps) (z : Int) : Good (twL ps z) := by
  unfold twL
  split
  · exact good_send _ _ h
  · exact h

structure Pair (w W : World) (va : Value) (vsa : List PkV) (psa : List Pk) (vb : Value) (vsb : List PkV) (psb : List Pk) : Prop where
  n : NetAt w.heap.size W w.heap.size va vsa psa
  m : RefAt w.heap.size W (w.heap.size + 1) vb vsb psb
  below : Below w.heap.size w W
  apart : ∀ g, va.ownBlock = some g → vb.ownBlock ≠ some g
section
variable {w W W1 : World} {va vb va1 vb1 : Value} {vsa vsb vsa1 vsb1 : List PkV} {psa psb psa1 psb1 : List Pk}
theorem Pair.grow (h : Pair w W va vsa psa vb vsb psb) (hb : Below W.heap.size W W1) : Pair w W1 va vsa psa vb vsb psb :=
  ⟨h.n.grow hb, h.m.grow hb, h.below.trans (hb.mono h.below.size), h.apart⟩
theorem Pair.alloc (h : Pair w W va vsa psa vb vsb psb) (o : Obj) : Pair w (W.alloc o) va vsa psa vb vsb psb := h.grow ((Below.refl _ _).alloc (Nat.le_refl _) o)
theorem Pair.drewN (h : Pair w W va vsa psa vb vsb psb) (k : Nat) : Pair w (W.drewN k) va vsa psa vb vsb psb := h.grow (below_drewN (Below.refl _ _) k)
theorem Pair.drew (h : Pair w W va vsa psa vb vsb psb) : Pair w W.drew va vsa psa vb vsb psb := h.grow (Below.refl _ _).drew
theorem Pair.lo (h : Pair w W va vsa psa vb vsb psb) : w.heap.size ≤ W.heap.size := h.below.size
theorem Pair.fn_lo (h : Pair w W va vsa psa vb vsb psb) {k : Nat} (hf : foot w.heap.size va k) : w.heap.size ≤ k := Or.elim hf (fun e => by omega) (fun e => (h.n.row.lt k e).1)
theorem Pair.fn_hi (h : Pair w W va vsa psa vb vsb psb) {k : Nat} (hf : foot w.heap.size va k) : k < W.heap.size := Or.elim hf (fun e => by have := h.n.lt; omega) (fun e => (h.n.row.lt k e).2)
theorem Pair.fm_lo (h : Pair w W va vsa psa vb vsb psb) {k : Nat} (hf : foot (w.heap.size + 1) vb k) : w.heap.size ≤ k := Or.elim hf (fun e => by omega) (fun e => (h.m.row.lt k e).1)
theorem Pair.fm_hi (h : Pair w W va vsa psa vb vsb psb) {k : Nat} (hf : foot (w.heap.size + 1) vb k) : k < W.heap.size := Or.elim hf (fun e => by have := h.m.lt; omega) (fun e => (h.m.row.lt k e).2)
theorem Pair.n_not (h : Pair w W va vsa psa vb vsb psb) : ¬ foot w.heap.size va (w.heap.size + 1) := fun hf => Or.elim hf (fun e => by omega) (fun e => own_apart_one h.n.row h.m.cell (by decide) e)
theorem Pair.m_not (h : Pair w W va vsa psa vb vsb psb) : ¬ foot (w.heap.size + 1) vb w.heap.size := fun hf => Or.elim hf (fun e => by omega) (fun e => own_apart_one h.m.row h.n.cell (by decide) e)
theorem Pair.n_byte (h : Pair w W va vsa psa vb vsb psb) {g : Nat} {c : Array Value} (hg : W.heap[g]? = some (.cells c 5 (0, 0))) : ¬ foot w.heap.size va g := fun hf => by
  rcases hf with rfl | e
  · rw [h.n.cell] at hg; injection hg with hg; injection hg with _ hg; cases hg
  · exact own_apart_blk h.n.row hg (by decide) e
theorem Pair.m_byte (h : Pair w W va vsa psa vb vsb psb) {g : Nat} {c : Array Value} (hg : W.heap[g]? = some (.cells c 5 (0, 0))) : ¬ foot (w.heap.size + 1) vb g := fun hf => by
  rcases hf with rfl | e
  · rw [h.m.cell] at hg; injection hg with hg; injection hg with _ hg; cases hg
  · exact own_apart_blk h.m.row hg (by decide) e
/-- The net is turned. -/
theorem Pair.n_turn (h : Pair w W va vsa psa vb vsb psb) (hk : Kept (foot w.heap.size va) W W1) (hn : NetAt w.heap.size W1 w.heap.size va1 vsa1 psa1) (hg : ∀ g, va1.ownBlock = some g → va.ownBlock = some g ∨ W.heap.size ≤ g) : Pair w W1 va1 vsa1 psa1 vb vsb psb := by
  refine ⟨hn, h.m.keep hk h.n_not (fun g hb hf => ?_) (fun g c hc => h.n_byte hc), h.below.trans (hk.below h.lo (fun k hf => h.fn_lo hf)), fun g ha hb => ?_⟩
  · rcases hf with rfl | hf
    · exact own_apart_one h.m.row h.n.cell (by decide) hb
    · exact h.apart g hf hb
  · rcases hg g ha with e | e
    · exact h.apart g e hb
    · have := (h.m.row.lt g hb).2; omega
/-- The reference's net is turned. -/
theorem Pair.m_turn (h : Pair w W va vsa psa vb vsb psb) (hk : Kept (foot (w.heap.size + 1) vb) W W1) (hn : RefAt w.heap.size W1 (w.heap.size + 1) vb1 vsb1 psb1) (hg : ∀ g, vb1.ownBlock = some g → vb.ownBlock = some g ∨ W.heap.size ≤ g) : Pair w W1 va vsa psa vb1 vsb1 psb1 := by
  refine ⟨h.n.keep hk h.m_not (fun g hb hf => ?_) (fun g c hc => h.m_byte hc), hn, h.below.trans (hk.below h.lo (fun k hf => h.fm_lo hf)), fun g ha hb => ?_⟩
  · rcases hf with rfl | hf
    · exact own_apart_one h.n.row h.m.cell (by decide) hb
    · exact h.apart g hb hf
  · rcases hg g hb with e | e
    · exact h.apart g ha e
    · have := (h.n.row.lt g ha).2; omega
theorem Pair.own_n {base n : Nat} {u : Value} {xs : List Value} (h : Pair w W va vsa psa vb vsb psb) (hk : Kept (foot w.heap.size va) W W1) (ho : W.ownsRow base 5 1 u n xs) : W1.ownsRow base 5 1 u n xs :=
  hk.own ho fun g hg hf => by
    rcases hf with rfl | hf
    · exact own_apart_one ho h.n.cell (by decide) hg
    · exact own_apart ho h.n.row (by decide) hg hf
theorem Pair.own_m {base n : Nat} {u : Value} {xs : List Value} (h : Pair w W va vsa psa vb vsb psb) (hk : Kept (foot (w.heap.size + 1) vb) W W1) (ho : W.ownsRow base 5 1 u n xs) : W1.ownsRow base 5 1 u n xs :=
  hk.own ho fun g hg hf => by
    rcases hf with rfl | hf
    · exact own_apart_one ho h.m.cell (by decide) hg
    · exact own_apart ho h.m.row (by decide) hg hf
end

/-- The net's turn, told. -/
def TurnN (w W : World) (va : Value) (psa : List Pk) (vb : Value) (vsb : List PkV) (psb : List Pk) (W1 : World) : Prop := ∃ va1 vsa1, Pair w W1 va1 vsa1 psa vb vsb psb ∧ Kept (foot w.heap.size va) W W1
def TurnM (w W : World) (va : Value) (vsa : List PkV) (psa : List Pk) (vb : Value) (psb : List Pk) (W1 : World) : Prop := ∃ vb1 vsb1, Pair w W1 va vsa psa vb1 vsb1 psb ∧ Kept (foot (w.heap.size + 1) vb) W W1
/-- A packet told, and whether there is one. -/
def RetAt (o : Option Pk) (R : World → Prop) (e : Ending) (W1 : World) : Prop :=
  ∃ A c, e = .returned (.tuple #[.agg #[.int .i64 (pkOr o).f, .int .i64 (pkOr o).t, .slice A (pkOr o).b.length c], .bool o.isSome]) ∧ W1.ownsRow 0 5 1 (.slice A (pkOr o).b.length c) (pkOr o).b.length (bc (pkOr o).b) ∧ R W1
section
variable {w W : World} {va vb : Value} {vsa vsb : List PkV} {psa psb : List Pk} (h : Pair w W va vsa psa vb vsb psb)
include h
theorem turn_n {W1 : World} {ps : List Pk} (hn : NetNow w.heap.size W w.heap.size va ps W1) : TurnN w W va ps vb vsb psb W1 := by
  obtain ⟨v', vs', h1, h2, h3⟩ := hn
  exact ⟨v', vs', h.n_turn h2 h1 h3, h2⟩
theorem turn_m {W1 : World} {ps : List Pk} (hn : RefNow w.heap.size W (w.heap.size + 1) vb ps W1) : TurnM w W va vsa psa vb ps W1 := by
  obtain ⟨v', vs', h1, h2, h3⟩ := hn
  exact ⟨v', vs', h.m_turn h2 h1 h3, h2⟩
theorem still_n {W1 : World} (hb : Below W.heap.size W W1) : TurnN w W va psa vb vsb psb W1 := ⟨va, vsa, h.grow hb, Kept.of_below hb⟩
theorem still_m {W1 : World} (hb : Below W.heap.size W W1) : TurnM w W va vsa psa vb psb W1 := ⟨vb, vsb, h.grow hb, Kept.of_below hb⟩
theorem args_in {S : Nat → Prop} {u : Value} {us : List PkV} {qs : List Pk} (hp : IsPks w w.heap.size u us qs) (hS : ∀ k, S k → w.heap.size ≤ k) : ∃ A c, u = .slice A qs.length c ∧ us.length = qs.length ∧ ∀ W', Kept S W W' → Reads W' W.heap.size 3 A qs.length (pkCells us) ∧ ∀ (i : Nat) (x : PkV) (q : Pk), us[i]? = some x → qs[i]? = some q → PkArg W' W.heap.size x q := by
  obtain ⟨A, c, e, _, _, hl, hr, hq⟩ := hp
  refine ⟨A, c, e, hl, fun W' hk => ⟨((hk.reads (hr.below h.below) h.lo (fun b hb hs => by have := hS b hs; omega))).more h.lo, fun i x q h1 h2 => ?_⟩⟩
  obtain ⟨e1, e2, A', c', e3, e4, e5⟩ := hq i x q h1 h2
  exact ⟨e1, e2, A', c', e3, e4, (hk.reads (e5.below h.below) h.lo (fun b hb hs => by have := hS b hs; omega)).more h.lo⟩
theorem c_send (hg : Good psa) {u : Value} {us : List PkV} {qs : List Pk} (hp : IsPks w w.heap.size u us qs) (hq : qs.length ≤ 1000) :
    Calls Try.prog 9 #[.pointer (some ⟨w.heap.size, 0, none⟩), u] W fun e W1 => e = .returned (.int .i64 (((sendL psa qs).length - psa.length : Nat) : Int)) ∧ TurnN w W va (sendL psa qs) vb vsb psb W1 := by
  obtain ⟨A, c, rfl, hl, ha⟩ := args_in h hp (S := foot w.heap.size va) (fun k hf => h.fn_lo hf)
  exact (send_any _ W _ va vsa psa h.n h.lo hg.1 A qs.length c us qs ha hl rfl hq).mono fun e W1 ⟨h1, h2⟩ => ⟨h1, turn_n h h2⟩
theorem c_rsend (hg : Good psb) {u : Value} {us : List PkV} {qs : List Pk} (hp : IsPks w w.heap.size u us qs) (hq : qs.length ≤ 1000) :
    Calls Try.prog 17 #[.pointer (some ⟨w.heap.size + 1, 0, none⟩), u] W fun e W1 => e = .returned (.int .i64 (((sendL psb qs).length - psb.length : Nat) : Int)) ∧ TurnM w W va vsa psa vb (sendL psb qs) W1 := by
  obtain ⟨A, c, rfl, hl, ha⟩ := args_in h hp (S := foot (w.heap.size + 1) vb) (fun k hf => h.fm_lo hf)
  exact (rsend_any _ W _ vb vsb psb h.m h.lo hg.1 A qs.length c us qs ha hl rfl hq).mono fun e W1 ⟨h1, h2⟩ => ⟨h1, turn_m h h2⟩
theorem c_deliver (hg : Good psa) (z : Int) :
    Calls Try.prog 11 #[.pointer (some ⟨w.heap.size, 0, none⟩), .int .i64 z] W (RetAt (pkAt psa z) (TurnN w W va (delAt psa z) vb vsb psb)) := by
  rcases pkAt_cases psa z with ⟨k, rfl, p, hp, e1, e2⟩ | ⟨hz, e1, e2⟩
  · rw [e1, e2]
    exact (deliver_some _ W _ va vsa psa h.n hg.1 h.lo k p hp (hg.2 p (List.mem_of_getElem? hp))).mono fun e W1 ⟨A, c, h1, h2, _, _, h3⟩ => ⟨A, c, h1, own_moreN h2 (Nat.zero_le _), turn_n h h3⟩
  · rw [e1, e2]
    exact (deliver_none _ W _ va vsa psa h.n hg.1 z hz).mono fun e W1 ⟨h1, h2⟩ => ⟨none, 0, h1, World.ownsRow_nil _ _ _ _, still_n h h2⟩
theorem c_rdeliver (hg : Good psb) (z : Int) :
    Calls Try.prog 18 #[.pointer (some ⟨w.heap.size + 1, 0, none⟩), .int .i64 z] W (RetAt (pkAt psb z) (TurnM w W va vsa psa vb (delAt psb z))) := by
  rcases pkAt_cases psb z with ⟨k, rfl, p, hp, e1, e2⟩ | ⟨hz, e1, e2⟩
  · rw [e1, e2]
    exact (rdeliver_some _ W _ vb vsb psb h.m hg.1 h.lo k p hp).mono fun e W1 ⟨A, c, h1, h2, h3⟩ => ⟨A, c, h1, h2, turn_m h h3⟩
  · rw [e1, e2]
    exact (rdeliver_none _ W _ vb vsb psb h.m hg.1 z hz).mono fun e W1 ⟨h1, h2⟩ => ⟨none, 0, h1, World.ownsRow_nil _ _ _ _, still_m h h2⟩
theorem c_drop (hg : Good psa) (z : Int) :
    Calls Try.prog 20 #[.pointer (some ⟨w.heap.size, 0, none⟩), .int .i64 z] W fun e W1 => e = .returned (.bool (pkAt psa z).isSome) ∧ TurnN w W va (delAt psa z) vb vsb psb W1 := by
  rcases pkAt_cases psa z with ⟨k, rfl, p, hp, e1, e2⟩ | ⟨hz, e1, e2⟩
  · rw [e1, e2]
    exact (drop_some _ W _ va vsa psa h.n hg.1 h.lo k p hp (hg.2 p (List.mem_of_getElem? hp))).mono fun e W1 ⟨h1, h3⟩ => ⟨h1, turn_n h h3⟩
  · rw [e1, e2]
    exact (drop_none _ W _ va vsa psa h.n hg.1 z hz).mono fun e W1 ⟨h1, h2⟩ => ⟨h1, still_n h h2⟩
theorem c_twice (hg : Good psa) (z : Int) :
    Calls Try.prog 14 #[.pointer (some ⟨w.heap.size, 0, none⟩), .int .i64 z] W fun e W1 => e = .returned (.bool (twAt psa z)) ∧ TurnN w W va (twL psa z) vb vsb psb W1 := by
  unfold twAt twL
  rcases pkAt_cases psa z with ⟨k, rfl, p, hp, e1, e2⟩ | ⟨hz, e1, e2⟩
  · rw [e1]
    exact (twice_some _ W _ va vsa psa h.n hg.1 h.lo k k rfl p hp (hg.2 p (List.mem_of_getElem? hp))).mono fun e W1 ⟨h1, h3⟩ => ⟨h1, turn_n h h3⟩
  · rw [e1]
    exact (twice_none _ W _ va vsa psa h.n hg.1 z hz).mono fun e W1 ⟨h1, h2⟩ => ⟨h1, still_n h h2⟩
theorem c_rtwice (hg : Good psb) (z : Int) :
    Calls Try.prog 21 #[.pointer (some ⟨w.heap.size + 1, 0, none⟩), .int .i64 z] W fun e W1 => e = .returned (.bool (twAt psb z)) ∧ TurnM w W va vsa psa vb (twL psb z) W1 := by
  unfold twAt twL
  rcases pkAt_cases psb z with ⟨k, rfl, p, hp, e1, e2⟩ | ⟨hz, e1, e2⟩
  · rw [e1]
    exact (rtwice_some _ W _ vb vsb psb h.m hg.1 h.lo k p hp (hg.2 p (List.mem_of_getElem? hp))).mono fun e W1 ⟨h1, h3⟩ => ⟨h1, turn_m h h3⟩
  · rw [e1]
    exact (rtwice_none _ W _ vb vsb psb h.m hg.1 z hz).mono fun e W1 ⟨h1, h2⟩ => ⟨h1, still_m h h2⟩
theorem c_clear (hg : Good psa) (d : Int) :
    Calls Try.prog 15 #[.pointer (some ⟨w.heap.size, 0, none⟩), .int .i64 d] W fun e W1 => e = .returned (.int .i64 ((psa.length : Int) - ((psa.filter (fun p => !hitP d p)).length : Nat))) ∧ TurnN w W va (psa.filter (fun p => !hitP d p)) vb vsb psb W1 :=
  (clear_any _ W _ va vsa psa h.n hg.1 d).mono fun e W1 ⟨h1, h3⟩ => ⟨h1, turn_n h h3⟩
theorem c_rclear (hg : Good psb) (d : Int) :
    Calls Try.prog 22 #[.pointer (some ⟨w.heap.size + 1, 0, none⟩), .int .i64 d] W fun e W1 => e = .returned (.int .i64 ((psb.length : Int) - ((psb.filter (fun p => !hitP d p)).length : Nat))) ∧ TurnM w W va vsa psa vb (psb.filter (fun p => !hitP d p)) W1 :=
  (rclear_any _ W _ vb vsb psb h.m hg.1 h.lo d).mono fun e W1 ⟨h1, h3⟩ => ⟨h1, turn_m h h3⟩
theorem c_peek (hg : Good psa) (z : Int) :
    Calls Try.prog 16 #[.pointer (some ⟨w.heap.size, 0, none⟩), .int .i64 z] W (RetAt (pkAt psa z) (Below W.heap.size W)) := by
  rcases pkAt_cases psa z with ⟨k, rfl, p, hp, e1, e2⟩ | ⟨hz, e1, e2⟩
  · rw [e1]
    exact (peek_some _ W _ va vsa psa h.n hg.1 k p hp (hg.2 p (List.mem_of_getElem? hp))).mono fun e W1 ⟨A, c, h1, h2, _, _, h3⟩ => ⟨A, c, h1, own_moreN h2 (Nat.zero_le _), h3⟩
  · rw [e1]
    exact (peek_none _ W _ va vsa psa h.n hg.1 z hz).mono fun e W1 ⟨h1, h2⟩ => ⟨none, 0, h1, World.ownsRow_nil _ _ _ _, h2⟩
theorem c_rpeek (hg : Good psb) (z : Int) :
    Calls Try.prog 23 #[.pointer (some ⟨w.heap.size + 1, 0, none⟩), .int .i64 z] W (RetAt (pkAt psb z) (Below W.heap.size W)) := by
  rcases pkAt_cases psb z with ⟨k, rfl, p, hp, e1, e2⟩ | ⟨hz, e1, e2⟩
  · rw [e1]
    exact (rpeek_some _ W _ vb vsb psb h.m hg.1 k p hp).mono fun e W1 ⟨A, c, h1, h2, h3⟩ => ⟨A, c, h1, h2, h3⟩
  · rw [e1]
    exact (rpeek_none _ W _ vb vsb psb h.m hg.1 z hz).mono fun e W1 ⟨h1, h2⟩ => ⟨none, 0, h1, World.ownsRow_nil _ _ _ _, h2⟩
theorem c_len (hg : Good psa) : Calls Try.prog 12 #[.pointer (some ⟨w.heap.size, 0, none⟩)] W fun e W1 => e = .returned (.int .i64 psa.length) ∧ W = W1 := by
  obtain ⟨A0, c0, hv0, _⟩ := Owns.form (Or.inl h.n.row)
  exact len_any W _ A0 psa.length c0 (by have := hg.1; simp [maxLen]; omega) (by rw [cell_of_one h.n.cell, hv0])
end
end Go.Proofs.Ytlgkgmnnmlhaeaa
