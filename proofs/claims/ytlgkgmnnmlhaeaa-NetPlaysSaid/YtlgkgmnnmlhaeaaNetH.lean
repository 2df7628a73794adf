import Derived.Test.YtlgkgmnnmlhaeaaNetG
import Derived.Test.YtlgkgmnnmlhaeaaAlike
namespace Go.Proofs.Ytlgkgmnnmlhaeaa
open Go.RowKit
set_option linter.unusedVariables false

set_option maxRecDepth 100000 in
set_option maxHeartbeats 4000000 in
theorem alike_same (w : World) (f t : Int) (A A' : Option Addr) (n c c' BA BB : Nat) (l : List UInt8) (ha : Reads w BA 1 A n (bc l)) (hBA : BA ≤ w.heap.size) (hb : Reads w BB 1 A' n (bc l)) (hBB : BB ≤ w.heap.size) (hn : n ≤ maxLen) :
    Calls Try.prog 19 #[.agg #[.int .i64 f, .int .i64 t, .slice A n c], .agg #[.int .i64 f, .int .i64 t, .slice A' n c']] w (RetB w true) := by
  have HA := Lib.hid ha
  have HB := Lib.hid hb
  clear ha hb
  go_enter Try.func19, Try.ntmps19
  go_wp2_with (first
    | (refine wpList_unguard rfl ?_)
    | (go_at_call 24; refine (bytes_same A A' n c c' l _ ((HA.out.alloc hBA _).alloc (by rw [alloc_size]; omega) _) ((HB.out.alloc hBB _).alloc (by rw [alloc_size]; omega) _) hn).mono ?_; rintro e w2 ⟨rfl, m2, rfl⟩))
  go_ret
  exact ⟨rfl, below_drewN (((Below.refl _ _).alloc (Nat.le_refl _) _).alloc (by rw [alloc_size]; omega) _) _⟩

/-! ### The reference's net -/
structure RefAt (B : Nat) (w : World) (a : Nat) (v : Value) (vs : List PkV) (ps : List Pk) : Prop where
  lo : B ≤ a
  cell : w.heap[a]? = some (.cells #[v] 46 (0, 0))
  row : w.ownsRow B 31 3 v ps.length (pkCells vs)
  len : vs.length = ps.length
  pks : ∀ (i : Nat) (x : PkV) (p : Pk), vs[i]? = some x → ps[i]? = some p → PkIs w x p
theorem RefAt.lt {B : Nat} {w : World} {a : Nat} {v : Value} {vs : List PkV} {ps : List Pk} (h : RefAt B w a v vs ps) : a < w.heap.size := (Array.getElem?_eq_some_iff.1 h.cell).1
theorem RefAt.grow {B : Nat} {w w1 : World} {a : Nat} {v : Value} {vs : List PkV} {ps : List Pk} (h : RefAt B w a v vs ps) (hb : Below w.heap.size w w1) : RefAt B w1 a v vs ps :=
  ⟨h.lo, (hb.block a h.lt).trans h.cell, own_below h.row hb (Nat.le_refl _), h.len, fun i x p h1 h2 => ⟨(h.pks i x p h1 h2).f, (h.pks i x p h1 h2).t, own_below (h.pks i x p h1 h2).own hb (Nat.le_refl _)⟩⟩
theorem RefAt.old {B : Nat} {w w1 : World} {a : Nat} {v : Value} {vs : List PkV} {ps : List Pk} (h : RefAt B w a v vs ps) (hk : Kept (foot a v) w w1) {i : Nat} {x : PkV} {p : Pk} (h1 : vs[i]? = some x) (h2 : ps[i]? = some p) : PkIs w1 x p := by
  obtain ⟨g1, g2, g3⟩ := h.pks i x p h1 h2
  refine ⟨g1, g2, hk.own g3 (fun g hg hf => ?_)⟩
  rcases hf with rfl | hf
  · exact own_apart_one g3 h.cell (by decide) hg
  · exact own_apart g3 h.row (by decide) hg hf
def RefNow (B : Nat) (w : World) (a : Nat) (v : Value) (ps : List Pk) (w' : World) : Prop :=
  ∃ v' vs', RefAt B w' a v' vs' ps ∧ Kept (foot a v) w w' ∧ ∀ g, v'.ownBlock = some g → v.ownBlock = some g ∨ w.heap.size ≤ g
end Go.Proofs.Ytlgkgmnnmlhaeaa
