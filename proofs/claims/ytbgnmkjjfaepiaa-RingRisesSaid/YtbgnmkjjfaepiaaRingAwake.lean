import Derived.Test.YtbgnmkjjfaepiaaRingNew
import Derived.Test.YtbgnmkjjfaepiaaRingSame
namespace Go.Proofs.Ytbgnmkjjfaepiaa
open Go.RowKit
set_option linter.unusedVariables false

/-- The call answers true; nothing that was there has turned. -/
def RetTrue (w : World) (e : Ending) (w' : World) : Prop := e = .returned (.bool true) ∧ Below w.heap.size w w'
theorem below_drewN {B : Nat} {a w : World} (h : Below B a w) (n : Nat) : Below B a (w.drewN n) := ⟨h.os, h.tape, h.output, h.size, h.block⟩
theorem RetTrue.from {w w1 : World} {e : Ending} {w' : World} (hb : Below w.heap.size w w1) (h : RetTrue w1 e w') : RetTrue w e w' :=
  ⟨h.1, hb.trans (h.2.mono hb.size)⟩
theorem newL_two : newL 2 = [⟨0, 2147483647, 1, 1⟩, ⟨2147483648, 4294967295, 2, 1⟩] ∧ newE 2 = 0 := by decide +kernel
theorem wpList_eq_same {w : World} {ops : Array Oper} {rest : List Oper} {op : Oper} {a : Act} {Q : Exit → Act → World → Prop} (hgd : op.guard = none) (x y : Operand)
    (ho : op.op = .binOp .eql 31 x y 31) (r : Rg) (hx : a.eval x = r.val) (hy : a.eval y = r.val)
    (h : wpList Try.prog ops Q rest (a.put op.dst (.bool true)) w) : wpList Try.prog ops Q (op :: rest) a w :=
  wpList_eq_rg hgd x y ho r r hx hy (by simpa using h)

set_option maxRecDepth 100000 in
set_option maxHeartbeats 4000000 in
theorem awake_any (w : World) : Calls Try.prog 11 #[] w (RetTrue w) := by
  have HN := Lib.hid (new_any w 2 (by omega) (by omega))
  rw [newL_two.1, newL_two.2] at HN
  go_enter Try.func11, Try.ntmps11
  go_upto_region 2 with (go_at_call 12; refine HN.out.mono ?_; rintro e w' ⟨A, c, rfl, hc1, hc2, hr, hb⟩)
  obtain ⟨ad, rfl, hab, h0⟩ := hr.range (k := 0) rfl (by simp)
  obtain ⟨ad', e1, _, h1⟩ := hr.range (k := 1) rfl (by simp)
  injection e1 with e1
  subst e1
  have H0 : Hid (∀ j v, [Value.int .i64 0, .int .i64 2147483647, .int .i64 1, .int .i64 1][j]? = some v → w'.cell? (ad.add j) = some v) := Lib.hid (fun j v hv => by have := h0 j v hv; rwa [add_of_add, Nat.zero_mul, Nat.zero_add] at this)
  have c1 : w'.cell? ⟨ad.block, ad.off + 4, none⟩ = some (.int .i64 2147483648) := by have := h1 0 _ rfl; rwa [add_of_add, add1 _ _ (by omega)] at this
  have c0 : w'.cell? ad = some (.int .i64 0) := by have := h0 0 _ rfl; rwa [add_of_add] at this
  clear h0 h1
  simp only [List.length_cons, List.length_nil, Nat.zero_add, Nat.reduceAdd] at *
  have HB := Lib.hid hb
  clear hb
  go_wp2_with (first
    | (refine wpList_unguard rfl ?_)
    | (refine wpList_load_at rfl 31 _ rfl ad rfl [Value.int .i64 0, .int .i64 2147483647, .int .i64 1, .int .i64 1] _ H0.out Try.underlying31 rfl (by kernel_rfl) ?_)
    | (refine wpList_eq_same rfl _ _ rfl ⟨0, 2147483647, 1, 1⟩ rfl rfl ?_))
  go_ret
  exact ⟨rfl, HB.out⟩
end Go.Proofs.Ytbgnmkjjfaepiaa
