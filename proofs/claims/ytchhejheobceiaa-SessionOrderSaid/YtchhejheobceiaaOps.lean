/- The law of append at a row of bytes, over this seat's program. Its condition: fewer than 2^47 bytes. -/
import Derived.Test.YtchhejheobceiaaBase
import Derived.Test.YtchhejheobceiaaRows
import Derived.WalkKit
namespace Go.Proofs.Ytchhejheobceiaa
open Go.RowKit

theorem Try.infoByte : (Try.prog.info? 5).map (fun i => (i.zero, i.size, i.bytes)) = some (some (.int .u8 0), 1, 1) := by kernel_rfl

/-- append(v, x...) at bytes, at the operation, in a plain walk. -/
theorem app_bytes (w : World) {ops : Array Oper} {rest : List Oper} {o : Oper} {a : Act} {Q : Exit → Act → World → Prop} (hgd : o.guard = none) (s x : Operand)
    (ho : o.op = .call { callee := .builtin .append, args := #[s, x], argTypes := #[30, 30] })
    (base : Nat) (v : Value) (n : Nat) (xs : List Value) (hs : a.eval s = v) (hown : Owns w base 5 1 v n xs)
    (B : Nat) (A : Option Addr) (m c : Nat) (news : List Value) (hx : a.eval x = .slice A m c) (hr : Reads w B 1 A m news) (h1 : ∀ u ∈ news, u.oneCell' = true)
    (hbytes : n + m ≤ 140737488355328) (hbase : base ≤ w.heap.size)
    (h : ∀ v' w', Owns w' base 5 1 v' (n + m) (xs ++ news) → Below base w w' → (w.ownsRow base 5 1 v n xs ∨ 0 < m → w'.ownsRow base 5 1 v' (n + m) (xs ++ news)) → wpList Try.prog ops Q rest (a.put o.dst v') w') : wpList Try.prog ops Q (o :: rest) a w := by
  obtain ⟨i0, hi, hz0, hz1, hz2⟩ := info_parts Try.infoByte
  exact wpList_append_owns w hgd s x _ ho base _ i0 _ 1 1 Try.underlying30 hi hz0 hz1 hz2 rfl (by omega) v n xs hs hown B A m c news hx hr h1 (by simp only [maxLen]; omega) (by omega) hbase h

/-- .. in a region that draws its order. -/
theorem app_bytes_step (w : World) {ops : Array Oper} {o : Oper} {a : Act} {K : Act → World → Prop} {Q : Exit → Act → World → Prop} {E : Prop} (hgd : o.guard = none) (s x : Operand)
    (ho : o.op = .call { callee := .builtin .append, args := #[s, x], argTypes := #[30, 30] })
    (base : Nat) (v : Value) (n : Nat) (xs : List Value) (hs : a.eval s = v) (hown : Owns w base 5 1 v n xs)
    (B : Nat) (A : Option Addr) (m c : Nat) (news : List Value) (hx : a.eval x = .slice A m c) (hr : Reads w B 1 A m news) (h1 : ∀ u ∈ news, u.oneCell' = true)
    (hbytes : n + m ≤ 140737488355328) (hbase : base ≤ w.heap.size)
    (h : ∀ v' w', Owns w' base 5 1 v' (n + m) (xs ++ news) → Below base w w' → (w.ownsRow base 5 1 v n xs ∨ 0 < m → w'.ownsRow base 5 1 v' (n + m) (xs ++ news)) → K (a.put o.dst v') w') :
    if Region.wanted o (yielded ops a.tmps) = true then Oper.wp Try.prog o a w K Q else E := by
  obtain ⟨i0, hi, hz0, hz1, hz2⟩ := info_parts Try.infoByte
  exact step_append_owns w hgd s x _ ho base _ i0 _ 1 1 Try.underlying30 hi hz0 hz1 hz2 rfl (by omega) v n xs hs hown B A m c news hx hr h1 (by simp only [maxLen]; omega) (by omega) hbase h

/-- A fresh row of bytes is handed back; nothing below B has turned. -/
def RetBytes (B : Nat) (w : World) (l : List UInt8) (e : Ending) (w' : World) : Prop :=
  ∃ v', e = .returned v' ∧ w'.ownsRow B 5 1 v' l.length (bc l) ∧ Below B w w'

theorem RetBytes.open_ {B : Nat} {w : World} {l : List UInt8} {e : Ending} {w' : World} (h : RetBytes B w l e w') :
    ∃ A c, e = .returned (.slice A l.length c) ∧ w'.ownsRow B 5 1 (.slice A l.length c) l.length (bc l) ∧ Below B w w' ∧ l.length ≤ c ∧ c ≤ maxLen ∧ Reads w' w'.heap.size 1 A l.length (bc l) := by
  obtain ⟨v, rfl, ho, hb⟩ := h
  obtain ⟨A, c, rfl, h1, h2, h3⟩ := Owns.form (.inl ho)
  exact ⟨A, c, rfl, ho, hb, h1, h2, h3⟩

/-- append(v, s...), s a string, at the operation. -/
theorem app_string (w : World) {ops : Array Oper} {rest : List Oper} {o : Oper} {a : Act} {Q : Exit → Act → World → Prop} (hgd : o.guard = none) (sl x : Operand)
    (ho : o.op = .call { callee := .builtin .append, args := #[sl, x], argTypes := #[30, 9] })
    (base : Nat) (v : Value) (n : Nat) (xs : List Value) (hs : a.eval sl = v) (hown : w.ownsRow base 5 1 v n xs) (s : ByteArray) (hx : a.eval x = .string s)
    (hbytes : n + s.size ≤ 140737488355328) (hbase : base ≤ w.heap.size)
    (h : ∀ v' w', w'.ownsRow base 5 1 v' (n + s.size) (xs ++ bc s.data.toList) → Below base w w' → wpList Try.prog ops Q rest (a.put o.dst v') w') : wpList Try.prog ops Q (o :: rest) a w := by
  obtain ⟨i0, hi, hz0, hz1, hz2⟩ := info_parts Try.infoByte
  exact Lib.wpList_append_own_string w hgd sl x _ _ ho base _ i0 Try.underlying30 Try.underlying9 hi hz0 hz1 hz2 v n xs hs hown s hx (by simp only [maxLen]; omega) hbytes hbase
    fun v' w' h1 h2 _ => h v' w' h1 ((Below.refl _ _).grown h2 hbase fun k hk => (hown.lt k hk).1)

/-- string(b), at the operation. -/
theorem str_bytes (w : World) {ops : Array Oper} {rest : List Oper} {o : Oper} {a : Act} {Q : Exit → Act → World → Prop} (hgd : o.guard = none) (x : Operand)
    (ho : o.op = .convert 30 9 x) {B n c : Nat} {A : Option Addr} {l : List UInt8} (hx : a.eval x = .slice A n c) (hr : Reads w B 1 A n (bc l))
    (h : wpList Try.prog ops Q rest (a.put o.dst (.string ⟨l.toArray⟩)) w) : wpList Try.prog ops Q (o :: rest) a w :=
  wpList_string w hgd x _ _ _ ho Try.underlying30 Try.underlying5 Try.underlying9 hx hr h
end Go.Proofs.Ytchhejheobceiaa
