/- What one leaves. No condition. -/
import Derived.Test.YtchhejheobceiaaSesO
namespace Go.Proofs.Ytchhejheobceiaa
open Go.RowKit
set_option linter.unusedVariables false

/-- What one leaves. -/
def RetOne (base : Nat) (w : World) (t t' a s r a' s' r' : Nat) (x y : Xs) (kind : Int) (m : List UInt8) (z : Int) (yes : Bool) (e : Ending) (w' : World) : Prop :=
  e = .returned (.bool true) ∧ Below base w w' ∧ ∃ T q q' x' y', OneTo x y kind m z yes x' y' ∧ Duo base w' T t t' a s r q x' x'.ses a' s' r' q' y' y'.ses
theorem inn_nil (y : Xs) : { y with inn := y.inn ++ [] } = y := by rw [List.append_nil]
/-- What the switch leaves: x's side as it is to be, and what goes out. -/
def Mid (base : Nat) (w0 : World) (t t' a s r a' s' r' : Nat) (x y : Xs) (q' : Sv) (kind : Int) (m : List UInt8) (z : Int) (yes : Bool) (u : Value) (wx : World) : Prop :=
  ∃ T q x1 out lo, OneTo x y kind m z yes x1 { y with inn := y.inn ++ out } ∧ Duo base wx T t t' a s r q x1 x1.ses a' s' r' q' y y.ses ∧ RowsAt wx lo u out ∧ (∀ k, lo ≤ k → k < wx.heap.size → T k ≠ t' ∧ T k ≠ t' + 5) ∧ out.length ≤ 300 ∧ Below base w0 wx ∧ x1.ses.Ok

end Go.Proofs.Ytchhejheobceiaa
