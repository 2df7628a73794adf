/-
  No cell of these rows narrows 'for every input' (looked for: loops, veiled, ifaces, maps, wideKeys, modest, calm, conditions, laid).
  DERIVED. THE GIVEN ROWS OF THIS SEAT. 3 by the template 'for every input the law returns true; each argument reads behind the call as it read before'; 0 by the template 'total and deterministic' (their statements: YtchhejheobceiaaTotals.lean).
  GIVEN WITH THE SEED: the statements are not yours to turn. If you find one false, say at which input.
  Laid BY PROGRAM, IN A SANDBOX (cutbox-rows.mjs): the forced cells as the released guide's own fill.sh prints them over the translation a31cbb118536ef5d… (all of the seat's roots in one cut). By AI agents, Wed Nov 11 2026. No macro, syntax, notation, axiom, sorry.
-/
import Derived.Test.YtchhejheobceiaaChecked
import GoSem.Claim
import GoSem.ClaimJoined
import GoSem.ClaimMapViews
import Derived.JoinedTies
import Derived.KernelRfl
namespace Go.Proofs.Ytchhejheobceiaa
/- THE CELL 'sum', in the pinned program and in every row, IS THE sha256 OF THE DUMP (.gsa) THAT YtchhejheobceiaaProg.lean LOADS. Nothing in Lean hashes anything: it is a label: what it is worth is what the hold of that sum in a sandbox is worth. -/
noncomputable def Try.pinned : Pinned := { name := "ytchhejheobceiaa", sum := "a31cbb118536ef5d34448f58a0ecb71e0dc2a3facb0719d3acf8889e9fda2b33", checked := Try.checked }
namespace Rows
def none {H : Type} : Left H := { results := [], args := [] }

/-- 'penstocklaw17.SessionLives': WHATEVER THE INPUT: true; the input reads as it did. -/
def sessionLivesSpec : ChangeSpec := { name := "sessionLives", fn := fun _ => fun
  | [d1, d2, d3] => { results := [.lit (.bool true)], args := [d1, d2, d3] }
  | _ => none }
def sessionLivesRow : OpenClaim := { program := "ytchhejheobceiaa", sum := "a31cbb118536ef5d34448f58a0ecb71e0dc2a3facb0719d3acf8889e9fda2b33", func := "penstock/penstocklaw17.SessionLives", spec := "sessionLives", apart := false }
def SessionLivesSaid : Prop := sessionLivesRow.holds Try.pinned (OpenSpec.ofChange sessionLivesSpec)

/-- ITS FALSE NEIGHBOUR: 'it returns false'. Refute it at one input. -/
def sessionLivesWrong : ChangeSpec := { name := "sessionLives", fn := fun _ => fun
  | [d1, d2, d3] => { results := [.lit (.bool false)], args := [d1, d2, d3] }
  | _ => none }
def SessionLivesWrongFalsely : Prop := sessionLivesRow.holds Try.pinned (OpenSpec.ofChange sessionLivesWrong)

/-- 'penstocklaw17.SessionOrder': WHATEVER THE INPUT: true; the input reads as it did. -/
def sessionOrderSpec : ChangeSpec := { name := "sessionOrder", fn := fun _ => fun
  | [d] => { results := [.lit (.bool true)], args := [d] }
  | _ => none }
def sessionOrderRow : OpenClaim := { program := "ytchhejheobceiaa", sum := "a31cbb118536ef5d34448f58a0ecb71e0dc2a3facb0719d3acf8889e9fda2b33", func := "penstock/penstocklaw17.SessionOrder", spec := "sessionOrder", apart := false }
def SessionOrderSaid : Prop := sessionOrderRow.holds Try.pinned (OpenSpec.ofChange sessionOrderSpec)

/-- ITS FALSE NEIGHBOUR: 'it returns false'. Refute it at one input. -/
def sessionOrderWrong : ChangeSpec := { name := "sessionOrder", fn := fun _ => fun
  | [d] => { results := [.lit (.bool false)], args := [d] }
  | _ => none }
def SessionOrderWrongFalsely : Prop := sessionOrderRow.holds Try.pinned (OpenSpec.ofChange sessionOrderWrong)

/-- 'penstocklaw17.SessionLimits': WHATEVER THE INPUT: true; the input reads as it did. -/
def sessionLimitsSpec : ChangeSpec := { name := "sessionLimits", fn := fun _ => fun
  | [d1, d2, d3] => { results := [.lit (.bool true)], args := [d1, d2, d3] }
  | _ => none }
def sessionLimitsRow : OpenClaim := { program := "ytchhejheobceiaa", sum := "a31cbb118536ef5d34448f58a0ecb71e0dc2a3facb0719d3acf8889e9fda2b33", func := "penstock/penstocklaw17.SessionLimits", spec := "sessionLimits", apart := false }
def SessionLimitsSaid : Prop := sessionLimitsRow.holds Try.pinned (OpenSpec.ofChange sessionLimitsSpec)

/-- ITS FALSE NEIGHBOUR: 'it returns false'. Refute it at one input. -/
def sessionLimitsWrong : ChangeSpec := { name := "sessionLimits", fn := fun _ => fun
  | [d1, d2, d3] => { results := [.lit (.bool false)], args := [d1, d2, d3] }
  | _ => none }
def SessionLimitsWrongFalsely : Prop := sessionLimitsRow.holds Try.pinned (OpenSpec.ofChange sessionLimitsWrong)

/- THE SECOND FORM. 'bulk': how many values and letters a reading holds, each counted each time it is reached (what is shared counts as often as it is met; a slice's spare places count too). A statement '..UptoSaid' is the law's where the arguments, and the package variables that the reading takes, are together of bulk at most 1048576: NARROWER than '..Said'. Prove '..Said' where nothing that the law and all that it calls make is longer than what came in: it says more and counts as full. Else prove '..UptoSaid'. A law counts once. -/
mutual
def uptoBulk {H : Type} : DataW H → Nat
  | .lit (.string bytes) => bytes.length + 1
  | .lit _ => 1
  | .nil => 1
  | .ptr d => uptoBulk d + 1
  | .slice elems spare => uptoBulkAll elems + uptoBulkAll spare + 1
  | .agg parts => uptoBulkAll parts + 1
  | .iface _ d => uptoBulk d + 1
  | .map entries => uptoBulkEntries entries + 1
  | .held _ => 1
def uptoBulkAll {H : Type} : List (DataW H) → Nat
  | [] => 0
  | d :: r => uptoBulk d + uptoBulkAll r
def uptoBulkEntries {H : Type} : List (Lit × DataW H) → Nat
  | [] => 0
  | x :: r => uptoBulkEntry x + uptoBulkEntries r
def uptoBulkEntry {H : Type} : Lit × DataW H → Nat
  | (.string bytes, d) => bytes.length + uptoBulk d + 1
  | (_, d) => uptoBulk d + 1
 end
def uptoSmall : (H : Type) → List (DataW H) → Bool := fun _ ds => decide (uptoBulkAll ds ≤ 1048576)
def OpenSpec.upto (s : _root_.Go.ChangeSpec) : _root_.Go.OpenSpec := { _root_.Go.OpenSpec.ofChange s with cond := some uptoSmall }

/-- 'penstocklaw17.SessionLives', WHERE WHAT IT READS IS OF BULK AT MOST 1048576: true; the input reads as it did. -/
def sessionLivesUptoRow : OpenClaim := { program := "ytchhejheobceiaa", sum := "a31cbb118536ef5d34448f58a0ecb71e0dc2a3facb0719d3acf8889e9fda2b33", func := "penstock/penstocklaw17.SessionLives", spec := "sessionLives", apart := false, narrowed := true }
def SessionLivesUptoSaid : Prop := sessionLivesUptoRow.holds Try.pinned (OpenSpec.upto sessionLivesSpec)

/-- 'penstocklaw17.SessionOrder', WHERE WHAT IT READS IS OF BULK AT MOST 1048576: true; the input reads as it did. -/
def sessionOrderUptoRow : OpenClaim := { program := "ytchhejheobceiaa", sum := "a31cbb118536ef5d34448f58a0ecb71e0dc2a3facb0719d3acf8889e9fda2b33", func := "penstock/penstocklaw17.SessionOrder", spec := "sessionOrder", apart := false, narrowed := true }
def SessionOrderUptoSaid : Prop := sessionOrderUptoRow.holds Try.pinned (OpenSpec.upto sessionOrderSpec)

/-- 'penstocklaw17.SessionLimits', WHERE WHAT IT READS IS OF BULK AT MOST 1048576: true; the input reads as it did. -/
def sessionLimitsUptoRow : OpenClaim := { program := "ytchhejheobceiaa", sum := "a31cbb118536ef5d34448f58a0ecb71e0dc2a3facb0719d3acf8889e9fda2b33", func := "penstock/penstocklaw17.SessionLimits", spec := "sessionLimits", apart := false, narrowed := true }
def SessionLimitsUptoSaid : Prop := sessionLimitsUptoRow.holds Try.pinned (OpenSpec.upto sessionLimitsSpec)

end Rows
end Go.Proofs.Ytchhejheobceiaa
