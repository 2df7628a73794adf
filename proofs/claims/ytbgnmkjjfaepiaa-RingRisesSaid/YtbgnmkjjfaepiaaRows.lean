/-
  No cell of these rows narrows 'for every input' (looked for: loops, veiled, ifaces, maps, wideKeys, modest, calm, conditions, laid).
  DERIVED. THE GIVEN ROWS OF THIS SEAT. 7 by the template 'for every input the law returns true; each argument reads behind the call as it read before'; 0 by the template 'total and deterministic' (their statements: YtbgnmkjjfaepiaaTotals.lean).
  GIVEN WITH THE SEED: the statements are not yours to turn. If you find one false, say at which input.
  Laid BY PROGRAM, IN A SANDBOX (cutbox-rows.mjs): the forced cells as the released guide's own fill.sh prints them over the translation 0d9e5aa799a35632… (all of the seat's roots in one cut). By AI agents, Wed Nov 11 2026. No macro, syntax, notation, axiom, sorry.
-/
import Derived.Test.YtbgnmkjjfaepiaaChecked
import GoSem.Claim
import GoSem.ClaimJoined
import GoSem.ClaimMapViews
import Derived.JoinedTies
import Derived.KernelRfl
namespace Go.Proofs.Ytbgnmkjjfaepiaa
/- THE CELL 'sum', in the pinned program and in every row, IS THE sha256 OF THE DUMP (.gsa) THAT YtbgnmkjjfaepiaaProg.lean LOADS. Nothing in Lean hashes anything: it is a label: what it is worth is what the hold of that sum in a sandbox is worth. -/
noncomputable def Try.pinned : Pinned := { name := "ytbgnmkjjfaepiaa", sum := "0d9e5aa799a356329bd26fcf5299f4d65e9b7b26c401d2cc0652c89087421a27", checked := Try.checked }
namespace Rows
def none {H : Type} : Left H := { results := [], args := [] }

/-- 'penstocklaw13.RingAsks': WHATEVER THE INPUT: true; the input reads as it did. -/
def ringAsksSpec : ChangeSpec := { name := "ringAsks", fn := fun _ => fun
  | [d1, d2, d3, d4] => { results := [.lit (.bool true)], args := [d1, d2, d3, d4] }
  | _ => none }
def ringAsksRow : OpenClaim := { program := "ytbgnmkjjfaepiaa", sum := "0d9e5aa799a356329bd26fcf5299f4d65e9b7b26c401d2cc0652c89087421a27", func := "penstock/penstocklaw13.RingAsks", spec := "ringAsks", unfollowed := true, recurses := true, apart := false }
def RingAsksSaid : Prop := ringAsksRow.holds Try.pinned (OpenSpec.ofChange ringAsksSpec)

/-- ITS FALSE NEIGHBOUR: 'it returns false'. Refute it at one input. -/
def ringAsksWrong : ChangeSpec := { name := "ringAsks", fn := fun _ => fun
  | [d1, d2, d3, d4] => { results := [.lit (.bool false)], args := [d1, d2, d3, d4] }
  | _ => none }
def RingAsksWrongFalsely : Prop := ringAsksRow.holds Try.pinned (OpenSpec.ofChange ringAsksWrong)

/-- 'penstocklaw13.RingSets': WHATEVER THE INPUT: true; the input reads as it did. -/
def ringSetsSpec : ChangeSpec := { name := "ringSets", fn := fun _ => fun
  | [d1, d2, d3, d4] => { results := [.lit (.bool true)], args := [d1, d2, d3, d4] }
  | _ => none }
def ringSetsRow : OpenClaim := { program := "ytbgnmkjjfaepiaa", sum := "0d9e5aa799a356329bd26fcf5299f4d65e9b7b26c401d2cc0652c89087421a27", func := "penstock/penstocklaw13.RingSets", spec := "ringSets", unfollowed := true, recurses := true, apart := false }
def RingSetsSaid : Prop := ringSetsRow.holds Try.pinned (OpenSpec.ofChange ringSetsSpec)

/-- ITS FALSE NEIGHBOUR: 'it returns false'. Refute it at one input. -/
def ringSetsWrong : ChangeSpec := { name := "ringSets", fn := fun _ => fun
  | [d1, d2, d3, d4] => { results := [.lit (.bool false)], args := [d1, d2, d3, d4] }
  | _ => none }
def RingSetsWrongFalsely : Prop := ringSetsRow.holds Try.pinned (OpenSpec.ofChange ringSetsWrong)

/-- 'penstocklaw13.RingMerges': WHATEVER THE INPUT: true; the input reads as it did. -/
def ringMergesSpec : ChangeSpec := { name := "ringMerges", fn := fun _ => fun
  | [d1, d2, d3] => { results := [.lit (.bool true)], args := [d1, d2, d3] }
  | _ => none }
def ringMergesRow : OpenClaim := { program := "ytbgnmkjjfaepiaa", sum := "0d9e5aa799a356329bd26fcf5299f4d65e9b7b26c401d2cc0652c89087421a27", func := "penstock/penstocklaw13.RingMerges", spec := "ringMerges", unfollowed := true, recurses := true, apart := false }
def RingMergesSaid : Prop := ringMergesRow.holds Try.pinned (OpenSpec.ofChange ringMergesSpec)

/-- ITS FALSE NEIGHBOUR: 'it returns false'. Refute it at one input. -/
def ringMergesWrong : ChangeSpec := { name := "ringMerges", fn := fun _ => fun
  | [d1, d2, d3] => { results := [.lit (.bool false)], args := [d1, d2, d3] }
  | _ => none }
def RingMergesWrongFalsely : Prop := ringMergesRow.holds Try.pinned (OpenSpec.ofChange ringMergesWrong)

/-- 'penstocklaw13.RingFull': WHATEVER THE INPUT: true; the input reads as it did. -/
def ringFullSpec : ChangeSpec := { name := "ringFull", fn := fun _ => fun
  | [d] => { results := [.lit (.bool true)], args := [d] }
  | _ => none }
def ringFullRow : OpenClaim := { program := "ytbgnmkjjfaepiaa", sum := "0d9e5aa799a356329bd26fcf5299f4d65e9b7b26c401d2cc0652c89087421a27", func := "penstock/penstocklaw13.RingFull", spec := "ringFull", unfollowed := true, recurses := true, apart := false }
def RingFullSaid : Prop := ringFullRow.holds Try.pinned (OpenSpec.ofChange ringFullSpec)

/-- ITS FALSE NEIGHBOUR: 'it returns false'. Refute it at one input. -/
def ringFullWrong : ChangeSpec := { name := "ringFull", fn := fun _ => fun
  | [d] => { results := [.lit (.bool false)], args := [d] }
  | _ => none }
def RingFullWrongFalsely : Prop := ringFullRow.holds Try.pinned (OpenSpec.ofChange ringFullWrong)

/-- 'penstocklaw13.RingEach': WHATEVER THE INPUT: true; the input reads as it did. -/
def ringEachSpec : ChangeSpec := { name := "ringEach", fn := fun _ => fun
  | [d1, d2, d3] => { results := [.lit (.bool true)], args := [d1, d2, d3] }
  | _ => none }
def ringEachRow : OpenClaim := { program := "ytbgnmkjjfaepiaa", sum := "0d9e5aa799a356329bd26fcf5299f4d65e9b7b26c401d2cc0652c89087421a27", func := "penstock/penstocklaw13.RingEach", spec := "ringEach", unfollowed := true, recurses := true, apart := false }
def RingEachSaid : Prop := ringEachRow.holds Try.pinned (OpenSpec.ofChange ringEachSpec)

/-- ITS FALSE NEIGHBOUR: 'it returns false'. Refute it at one input. -/
def ringEachWrong : ChangeSpec := { name := "ringEach", fn := fun _ => fun
  | [d1, d2, d3] => { results := [.lit (.bool false)], args := [d1, d2, d3] }
  | _ => none }
def RingEachWrongFalsely : Prop := ringEachRow.holds Try.pinned (OpenSpec.ofChange ringEachWrong)

/-- 'penstocklaw13.RingRises': WHATEVER THE INPUT: true; the input reads as it did. -/
def ringRisesSpec : ChangeSpec := { name := "ringRises", fn := fun _ => fun
  | [d1, d2, d3, d4] => { results := [.lit (.bool true)], args := [d1, d2, d3, d4] }
  | _ => none }
def ringRisesRow : OpenClaim := { program := "ytbgnmkjjfaepiaa", sum := "0d9e5aa799a356329bd26fcf5299f4d65e9b7b26c401d2cc0652c89087421a27", func := "penstock/penstocklaw13.RingRises", spec := "ringRises", unfollowed := true, recurses := true, apart := false }
def RingRisesSaid : Prop := ringRisesRow.holds Try.pinned (OpenSpec.ofChange ringRisesSpec)

/-- ITS FALSE NEIGHBOUR: 'it returns false'. Refute it at one input. -/
def ringRisesWrong : ChangeSpec := { name := "ringRises", fn := fun _ => fun
  | [d1, d2, d3, d4] => { results := [.lit (.bool false)], args := [d1, d2, d3, d4] }
  | _ => none }
def RingRisesWrongFalsely : Prop := ringRisesRow.holds Try.pinned (OpenSpec.ofChange ringRisesWrong)

/-- 'penstocklaw13.RingChanges': WHATEVER THE INPUT: true; the input reads as it did. -/
def ringChangesSpec : ChangeSpec := { name := "ringChanges", fn := fun _ => fun
  | [d1, d2, d3] => { results := [.lit (.bool true)], args := [d1, d2, d3] }
  | _ => none }
def ringChangesRow : OpenClaim := { program := "ytbgnmkjjfaepiaa", sum := "0d9e5aa799a356329bd26fcf5299f4d65e9b7b26c401d2cc0652c89087421a27", func := "penstock/penstocklaw13.RingChanges", spec := "ringChanges", unfollowed := true, recurses := true, apart := false }
def RingChangesSaid : Prop := ringChangesRow.holds Try.pinned (OpenSpec.ofChange ringChangesSpec)

/-- ITS FALSE NEIGHBOUR: 'it returns false'. Refute it at one input. -/
def ringChangesWrong : ChangeSpec := { name := "ringChanges", fn := fun _ => fun
  | [d1, d2, d3] => { results := [.lit (.bool false)], args := [d1, d2, d3] }
  | _ => none }
def RingChangesWrongFalsely : Prop := ringChangesRow.holds Try.pinned (OpenSpec.ofChange ringChangesWrong)

/- THE SECOND FORM. 'bulk': how many values and letters a reading holds, each counted each time it is reached (what is shared counts as often as it is met; a slice's spare places count too). A statement '..UptoSaid' is the law's where the arguments, and the package variables that the reading takes, are together of bulk at most 1048576: NARROWER than '..Said'. Prove '..Said' where nothing that the law and all that it calls make is longer than what came in: it says more and counts as full. Else prove '..UptoSaid'. A law counts once. -/
mutual
def uptoBulk {H : Type} : DataW H → Nat
  | .lit (.string bytes) => bytes.length + 1
  | .lit _ => 1
  | .nil => 1
  | .ptr d => uptoBulk d + 1
  | .slice elems spare => uptoBulkAll elems + uptoBulkAll spare + 1
  | .agg parts => uptoBulkAll parts + 1
  | .iface _ d => uptoBulk d + 1
  | .map entries => uptoBulkEntries entries + 1
  | .held _ => 1
def uptoBulkAll {H : Type} : List (DataW H) → Nat
  | [] => 0
  | d :: r => uptoBulk d + uptoBulkAll r
def uptoBulkEntries {H : Type} : List (Lit × DataW H) → Nat
  | [] => 0
  | x :: r => uptoBulkEntry x + uptoBulkEntries r
def uptoBulkEntry {H : Type} : Lit × DataW H → Nat
  | (.string bytes, d) => bytes.length + uptoBulk d + 1
  | (_, d) => uptoBulk d + 1
 end
def uptoSmall : (H : Type) → List (DataW H) → Bool := fun _ ds => decide (uptoBulkAll ds ≤ 1048576)
def OpenSpec.upto (s : _root_.Go.ChangeSpec) : _root_.Go.OpenSpec := { _root_.Go.OpenSpec.ofChange s with cond := some uptoSmall }

/-- 'penstocklaw13.RingAsks', WHERE WHAT IT READS IS OF BULK AT MOST 1048576: true; the input reads as it did. -/
def ringAsksUptoRow : OpenClaim := { program := "ytbgnmkjjfaepiaa", sum := "0d9e5aa799a356329bd26fcf5299f4d65e9b7b26c401d2cc0652c89087421a27", func := "penstock/penstocklaw13.RingAsks", spec := "ringAsks", unfollowed := true, recurses := true, apart := false, narrowed := true }
def RingAsksUptoSaid : Prop := ringAsksUptoRow.holds Try.pinned (OpenSpec.upto ringAsksSpec)

/-- 'penstocklaw13.RingSets', WHERE WHAT IT READS IS OF BULK AT MOST 1048576: true; the input reads as it did. -/
def ringSetsUptoRow : OpenClaim := { program := "ytbgnmkjjfaepiaa", sum := "0d9e5aa799a356329bd26fcf5299f4d65e9b7b26c401d2cc0652c89087421a27", func := "penstock/penstocklaw13.RingSets", spec := "ringSets", unfollowed := true, recurses := true, apart := false, narrowed := true }
def RingSetsUptoSaid : Prop := ringSetsUptoRow.holds Try.pinned (OpenSpec.upto ringSetsSpec)

/-- 'penstocklaw13.RingMerges', WHERE WHAT IT READS IS OF BULK AT MOST 1048576: true; the input reads as it did. -/
def ringMergesUptoRow : OpenClaim := { program := "ytbgnmkjjfaepiaa", sum := "0d9e5aa799a356329bd26fcf5299f4d65e9b7b26c401d2cc0652c89087421a27", func := "penstock/penstocklaw13.RingMerges", spec := "ringMerges", unfollowed := true, recurses := true, apart := false, narrowed := true }
def RingMergesUptoSaid : Prop := ringMergesUptoRow.holds Try.pinned (OpenSpec.upto ringMergesSpec)

/-- 'penstocklaw13.RingFull', WHERE WHAT IT READS IS OF BULK AT MOST 1048576: true; the input reads as it did. -/
def ringFullUptoRow : OpenClaim := { program := "ytbgnmkjjfaepiaa", sum := "0d9e5aa799a356329bd26fcf5299f4d65e9b7b26c401d2cc0652c89087421a27", func := "penstock/penstocklaw13.RingFull", spec := "ringFull", unfollowed := true, recurses := true, apart := false, narrowed := true }
def RingFullUptoSaid : Prop := ringFullUptoRow.holds Try.pinned (OpenSpec.upto ringFullSpec)

/-- 'penstocklaw13.RingEach', WHERE WHAT IT READS IS OF BULK AT MOST 1048576: true; the input reads as it did. -/
def ringEachUptoRow : OpenClaim := { program := "ytbgnmkjjfaepiaa", sum := "0d9e5aa799a356329bd26fcf5299f4d65e9b7b26c401d2cc0652c89087421a27", func := "penstock/penstocklaw13.RingEach", spec := "ringEach", unfollowed := true, recurses := true, apart := false, narrowed := true }
def RingEachUptoSaid : Prop := ringEachUptoRow.holds Try.pinned (OpenSpec.upto ringEachSpec)

/-- 'penstocklaw13.RingRises', WHERE WHAT IT READS IS OF BULK AT MOST 1048576: true; the input reads as it did. -/
def ringRisesUptoRow : OpenClaim := { program := "ytbgnmkjjfaepiaa", sum := "0d9e5aa799a356329bd26fcf5299f4d65e9b7b26c401d2cc0652c89087421a27", func := "penstock/penstocklaw13.RingRises", spec := "ringRises", unfollowed := true, recurses := true, apart := false, narrowed := true }
def RingRisesUptoSaid : Prop := ringRisesUptoRow.holds Try.pinned (OpenSpec.upto ringRisesSpec)

/-- 'penstocklaw13.RingChanges', WHERE WHAT IT READS IS OF BULK AT MOST 1048576: true; the input reads as it did. -/
def ringChangesUptoRow : OpenClaim := { program := "ytbgnmkjjfaepiaa", sum := "0d9e5aa799a356329bd26fcf5299f4d65e9b7b26c401d2cc0652c89087421a27", func := "penstock/penstocklaw13.RingChanges", spec := "ringChanges", unfollowed := true, recurses := true, apart := false, narrowed := true }
def RingChangesUptoSaid : Prop := ringChangesUptoRow.holds Try.pinned (OpenSpec.upto ringChangesSpec)

end Rows
end Go.Proofs.Ytbgnmkjjfaepiaa
