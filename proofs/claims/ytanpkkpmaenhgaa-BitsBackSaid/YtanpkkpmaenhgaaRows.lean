/-
  No cell of these rows narrows 'for every input' (looked for: loops, veiled, ifaces, maps, wideKeys, modest, calm, conditions, laid).
  DERIVED. THE GIVEN ROWS OF THIS SEAT. 6 by the template 'for every input the law returns true; each argument reads behind the call as it read before'; 0 by the template 'total and deterministic' (their statements: YtanpkkpmaenhgaaTotals.lean).
  GIVEN WITH THE SEED: the statements are not yours to turn. If you find one false, say at which input.
  Laid BY PROGRAM, IN A SANDBOX (cutbox-rows.mjs): the forced cells as the released guide's own fill.sh prints them over the translation 55b9e217c7477d0d… (all of the seat's roots in one cut). By AI agents, Wed Nov 11 2026. No macro, syntax, notation, axiom, sorry.
-/
import Derived.Test.YtanpkkpmaenhgaaChecked
import GoSem.Claim
import GoSem.ClaimJoined
import GoSem.ClaimMapViews
import Derived.JoinedTies
import Derived.KernelRfl
namespace Go.Proofs.Ytanpkkpmaenhgaa
/- THE CELL 'sum', in the pinned program and in every row, IS THE sha256 OF THE DUMP (.gsa) THAT YtanpkkpmaenhgaaProg.lean LOADS. Nothing in Lean hashes anything: it is a label: what it is worth is what the hold of that sum in a sandbox is worth. -/
noncomputable def Try.pinned : Pinned := { name := "ytanpkkpmaenhgaa", sum := "55b9e217c7477d0d7ffb0db5eedd188664ee9e6d80cff934977a4eb00e41657e", checked := Try.checked }
namespace Rows
def none {H : Type} : Left H := { results := [], args := [] }

/-- 'penstocklaw3.BitsHash': WHATEVER THE INPUT: true; the input reads as it did. -/
def bitsHashSpec : ChangeSpec := { name := "bitsHash", fn := fun _ => fun
  | [d1, d2] => { results := [.lit (.bool true)], args := [d1, d2] }
  | _ => none }
def bitsHashRow : OpenClaim := { program := "ytanpkkpmaenhgaa", sum := "55b9e217c7477d0d7ffb0db5eedd188664ee9e6d80cff934977a4eb00e41657e", func := "penstock/penstocklaw3.BitsHash", spec := "bitsHash", apart := false }
def BitsHashSaid : Prop := bitsHashRow.holds Try.pinned (OpenSpec.ofChange bitsHashSpec)

/-- ITS FALSE NEIGHBOUR: 'it returns false'. Refute it at one input. -/
def bitsHashWrong : ChangeSpec := { name := "bitsHash", fn := fun _ => fun
  | [d1, d2] => { results := [.lit (.bool false)], args := [d1, d2] }
  | _ => none }
def BitsHashWrongFalsely : Prop := bitsHashRow.holds Try.pinned (OpenSpec.ofChange bitsHashWrong)

/-- 'penstocklaw3.BitsFolds': WHATEVER THE INPUT: true; the input reads as it did. -/
def bitsFoldsSpec : ChangeSpec := { name := "bitsFolds", fn := fun _ => fun
  | [d1, d2] => { results := [.lit (.bool true)], args := [d1, d2] }
  | _ => none }
def bitsFoldsRow : OpenClaim := { program := "ytanpkkpmaenhgaa", sum := "55b9e217c7477d0d7ffb0db5eedd188664ee9e6d80cff934977a4eb00e41657e", func := "penstock/penstocklaw3.BitsFolds", spec := "bitsFolds", apart := false }
def BitsFoldsSaid : Prop := bitsFoldsRow.holds Try.pinned (OpenSpec.ofChange bitsFoldsSpec)

/-- ITS FALSE NEIGHBOUR: 'it returns false'. Refute it at one input. -/
def bitsFoldsWrong : ChangeSpec := { name := "bitsFolds", fn := fun _ => fun
  | [d1, d2] => { results := [.lit (.bool false)], args := [d1, d2] }
  | _ => none }
def BitsFoldsWrongFalsely : Prop := bitsFoldsRow.holds Try.pinned (OpenSpec.ofChange bitsFoldsWrong)

/-- 'penstocklaw3.BitsShort': WHATEVER THE INPUT: true; the input reads as it did. -/
def bitsShortSpec : ChangeSpec := { name := "bitsShort", fn := fun _ => fun
  | [d1, d2, d3] => { results := [.lit (.bool true)], args := [d1, d2, d3] }
  | _ => none }
def bitsShortRow : OpenClaim := { program := "ytanpkkpmaenhgaa", sum := "55b9e217c7477d0d7ffb0db5eedd188664ee9e6d80cff934977a4eb00e41657e", func := "penstock/penstocklaw3.BitsShort", spec := "bitsShort", apart := false }
def BitsShortSaid : Prop := bitsShortRow.holds Try.pinned (OpenSpec.ofChange bitsShortSpec)

/-- ITS FALSE NEIGHBOUR: 'it returns false'. Refute it at one input. -/
def bitsShortWrong : ChangeSpec := { name := "bitsShort", fn := fun _ => fun
  | [d1, d2, d3] => { results := [.lit (.bool false)], args := [d1, d2, d3] }
  | _ => none }
def BitsShortWrongFalsely : Prop := bitsShortRow.holds Try.pinned (OpenSpec.ofChange bitsShortWrong)

/-- 'penstocklaw3.BitsVarints': WHATEVER THE INPUT: true; the input reads as it did. -/
def bitsVarintsSpec : ChangeSpec := { name := "bitsVarints", fn := fun _ => fun
  | [d1, d2] => { results := [.lit (.bool true)], args := [d1, d2] }
  | _ => none }
def bitsVarintsRow : OpenClaim := { program := "ytanpkkpmaenhgaa", sum := "55b9e217c7477d0d7ffb0db5eedd188664ee9e6d80cff934977a4eb00e41657e", func := "penstock/penstocklaw3.BitsVarints", spec := "bitsVarints", apart := false }
def BitsVarintsSaid : Prop := bitsVarintsRow.holds Try.pinned (OpenSpec.ofChange bitsVarintsSpec)

/-- ITS FALSE NEIGHBOUR: 'it returns false'. Refute it at one input. -/
def bitsVarintsWrong : ChangeSpec := { name := "bitsVarints", fn := fun _ => fun
  | [d1, d2] => { results := [.lit (.bool false)], args := [d1, d2] }
  | _ => none }
def BitsVarintsWrongFalsely : Prop := bitsVarintsRow.holds Try.pinned (OpenSpec.ofChange bitsVarintsWrong)

/-- 'penstocklaw3.BitsTexts': WHATEVER THE INPUT: true; the input reads as it did. -/
def bitsTextsSpec : ChangeSpec := { name := "bitsTexts", fn := fun _ => fun
  | [d1, d2] => { results := [.lit (.bool true)], args := [d1, d2] }
  | _ => none }
def bitsTextsRow : OpenClaim := { program := "ytanpkkpmaenhgaa", sum := "55b9e217c7477d0d7ffb0db5eedd188664ee9e6d80cff934977a4eb00e41657e", func := "penstock/penstocklaw3.BitsTexts", spec := "bitsTexts", apart := false }
def BitsTextsSaid : Prop := bitsTextsRow.holds Try.pinned (OpenSpec.ofChange bitsTextsSpec)

/-- ITS FALSE NEIGHBOUR: 'it returns false'. Refute it at one input. -/
def bitsTextsWrong : ChangeSpec := { name := "bitsTexts", fn := fun _ => fun
  | [d1, d2] => { results := [.lit (.bool false)], args := [d1, d2] }
  | _ => none }
def BitsTextsWrongFalsely : Prop := bitsTextsRow.holds Try.pinned (OpenSpec.ofChange bitsTextsWrong)

/-- 'penstocklaw3.BitsBack': WHATEVER THE INPUT: true; the input reads as it did. -/
def bitsBackSpec : ChangeSpec := { name := "bitsBack", fn := fun _ => fun
  | [d1, d2, d3, d4] => { results := [.lit (.bool true)], args := [d1, d2, d3, d4] }
  | _ => none }
def bitsBackRow : OpenClaim := { program := "ytanpkkpmaenhgaa", sum := "55b9e217c7477d0d7ffb0db5eedd188664ee9e6d80cff934977a4eb00e41657e", func := "penstock/penstocklaw3.BitsBack", spec := "bitsBack", apart := false }
def BitsBackSaid : Prop := bitsBackRow.holds Try.pinned (OpenSpec.ofChange bitsBackSpec)

/-- ITS FALSE NEIGHBOUR: 'it returns false'. Refute it at one input. -/
def bitsBackWrong : ChangeSpec := { name := "bitsBack", fn := fun _ => fun
  | [d1, d2, d3, d4] => { results := [.lit (.bool false)], args := [d1, d2, d3, d4] }
  | _ => none }
def BitsBackWrongFalsely : Prop := bitsBackRow.holds Try.pinned (OpenSpec.ofChange bitsBackWrong)

/- THE SECOND FORM. 'bulk': how many values and letters a reading holds, each counted each time it is reached (what is shared counts as often as it is met; a slice's spare places count too). A statement '..UptoSaid' is the law's where the arguments, and the package variables that the reading takes, are together of bulk at most 1048576: NARROWER than '..Said'. Prove '..Said' where nothing that the law and all that it calls make is longer than what came in: it says more and counts as full. Else prove '..UptoSaid'. A law counts once. -/
mutual
def uptoBulk {H : Type} : DataW H → Nat
  | .lit (.string bytes) => bytes.length + 1
  | .lit _ => 1
  | .nil => 1
  | .ptr d => uptoBulk d + 1
  | .slice elems spare => uptoBulkAll elems + uptoBulkAll spare + 1
  | .agg parts => uptoBulkAll parts + 1
  | .iface _ d => uptoBulk d + 1
  | .map entries => uptoBulkEntries entries + 1
  | .held _ => 1
def uptoBulkAll {H : Type} : List (DataW H) → Nat
  | [] => 0
  | d :: r => uptoBulk d + uptoBulkAll r
def uptoBulkEntries {H : Type} : List (Lit × DataW H) → Nat
  | [] => 0
  | x :: r => uptoBulkEntry x + uptoBulkEntries r
def uptoBulkEntry {H : Type} : Lit × DataW H → Nat
  | (.string bytes, d) => bytes.length + uptoBulk d + 1
  | (_, d) => uptoBulk d + 1
 end
def uptoSmall : (H : Type) → List (DataW H) → Bool := fun _ ds => decide (uptoBulkAll ds ≤ 1048576)
def OpenSpec.upto (s : _root_.Go.ChangeSpec) : _root_.Go.OpenSpec := { _root_.Go.OpenSpec.ofChange s with cond := some uptoSmall }

/-- 'penstocklaw3.BitsHash', WHERE WHAT IT READS IS OF BULK AT MOST 1048576: true; the input reads as it did. -/
def bitsHashUptoRow : OpenClaim := { program := "ytanpkkpmaenhgaa", sum := "55b9e217c7477d0d7ffb0db5eedd188664ee9e6d80cff934977a4eb00e41657e", func := "penstock/penstocklaw3.BitsHash", spec := "bitsHash", apart := false, narrowed := true }
def BitsHashUptoSaid : Prop := bitsHashUptoRow.holds Try.pinned (OpenSpec.upto bitsHashSpec)

/-- 'penstocklaw3.BitsFolds', WHERE WHAT IT READS IS OF BULK AT MOST 1048576: true; the input reads as it did. -/
def bitsFoldsUptoRow : OpenClaim := { program := "ytanpkkpmaenhgaa", sum := "55b9e217c7477d0d7ffb0db5eedd188664ee9e6d80cff934977a4eb00e41657e", func := "penstock/penstocklaw3.BitsFolds", spec := "bitsFolds", apart := false, narrowed := true }
def BitsFoldsUptoSaid : Prop := bitsFoldsUptoRow.holds Try.pinned (OpenSpec.upto bitsFoldsSpec)

/-- 'penstocklaw3.BitsShort', WHERE WHAT IT READS IS OF BULK AT MOST 1048576: true; the input reads as it did. -/
def bitsShortUptoRow : OpenClaim := { program := "ytanpkkpmaenhgaa", sum := "55b9e217c7477d0d7ffb0db5eedd188664ee9e6d80cff934977a4eb00e41657e", func := "penstock/penstocklaw3.BitsShort", spec := "bitsShort", apart := false, narrowed := true }
def BitsShortUptoSaid : Prop := bitsShortUptoRow.holds Try.pinned (OpenSpec.upto bitsShortSpec)

/-- 'penstocklaw3.BitsVarints', WHERE WHAT IT READS IS OF BULK AT MOST 1048576: true; the input reads as it did. -/
def bitsVarintsUptoRow : OpenClaim := { program := "ytanpkkpmaenhgaa", sum := "55b9e217c7477d0d7ffb0db5eedd188664ee9e6d80cff934977a4eb00e41657e", func := "penstock/penstocklaw3.BitsVarints", spec := "bitsVarints", apart := false, narrowed := true }
def BitsVarintsUptoSaid : Prop := bitsVarintsUptoRow.holds Try.pinned (OpenSpec.upto bitsVarintsSpec)

/-- 'penstocklaw3.BitsTexts', WHERE WHAT IT READS IS OF BULK AT MOST 1048576: true; the input reads as it did. -/
def bitsTextsUptoRow : OpenClaim := { program := "ytanpkkpmaenhgaa", sum := "55b9e217c7477d0d7ffb0db5eedd188664ee9e6d80cff934977a4eb00e41657e", func := "penstock/penstocklaw3.BitsTexts", spec := "bitsTexts", apart := false, narrowed := true }
def BitsTextsUptoSaid : Prop := bitsTextsUptoRow.holds Try.pinned (OpenSpec.upto bitsTextsSpec)

/-- 'penstocklaw3.BitsBack', WHERE WHAT IT READS IS OF BULK AT MOST 1048576: true; the input reads as it did. -/
def bitsBackUptoRow : OpenClaim := { program := "ytanpkkpmaenhgaa", sum := "55b9e217c7477d0d7ffb0db5eedd188664ee9e6d80cff934977a4eb00e41657e", func := "penstock/penstocklaw3.BitsBack", spec := "bitsBack", apart := false, narrowed := true }
def BitsBackUptoSaid : Prop := bitsBackUptoRow.holds Try.pinned (OpenSpec.upto bitsBackSpec)

end Rows
end Go.Proofs.Ytanpkkpmaenhgaa
