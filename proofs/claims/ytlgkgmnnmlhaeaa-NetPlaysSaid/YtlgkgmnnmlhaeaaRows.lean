/-
  No cell of these rows narrows 'for every input' (looked for: loops, veiled, ifaces, maps, wideKeys, modest, calm, conditions, laid).
  DERIVED. THE GIVEN ROWS OF THIS SEAT. 5 by the template 'for every input the law returns true; each argument reads behind the call as it read before'; 0 by the template 'total and deterministic' (their statements: YtlgkgmnnmlhaeaaTotals.lean).
  GIVEN WITH THE SEED: the statements are not yours to turn. If you find one false, say at which input.
  Laid BY PROGRAM, IN A SANDBOX (cutbox-rows.mjs): the forced cells as the released guide's own fill.sh prints them over the translation 96f6f14502d973be… (all of the seat's roots in one cut). By AI agents, Wed Nov 11 2026. No macro, syntax, notation, axiom, sorry.
-/
import Derived.Test.YtlgkgmnnmlhaeaaChecked
import GoSem.Claim
import GoSem.ClaimJoined
import GoSem.ClaimMapViews
import Derived.JoinedTies
import Derived.KernelRfl
namespace Go.Proofs.Ytlgkgmnnmlhaeaa
/- THE CELL 'sum', in the pinned program and in every row, IS THE sha256 OF THE DUMP (.gsa) THAT YtlgkgmnnmlhaeaaProg.lean LOADS. Nothing in Lean hashes anything: it is a label: what it is worth is what the hold of that sum in a sandbox is worth. -/
noncomputable def Try.pinned : Pinned := { name := "ytlgkgmnnmlhaeaa", sum := "96f6f14502d973be6e6cddf6ec75aa2b1a097c8f6d049ec51c7d2197a66074a4", checked := Try.checked }
namespace Rows
def none {H : Type} : Left H := { results := [], args := [] }

/-- 'penstocklaw6.NetOnce': WHATEVER THE INPUT: true; the input reads as it did. -/
def netOnceSpec : ChangeSpec := { name := "netOnce", fn := fun _ => fun
  | [d1, d2] => { results := [.lit (.bool true)], args := [d1, d2] }
  | _ => none }
def netOnceRow : OpenClaim := { program := "ytlgkgmnnmlhaeaa", sum := "96f6f14502d973be6e6cddf6ec75aa2b1a097c8f6d049ec51c7d2197a66074a4", func := "penstock/penstocklaw6.NetOnce", spec := "netOnce", apart := false }
def NetOnceSaid : Prop := netOnceRow.holds Try.pinned (OpenSpec.ofChange netOnceSpec)

/-- ITS FALSE NEIGHBOUR: 'it returns false'. Refute it at one input. -/
def netOnceWrong : ChangeSpec := { name := "netOnce", fn := fun _ => fun
  | [d1, d2] => { results := [.lit (.bool false)], args := [d1, d2] }
  | _ => none }
def NetOnceWrongFalsely : Prop := netOnceRow.holds Try.pinned (OpenSpec.ofChange netOnceWrong)

/-- 'penstocklaw6.NetRows': WHATEVER THE INPUT: true; the input reads as it did. -/
def netRowsSpec : ChangeSpec := { name := "netRows", fn := fun _ => fun
  | [d1, d2] => { results := [.lit (.bool true)], args := [d1, d2] }
  | _ => none }
def netRowsRow : OpenClaim := { program := "ytlgkgmnnmlhaeaa", sum := "96f6f14502d973be6e6cddf6ec75aa2b1a097c8f6d049ec51c7d2197a66074a4", func := "penstock/penstocklaw6.NetRows", spec := "netRows", apart := false }
def NetRowsSaid : Prop := netRowsRow.holds Try.pinned (OpenSpec.ofChange netRowsSpec)

/-- ITS FALSE NEIGHBOUR: 'it returns false'. Refute it at one input. -/
def netRowsWrong : ChangeSpec := { name := "netRows", fn := fun _ => fun
  | [d1, d2] => { results := [.lit (.bool false)], args := [d1, d2] }
  | _ => none }
def NetRowsWrongFalsely : Prop := netRowsRow.holds Try.pinned (OpenSpec.ofChange netRowsWrong)

/-- 'penstocklaw6.NetClears': WHATEVER THE INPUT: true; the input reads as it did. -/
def netClearsSpec : ChangeSpec := { name := "netClears", fn := fun _ => fun
  | [d1, d2] => { results := [.lit (.bool true)], args := [d1, d2] }
  | _ => none }
def netClearsRow : OpenClaim := { program := "ytlgkgmnnmlhaeaa", sum := "96f6f14502d973be6e6cddf6ec75aa2b1a097c8f6d049ec51c7d2197a66074a4", func := "penstock/penstocklaw6.NetClears", spec := "netClears", unfollowed := true, recurses := true, apart := false }
def NetClearsSaid : Prop := netClearsRow.holds Try.pinned (OpenSpec.ofChange netClearsSpec)

/-- ITS FALSE NEIGHBOUR: 'it returns false'. Refute it at one input. -/
def netClearsWrong : ChangeSpec := { name := "netClears", fn := fun _ => fun
  | [d1, d2] => { results := [.lit (.bool false)], args := [d1, d2] }
  | _ => none }
def NetClearsWrongFalsely : Prop := netClearsRow.holds Try.pinned (OpenSpec.ofChange netClearsWrong)

/-- 'penstocklaw6.NetPlays': WHATEVER THE INPUT: true; the input reads as it did. -/
def netPlaysSpec : ChangeSpec := { name := "netPlays", fn := fun _ => fun
  | [d] => { results := [.lit (.bool true)], args := [d] }
  | _ => none }
def netPlaysRow : OpenClaim := { program := "ytlgkgmnnmlhaeaa", sum := "96f6f14502d973be6e6cddf6ec75aa2b1a097c8f6d049ec51c7d2197a66074a4", func := "penstock/penstocklaw6.NetPlays", spec := "netPlays", unfollowed := true, recurses := true, apart := false }
def NetPlaysSaid : Prop := netPlaysRow.holds Try.pinned (OpenSpec.ofChange netPlaysSpec)

/-- ITS FALSE NEIGHBOUR: 'it returns false'. Refute it at one input. -/
def netPlaysWrong : ChangeSpec := { name := "netPlays", fn := fun _ => fun
  | [d] => { results := [.lit (.bool false)], args := [d] }
  | _ => none }
def NetPlaysWrongFalsely : Prop := netPlaysRow.holds Try.pinned (OpenSpec.ofChange netPlaysWrong)

/-- 'penstocklaw6.NetOwn': WHATEVER THE INPUT: true; the input reads as it did. -/
def netOwnSpec : ChangeSpec := { name := "netOwn", fn := fun _ => fun
  | [d] => { results := [.lit (.bool true)], args := [d] }
  | _ => none }
def netOwnRow : OpenClaim := { program := "ytlgkgmnnmlhaeaa", sum := "96f6f14502d973be6e6cddf6ec75aa2b1a097c8f6d049ec51c7d2197a66074a4", func := "penstock/penstocklaw6.NetOwn", spec := "netOwn", unfollowed := true, recurses := true, apart := false }
def NetOwnSaid : Prop := netOwnRow.holds Try.pinned (OpenSpec.ofChange netOwnSpec)

/-- ITS FALSE NEIGHBOUR: 'it returns false'. Refute it at one input. -/
def netOwnWrong : ChangeSpec := { name := "netOwn", fn := fun _ => fun
  | [d] => { results := [.lit (.bool false)], args := [d] }
  | _ => none }
def NetOwnWrongFalsely : Prop := netOwnRow.holds Try.pinned (OpenSpec.ofChange netOwnWrong)

/- THE SECOND FORM. 'bulk': how many values and letters a reading holds, each counted each time it is reached (what is shared counts as often as it is met; a slice's spare places count too). A statement '..UptoSaid' is the law's where the arguments, and the package variables that the reading takes, are together of bulk at most 1048576: NARROWER than '..Said'. Prove '..Said' where nothing that the law and all that it calls make is longer than what came in: it says more and counts as full. Else prove '..UptoSaid'. A law counts once. -/
mutual
def uptoBulk {H : Type} : DataW H → Nat
  | .lit (.string bytes) => bytes.length + 1
  | .lit _ => 1
  | .nil => 1
  | .ptr d => uptoBulk d + 1
  | .slice elems spare => uptoBulkAll elems + uptoBulkAll spare + 1
  | .agg parts => uptoBulkAll parts + 1
  | .iface _ d => uptoBulk d + 1
  | .map entries => uptoBulkEntries entries + 1
  | .held _ => 1
def uptoBulkAll {H : Type} : List (DataW H) → Nat
  | [] => 0
  | d :: r => uptoBulk d + uptoBulkAll r
def uptoBulkEntries {H : Type} : List (Lit × DataW H) → Nat
  | [] => 0
  | x :: r => uptoBulkEntry x + uptoBulkEntries r
def uptoBulkEntry {H : Type} : Lit × DataW H → Nat
  | (.string bytes, d) => bytes.length + uptoBulk d + 1
  | (_, d) => uptoBulk d + 1
 end
def uptoSmall : (H : Type) → List (DataW H) → Bool := fun _ ds => decide (uptoBulkAll ds ≤ 1048576)
def OpenSpec.upto (s : _root_.Go.ChangeSpec) : _root_.Go.OpenSpec := { _root_.Go.OpenSpec.ofChange s with cond := some uptoSmall }

/-- 'penstocklaw6.NetOnce', WHERE WHAT IT READS IS OF BULK AT MOST 1048576: true; the input reads as it did. -/
def netOnceUptoRow : OpenClaim := { program := "ytlgkgmnnmlhaeaa", sum := "96f6f14502d973be6e6cddf6ec75aa2b1a097c8f6d049ec51c7d2197a66074a4", func := "penstock/penstocklaw6.NetOnce", spec := "netOnce", apart := false, narrowed := true }
def NetOnceUptoSaid : Prop := netOnceUptoRow.holds Try.pinned (OpenSpec.upto netOnceSpec)

/-- 'penstocklaw6.NetRows', WHERE WHAT IT READS IS OF BULK AT MOST 1048576: true; the input reads as it did. -/
def netRowsUptoRow : OpenClaim := { program := "ytlgkgmnnmlhaeaa", sum := "96f6f14502d973be6e6cddf6ec75aa2b1a097c8f6d049ec51c7d2197a66074a4", func := "penstock/penstocklaw6.NetRows", spec := "netRows", apart := false, narrowed := true }
def NetRowsUptoSaid : Prop := netRowsUptoRow.holds Try.pinned (OpenSpec.upto netRowsSpec)

/-- 'penstocklaw6.NetClears', WHERE WHAT IT READS IS OF BULK AT MOST 1048576: true; the input reads as it did. -/
def netClearsUptoRow : OpenClaim := { program := "ytlgkgmnnmlhaeaa", sum := "96f6f14502d973be6e6cddf6ec75aa2b1a097c8f6d049ec51c7d2197a66074a4", func := "penstock/penstocklaw6.NetClears", spec := "netClears", unfollowed := true, recurses := true, apart := false, narrowed := true }
def NetClearsUptoSaid : Prop := netClearsUptoRow.holds Try.pinned (OpenSpec.upto netClearsSpec)

/-- 'penstocklaw6.NetPlays', WHERE WHAT IT READS IS OF BULK AT MOST 1048576: true; the input reads as it did. -/
def netPlaysUptoRow : OpenClaim := { program := "ytlgkgmnnmlhaeaa", sum := "96f6f14502d973be6e6cddf6ec75aa2b1a097c8f6d049ec51c7d2197a66074a4", func := "penstock/penstocklaw6.NetPlays", spec := "netPlays", unfollowed := true, recurses := true, apart := false, narrowed := true }
def NetPlaysUptoSaid : Prop := netPlaysUptoRow.holds Try.pinned (OpenSpec.upto netPlaysSpec)

/-- 'penstocklaw6.NetOwn', WHERE WHAT IT READS IS OF BULK AT MOST 1048576: true; the input reads as it did. -/
def netOwnUptoRow : OpenClaim := { program := "ytlgkgmnnmlhaeaa", sum := "96f6f14502d973be6e6cddf6ec75aa2b1a097c8f6d049ec51c7d2197a66074a4", func := "penstock/penstocklaw6.NetOwn", spec := "netOwn", unfollowed := true, recurses := true, apart := false, narrowed := true }
def NetOwnUptoSaid : Prop := netOwnUptoRow.holds Try.pinned (OpenSpec.upto netOwnSpec)

end Rows
end Go.Proofs.Ytlgkgmnnmlhaeaa
