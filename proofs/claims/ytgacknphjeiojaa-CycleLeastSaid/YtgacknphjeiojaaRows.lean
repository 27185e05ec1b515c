/-
  No cell of these rows narrows 'for every input' (looked for: loops, veiled, ifaces, maps, wideKeys, modest, calm, conditions, laid).
  DERIVED. THE GIVEN ROWS OF THIS SEAT. 4 by the template 'for every input the law returns true; each argument reads behind the call as it read before'; 0 by the template 'total and deterministic' (their statements: YtgacknphjeiojaaTotals.lean).
  GIVEN WITH THE SEED: the statements are not yours to turn. If you find one false, say at which input.
  Laid BY PROGRAM, IN A SANDBOX (cutbox-rows.mjs): the forced cells as the released guide's own fill.sh prints them over the translation 62fb1c382a7d08fb… (all of the seat's roots in one cut). By AI agents, Wed Nov 11 2026. No macro, syntax, notation, axiom, sorry.
-/
import Derived.Test.YtgacknphjeiojaaChecked
import GoSem.Claim
import GoSem.ClaimJoined
import GoSem.ClaimMapViews
import Derived.JoinedTies
import Derived.KernelRfl
namespace Go.Proofs.Ytgacknphjeiojaa
/- THE CELL 'sum', in the pinned program and in every row, IS THE sha256 OF THE DUMP (.gsa) THAT YtgacknphjeiojaaProg.lean LOADS. Nothing in Lean hashes anything: it is a label: what it is worth is what the hold of that sum in a sandbox is worth. -/
noncomputable def Try.pinned : Pinned := { name := "ytgacknphjeiojaa", sum := "62fb1c382a7d08fb935f9a69cf6236b05d97dc5d1bd8f403e631ca94ac46458a", checked := Try.checked }
namespace Rows
def none {H : Type} : Left H := { results := [], args := [] }

/-- 'alibilaw15.CycleNone': WHATEVER THE INPUT: true; the input reads as it did. -/
def cycleNoneSpec : ChangeSpec := { name := "cycleNone", fn := fun _ => fun
  | [d1, d2] => { results := [.lit (.bool true)], args := [d1, d2] }
  | _ => none }
def cycleNoneRow : OpenClaim := { program := "ytgacknphjeiojaa", sum := "62fb1c382a7d08fb935f9a69cf6236b05d97dc5d1bd8f403e631ca94ac46458a", func := "alibi/alibilaw15.CycleNone", spec := "cycleNone", inPlace := ["slices.overlaps[alibi/graph.Edge]"], unfollowed := true, recurses := true, plainKeys := false, apart := false }
def CycleNoneSaid : Prop := cycleNoneRow.holds Try.pinned (OpenSpec.ofChange cycleNoneSpec)

/-- ITS FALSE NEIGHBOUR: 'it returns false'. Refute it at one input. -/
def cycleNoneWrong : ChangeSpec := { name := "cycleNone", fn := fun _ => fun
  | [d1, d2] => { results := [.lit (.bool false)], args := [d1, d2] }
  | _ => none }
def CycleNoneWrongFalsely : Prop := cycleNoneRow.holds Try.pinned (OpenSpec.ofChange cycleNoneWrong)

/-- 'alibilaw15.CyclePaths': WHATEVER THE INPUT: true; the input reads as it did. -/
def cyclePathsSpec : ChangeSpec := { name := "cyclePaths", fn := fun _ => fun
  | [d1, d2, d3, d4] => { results := [.lit (.bool true)], args := [d1, d2, d3, d4] }
  | _ => none }
def cyclePathsRow : OpenClaim := { program := "ytgacknphjeiojaa", sum := "62fb1c382a7d08fb935f9a69cf6236b05d97dc5d1bd8f403e631ca94ac46458a", func := "alibi/alibilaw15.CyclePaths", spec := "cyclePaths", inPlace := ["slices.overlaps[alibi/graph.Edge]"], unfollowed := true, recurses := true, plainKeys := false, apart := false }
def CyclePathsSaid : Prop := cyclePathsRow.holds Try.pinned (OpenSpec.ofChange cyclePathsSpec)

/-- ITS FALSE NEIGHBOUR: 'it returns false'. Refute it at one input. -/
def cyclePathsWrong : ChangeSpec := { name := "cyclePaths", fn := fun _ => fun
  | [d1, d2, d3, d4] => { results := [.lit (.bool false)], args := [d1, d2, d3, d4] }
  | _ => none }
def CyclePathsWrongFalsely : Prop := cyclePathsRow.holds Try.pinned (OpenSpec.ofChange cyclePathsWrong)

/-- 'alibilaw15.CycleLeast': WHATEVER THE INPUT: true; the input reads as it did. -/
def cycleLeastSpec : ChangeSpec := { name := "cycleLeast", fn := fun _ => fun
  | [d1, d2, d3, d4, d5, d6] => { results := [.lit (.bool true)], args := [d1, d2, d3, d4, d5, d6] }
  | _ => none }
def cycleLeastRow : OpenClaim := { program := "ytgacknphjeiojaa", sum := "62fb1c382a7d08fb935f9a69cf6236b05d97dc5d1bd8f403e631ca94ac46458a", func := "alibi/alibilaw15.CycleLeast", spec := "cycleLeast", inPlace := ["slices.overlaps[alibi/graph.Edge]"], unfollowed := true, recurses := true, plainKeys := false, apart := false }
def CycleLeastSaid : Prop := cycleLeastRow.holds Try.pinned (OpenSpec.ofChange cycleLeastSpec)

/-- ITS FALSE NEIGHBOUR: 'it returns false'. Refute it at one input. -/
def cycleLeastWrong : ChangeSpec := { name := "cycleLeast", fn := fun _ => fun
  | [d1, d2, d3, d4, d5, d6] => { results := [.lit (.bool false)], args := [d1, d2, d3, d4, d5, d6] }
  | _ => none }
def CycleLeastWrongFalsely : Prop := cycleLeastRow.holds Try.pinned (OpenSpec.ofChange cycleLeastWrong)

/-- 'alibilaw15.CycleWalks': WHATEVER THE INPUT: true; the input reads as it did. -/
def cycleWalksSpec : ChangeSpec := { name := "cycleWalks", fn := fun _ => fun
  | [d1, d2, d3, d4] => { results := [.lit (.bool true)], args := [d1, d2, d3, d4] }
  | _ => none }
def cycleWalksRow : OpenClaim := { program := "ytgacknphjeiojaa", sum := "62fb1c382a7d08fb935f9a69cf6236b05d97dc5d1bd8f403e631ca94ac46458a", func := "alibi/alibilaw15.CycleWalks", spec := "cycleWalks", inPlace := ["slices.overlaps[alibi/graph.Edge]"], unfollowed := true, recurses := true, plainKeys := false, apart := false }
def CycleWalksSaid : Prop := cycleWalksRow.holds Try.pinned (OpenSpec.ofChange cycleWalksSpec)

/-- ITS FALSE NEIGHBOUR: 'it returns false'. Refute it at one input. -/
def cycleWalksWrong : ChangeSpec := { name := "cycleWalks", fn := fun _ => fun
  | [d1, d2, d3, d4] => { results := [.lit (.bool false)], args := [d1, d2, d3, d4] }
  | _ => none }
def CycleWalksWrongFalsely : Prop := cycleWalksRow.holds Try.pinned (OpenSpec.ofChange cycleWalksWrong)

/- THE SECOND FORM. 'bulk': how many values and letters a reading holds, each counted each time it is reached (what is shared counts as often as it is met; a slice's spare places count too). A statement '..UptoSaid' is the law's where the arguments, and the package variables that the reading takes, are together of bulk at most 1048576: NARROWER than '..Said'. Prove '..Said' where nothing that the law and all that it calls make is longer than what came in: it says more and counts as full. Else prove '..UptoSaid'. A law counts once. -/
mutual
def uptoBulk {H : Type} : DataW H → Nat
  | .lit (.string bytes) => bytes.length + 1
  | .lit _ => 1
  | .nil => 1
  | .ptr d => uptoBulk d + 1
  | .slice elems spare => uptoBulkAll elems + uptoBulkAll spare + 1
  | .agg parts => uptoBulkAll parts + 1
  | .iface _ d => uptoBulk d + 1
  | .map entries => uptoBulkEntries entries + 1
  | .held _ => 1
def uptoBulkAll {H : Type} : List (DataW H) → Nat
  | [] => 0
  | d :: r => uptoBulk d + uptoBulkAll r
def uptoBulkEntries {H : Type} : List (Lit × DataW H) → Nat
  | [] => 0
  | x :: r => uptoBulkEntry x + uptoBulkEntries r
def uptoBulkEntry {H : Type} : Lit × DataW H → Nat
  | (.string bytes, d) => bytes.length + uptoBulk d + 1
  | (_, d) => uptoBulk d + 1
 end
def uptoSmall : (H : Type) → List (DataW H) → Bool := fun _ ds => decide (uptoBulkAll ds ≤ 1048576)
def OpenSpec.upto (s : _root_.Go.ChangeSpec) : _root_.Go.OpenSpec := { _root_.Go.OpenSpec.ofChange s with cond := some uptoSmall }

/-- 'alibilaw15.CycleNone', WHERE WHAT IT READS IS OF BULK AT MOST 1048576: true; the input reads as it did. -/
def cycleNoneUptoRow : OpenClaim := { program := "ytgacknphjeiojaa", sum := "62fb1c382a7d08fb935f9a69cf6236b05d97dc5d1bd8f403e631ca94ac46458a", func := "alibi/alibilaw15.CycleNone", spec := "cycleNone", inPlace := ["slices.overlaps[alibi/graph.Edge]"], unfollowed := true, recurses := true, plainKeys := false, apart := false, narrowed := true }
def CycleNoneUptoSaid : Prop := cycleNoneUptoRow.holds Try.pinned (OpenSpec.upto cycleNoneSpec)

/-- 'alibilaw15.CyclePaths', WHERE WHAT IT READS IS OF BULK AT MOST 1048576: true; the input reads as it did. -/
def cyclePathsUptoRow : OpenClaim := { program := "ytgacknphjeiojaa", sum := "62fb1c382a7d08fb935f9a69cf6236b05d97dc5d1bd8f403e631ca94ac46458a", func := "alibi/alibilaw15.CyclePaths", spec := "cyclePaths", inPlace := ["slices.overlaps[alibi/graph.Edge]"], unfollowed := true, recurses := true, plainKeys := false, apart := false, narrowed := true }
def CyclePathsUptoSaid : Prop := cyclePathsUptoRow.holds Try.pinned (OpenSpec.upto cyclePathsSpec)

/-- 'alibilaw15.CycleLeast', WHERE WHAT IT READS IS OF BULK AT MOST 1048576: true; the input reads as it did. -/
def cycleLeastUptoRow : OpenClaim := { program := "ytgacknphjeiojaa", sum := "62fb1c382a7d08fb935f9a69cf6236b05d97dc5d1bd8f403e631ca94ac46458a", func := "alibi/alibilaw15.CycleLeast", spec := "cycleLeast", inPlace := ["slices.overlaps[alibi/graph.Edge]"], unfollowed := true, recurses := true, plainKeys := false, apart := false, narrowed := true }
def CycleLeastUptoSaid : Prop := cycleLeastUptoRow.holds Try.pinned (OpenSpec.upto cycleLeastSpec)

/-- 'alibilaw15.CycleWalks', WHERE WHAT IT READS IS OF BULK AT MOST 1048576: true; the input reads as it did. -/
def cycleWalksUptoRow : OpenClaim := { program := "ytgacknphjeiojaa", sum := "62fb1c382a7d08fb935f9a69cf6236b05d97dc5d1bd8f403e631ca94ac46458a", func := "alibi/alibilaw15.CycleWalks", spec := "cycleWalks", inPlace := ["slices.overlaps[alibi/graph.Edge]"], unfollowed := true, recurses := true, plainKeys := false, apart := false, narrowed := true }
def CycleWalksUptoSaid : Prop := cycleWalksUptoRow.holds Try.pinned (OpenSpec.upto cycleWalksSpec)

end Rows
end Go.Proofs.Ytgacknphjeiojaa
