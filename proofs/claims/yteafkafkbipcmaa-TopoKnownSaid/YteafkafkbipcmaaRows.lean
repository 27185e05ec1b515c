/-
  No cell of these rows narrows 'for every input' (looked for: loops, veiled, ifaces, maps, wideKeys, modest, calm, conditions, laid).
  DERIVED. THE GIVEN ROWS OF THIS SEAT. 5 by the template 'for every input the law returns true; each argument reads behind the call as it read before'; 0 by the template 'total and deterministic' (their statements: YteafkafkbipcmaaTotals.lean).
  GIVEN WITH THE SEED: the statements are not yours to turn. If you find one false, say at which input.
  Laid BY PROGRAM, IN A SANDBOX (cutbox-rows.mjs): the forced cells as the released guide's own fill.sh prints them over the translation 36f39f2716014c33… (all of the seat's roots in one cut). By AI agents, Wed Nov 11 2026. No macro, syntax, notation, axiom, sorry.
-/
import Derived.Test.YteafkafkbipcmaaChecked
import GoSem.Claim
import GoSem.ClaimJoined
import GoSem.ClaimMapViews
import Derived.JoinedTies
import Derived.KernelRfl
namespace Go.Proofs.Yteafkafkbipcmaa
/- THE CELL 'sum', in the pinned program and in every row, IS THE sha256 OF THE DUMP (.gsa) THAT YteafkafkbipcmaaProg.lean LOADS. Nothing in Lean hashes anything: it is a label: what it is worth is what the hold of that sum in a sandbox is worth. -/
noncomputable def Try.pinned : Pinned := { name := "yteafkafkbipcmaa", sum := "36f39f2716014c336da5281ef90f512962879c3128f081a0ccaca3ef0c43f843", checked := Try.checked }
namespace Rows
def none {H : Type} : Left H := { results := [], args := [] }

/-- 'alibilaw14.TopoRest': WHATEVER THE INPUT: true; the input reads as it did. -/
def topoRestSpec : ChangeSpec := { name := "topoRest", fn := fun _ => fun
  | [d1, d2] => { results := [.lit (.bool true)], args := [d1, d2] }
  | _ => none }
def topoRestRow : OpenClaim := { program := "yteafkafkbipcmaa", sum := "36f39f2716014c336da5281ef90f512962879c3128f081a0ccaca3ef0c43f843", func := "alibi/alibilaw14.TopoRest", spec := "topoRest", inPlace := ["slices.overlaps[alibi/graph.Edge]"], unfollowed := true, recurses := true, plainKeys := false, apart := false }
def TopoRestSaid : Prop := topoRestRow.holds Try.pinned (OpenSpec.ofChange topoRestSpec)

/-- ITS FALSE NEIGHBOUR: 'it returns false'. Refute it at one input. -/
def topoRestWrong : ChangeSpec := { name := "topoRest", fn := fun _ => fun
  | [d1, d2] => { results := [.lit (.bool false)], args := [d1, d2] }
  | _ => none }
def TopoRestWrongFalsely : Prop := topoRestRow.holds Try.pinned (OpenSpec.ofChange topoRestWrong)

/-- 'alibilaw14.TopoSorts': WHATEVER THE INPUT: true; the input reads as it did. -/
def topoSortsSpec : ChangeSpec := { name := "topoSorts", fn := fun _ => fun
  | [d1, d2] => { results := [.lit (.bool true)], args := [d1, d2] }
  | _ => none }
def topoSortsRow : OpenClaim := { program := "yteafkafkbipcmaa", sum := "36f39f2716014c336da5281ef90f512962879c3128f081a0ccaca3ef0c43f843", func := "alibi/alibilaw14.TopoSorts", spec := "topoSorts", inPlace := ["slices.overlaps[alibi/graph.Edge]"], unfollowed := true, recurses := true, plainKeys := false, apart := false }
def TopoSortsSaid : Prop := topoSortsRow.holds Try.pinned (OpenSpec.ofChange topoSortsSpec)

/-- ITS FALSE NEIGHBOUR: 'it returns false'. Refute it at one input. -/
def topoSortsWrong : ChangeSpec := { name := "topoSorts", fn := fun _ => fun
  | [d1, d2] => { results := [.lit (.bool false)], args := [d1, d2] }
  | _ => none }
def TopoSortsWrongFalsely : Prop := topoSortsRow.holds Try.pinned (OpenSpec.ofChange topoSortsWrong)

/-- 'alibilaw14.TopoAsks': WHATEVER THE INPUT: true; the input reads as it did. -/
def topoAsksSpec : ChangeSpec := { name := "topoAsks", fn := fun _ => fun
  | [d1, d2, d3] => { results := [.lit (.bool true)], args := [d1, d2, d3] }
  | _ => none }
def topoAsksRow : OpenClaim := { program := "yteafkafkbipcmaa", sum := "36f39f2716014c336da5281ef90f512962879c3128f081a0ccaca3ef0c43f843", func := "alibi/alibilaw14.TopoAsks", spec := "topoAsks", inPlace := ["slices.overlaps[alibi/graph.Edge]"], unfollowed := true, recurses := true, plainKeys := false, apart := false }
def TopoAsksSaid : Prop := topoAsksRow.holds Try.pinned (OpenSpec.ofChange topoAsksSpec)

/-- ITS FALSE NEIGHBOUR: 'it returns false'. Refute it at one input. -/
def topoAsksWrong : ChangeSpec := { name := "topoAsks", fn := fun _ => fun
  | [d1, d2, d3] => { results := [.lit (.bool false)], args := [d1, d2, d3] }
  | _ => none }
def TopoAsksWrongFalsely : Prop := topoAsksRow.holds Try.pinned (OpenSpec.ofChange topoAsksWrong)

/-- 'alibilaw14.TopoAll': WHATEVER THE INPUT: true; the input reads as it did. -/
def topoAllSpec : ChangeSpec := { name := "topoAll", fn := fun _ => fun
  | [d1, d2] => { results := [.lit (.bool true)], args := [d1, d2] }
  | _ => none }
def topoAllRow : OpenClaim := { program := "yteafkafkbipcmaa", sum := "36f39f2716014c336da5281ef90f512962879c3128f081a0ccaca3ef0c43f843", func := "alibi/alibilaw14.TopoAll", spec := "topoAll", inPlace := ["slices.overlaps[alibi/graph.Edge]"], unfollowed := true, recurses := true, plainKeys := false, apart := false }
def TopoAllSaid : Prop := topoAllRow.holds Try.pinned (OpenSpec.ofChange topoAllSpec)

/-- ITS FALSE NEIGHBOUR: 'it returns false'. Refute it at one input. -/
def topoAllWrong : ChangeSpec := { name := "topoAll", fn := fun _ => fun
  | [d1, d2] => { results := [.lit (.bool false)], args := [d1, d2] }
  | _ => none }
def TopoAllWrongFalsely : Prop := topoAllRow.holds Try.pinned (OpenSpec.ofChange topoAllWrong)

/-- 'alibilaw14.TopoKnown': WHATEVER THE INPUT: true; the input reads as it did. -/
def topoKnownSpec : ChangeSpec := { name := "topoKnown", fn := fun _ => fun
  | [] => { results := [.lit (.bool true)], args := [] }
  | _ => none }
def topoKnownRow : OpenClaim := { program := "yteafkafkbipcmaa", sum := "36f39f2716014c336da5281ef90f512962879c3128f081a0ccaca3ef0c43f843", func := "alibi/alibilaw14.TopoKnown", spec := "topoKnown", inPlace := ["slices.overlaps[alibi/graph.Edge]"], unfollowed := true, recurses := true, plainKeys := false, apart := false }
def TopoKnownSaid : Prop := topoKnownRow.holds Try.pinned (OpenSpec.ofChange topoKnownSpec)

/-- ITS FALSE NEIGHBOUR: 'it returns false'. Refute it at one input. -/
def topoKnownWrong : ChangeSpec := { name := "topoKnown", fn := fun _ => fun
  | [] => { results := [.lit (.bool false)], args := [] }
  | _ => none }
def TopoKnownWrongFalsely : Prop := topoKnownRow.holds Try.pinned (OpenSpec.ofChange topoKnownWrong)

/- THE SECOND FORM. 'bulk': how many values and letters a reading holds, each counted each time it is reached (what is shared counts as often as it is met; a slice's spare places count too). A statement '..UptoSaid' is the law's where the arguments, and the package variables that the reading takes, are together of bulk at most 1048576: NARROWER than '..Said'. Prove '..Said' where nothing that the law and all that it calls make is longer than what came in: it says more and counts as full. Else prove '..UptoSaid'. A law counts once. -/
mutual
def uptoBulk {H : Type} : DataW H → Nat
  | .lit (.string bytes) => bytes.length + 1
  | .lit _ => 1
  | .nil => 1
  | .ptr d => uptoBulk d + 1
  | .slice elems spare => uptoBulkAll elems + uptoBulkAll spare + 1
  | .agg parts => uptoBulkAll parts + 1
  | .iface _ d => uptoBulk d + 1
  | .map entries => uptoBulkEntries entries + 1
  | .held _ => 1
def uptoBulkAll {H : Type} : List (DataW H) → Nat
  | [] => 0
  | d :: r => uptoBulk d + uptoBulkAll r
def uptoBulkEntries {H : Type} : List (Lit × DataW H) → Nat
  | [] => 0
  | x :: r => uptoBulkEntry x + uptoBulkEntries r
def uptoBulkEntry {H : Type} : Lit × DataW H → Nat
  | (.string bytes, d) => bytes.length + uptoBulk d + 1
  | (_, d) => uptoBulk d + 1
 end
def uptoSmall : (H : Type) → List (DataW H) → Bool := fun _ ds => decide (uptoBulkAll ds ≤ 1048576)
def OpenSpec.upto (s : _root_.Go.ChangeSpec) : _root_.Go.OpenSpec := { _root_.Go.OpenSpec.ofChange s with cond := some uptoSmall }

/-- 'alibilaw14.TopoRest', WHERE WHAT IT READS IS OF BULK AT MOST 1048576: true; the input reads as it did. -/
def topoRestUptoRow : OpenClaim := { program := "yteafkafkbipcmaa", sum := "36f39f2716014c336da5281ef90f512962879c3128f081a0ccaca3ef0c43f843", func := "alibi/alibilaw14.TopoRest", spec := "topoRest", inPlace := ["slices.overlaps[alibi/graph.Edge]"], unfollowed := true, recurses := true, plainKeys := false, apart := false, narrowed := true }
def TopoRestUptoSaid : Prop := topoRestUptoRow.holds Try.pinned (OpenSpec.upto topoRestSpec)

/-- 'alibilaw14.TopoSorts', WHERE WHAT IT READS IS OF BULK AT MOST 1048576: true; the input reads as it did. -/
def topoSortsUptoRow : OpenClaim := { program := "yteafkafkbipcmaa", sum := "36f39f2716014c336da5281ef90f512962879c3128f081a0ccaca3ef0c43f843", func := "alibi/alibilaw14.TopoSorts", spec := "topoSorts", inPlace := ["slices.overlaps[alibi/graph.Edge]"], unfollowed := true, recurses := true, plainKeys := false, apart := false, narrowed := true }
def TopoSortsUptoSaid : Prop := topoSortsUptoRow.holds Try.pinned (OpenSpec.upto topoSortsSpec)

/-- 'alibilaw14.TopoAsks', WHERE WHAT IT READS IS OF BULK AT MOST 1048576: true; the input reads as it did. -/
def topoAsksUptoRow : OpenClaim := { program := "yteafkafkbipcmaa", sum := "36f39f2716014c336da5281ef90f512962879c3128f081a0ccaca3ef0c43f843", func := "alibi/alibilaw14.TopoAsks", spec := "topoAsks", inPlace := ["slices.overlaps[alibi/graph.Edge]"], unfollowed := true, recurses := true, plainKeys := false, apart := false, narrowed := true }
def TopoAsksUptoSaid : Prop := topoAsksUptoRow.holds Try.pinned (OpenSpec.upto topoAsksSpec)

/-- 'alibilaw14.TopoAll', WHERE WHAT IT READS IS OF BULK AT MOST 1048576: true; the input reads as it did. -/
def topoAllUptoRow : OpenClaim := { program := "yteafkafkbipcmaa", sum := "36f39f2716014c336da5281ef90f512962879c3128f081a0ccaca3ef0c43f843", func := "alibi/alibilaw14.TopoAll", spec := "topoAll", inPlace := ["slices.overlaps[alibi/graph.Edge]"], unfollowed := true, recurses := true, plainKeys := false, apart := false, narrowed := true }
def TopoAllUptoSaid : Prop := topoAllUptoRow.holds Try.pinned (OpenSpec.upto topoAllSpec)

/-- 'alibilaw14.TopoKnown', WHERE WHAT IT READS IS OF BULK AT MOST 1048576: true; the input reads as it did. -/
def topoKnownUptoRow : OpenClaim := { program := "yteafkafkbipcmaa", sum := "36f39f2716014c336da5281ef90f512962879c3128f081a0ccaca3ef0c43f843", func := "alibi/alibilaw14.TopoKnown", spec := "topoKnown", inPlace := ["slices.overlaps[alibi/graph.Edge]"], unfollowed := true, recurses := true, plainKeys := false, apart := false, narrowed := true }
def TopoKnownUptoSaid : Prop := topoKnownUptoRow.holds Try.pinned (OpenSpec.upto topoKnownSpec)

end Rows
end Go.Proofs.Yteafkafkbipcmaa
