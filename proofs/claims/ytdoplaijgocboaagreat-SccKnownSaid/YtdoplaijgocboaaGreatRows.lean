/-
  No cell of these rows narrows 'for every input' (looked for: loops, veiled, ifaces, maps, wideKeys, modest, calm, conditions, laid).
  DERIVED. THE GIVEN ROWS OF THIS SEAT. 2 by the template 'for every input the law returns true; each argument reads behind the call as it read before'; 0 by the template 'total and deterministic' (their statements: YtdoplaijgocboaaGreatTotals.lean).
  GIVEN WITH THE SEED: the statements are not yours to turn. If you find one false, say at which input.
  Laid BY PROGRAM, IN A SANDBOX (cutbox-rows.mjs): the forced cells as the released guide's own fill.sh prints them over the translation 69e5dad9f39e859d… (all of the seat's roots in one cut). By AI agents, Wed Nov 11 2026. No macro, syntax, notation, axiom, sorry.
-/
import Derived.Test.YtdoplaijgocboaaGreatChecked
import GoSem.Claim
import GoSem.ClaimJoined
import GoSem.ClaimMapViews
import Derived.JoinedTies
import Derived.KernelRfl
namespace Go.Proofs.YtdoplaijgocboaaGreat
/- THE CELL 'sum', in the pinned program and in every row, IS THE sha256 OF THE DUMP (.gsa) THAT YtdoplaijgocboaaGreatProg.lean LOADS. Nothing in Lean hashes anything: it is a label: what it is worth is what the hold of that sum in a sandbox is worth. -/
noncomputable def Tryz.pinned : Pinned := { name := "ytdoplaijgocboaagreat", sum := "69e5dad9f39e859d69cb85bf4aae5603028d886a27fd3e4ea7ae4ec3cfab138a", checked := Tryz.checked }
namespace Rows
def none {H : Type} : Left H := { results := [], args := [] }

/-- 'alibilaw16.SccTells': WHATEVER THE INPUT: true; the input reads as it did. -/
def sccTellsSpec : ChangeSpec := { name := "sccTells", fn := fun _ => fun
  | [d1, d2, d3] => { results := [.lit (.bool true)], args := [d1, d2, d3] }
  | _ => none }
def sccTellsRow : OpenClaim := { program := "ytdoplaijgocboaagreat", sum := "69e5dad9f39e859d69cb85bf4aae5603028d886a27fd3e4ea7ae4ec3cfab138a", func := "alibi/alibilaw16.SccTells", spec := "sccTells", inPlace := ["slices.overlaps[alibi/graph.Edge]"], unfollowed := true, recurses := true, plainKeys := false, apart := false }
def SccTellsSaid : Prop := sccTellsRow.holds Tryz.pinned (OpenSpec.ofChange sccTellsSpec)

/-- ITS FALSE NEIGHBOUR: 'it returns false'. Refute it at one input. -/
def sccTellsWrong : ChangeSpec := { name := "sccTells", fn := fun _ => fun
  | [d1, d2, d3] => { results := [.lit (.bool false)], args := [d1, d2, d3] }
  | _ => none }
def SccTellsWrongFalsely : Prop := sccTellsRow.holds Tryz.pinned (OpenSpec.ofChange sccTellsWrong)

/-- 'alibilaw16.SccKnown': WHATEVER THE INPUT: true; the input reads as it did. -/
def sccKnownSpec : ChangeSpec := { name := "sccKnown", fn := fun _ => fun
  | [] => { results := [.lit (.bool true)], args := [] }
  | _ => none }
def sccKnownRow : OpenClaim := { program := "ytdoplaijgocboaagreat", sum := "69e5dad9f39e859d69cb85bf4aae5603028d886a27fd3e4ea7ae4ec3cfab138a", func := "alibi/alibilaw16.SccKnown", spec := "sccKnown", inPlace := ["slices.overlaps[alibi/graph.Edge]"], unfollowed := true, recurses := true, plainKeys := false, apart := false }
def SccKnownSaid : Prop := sccKnownRow.holds Tryz.pinned (OpenSpec.ofChange sccKnownSpec)

/-- ITS FALSE NEIGHBOUR: 'it returns false'. Refute it at one input. -/
def sccKnownWrong : ChangeSpec := { name := "sccKnown", fn := fun _ => fun
  | [] => { results := [.lit (.bool false)], args := [] }
  | _ => none }
def SccKnownWrongFalsely : Prop := sccKnownRow.holds Tryz.pinned (OpenSpec.ofChange sccKnownWrong)

/- THE SECOND FORM. 'bulk': how many values and letters a reading holds, each counted each time it is reached (what is shared counts as often as it is met; a slice's spare places count too). A statement '..UptoSaid' is the law's where the arguments, and the package variables that the reading takes, are together of bulk at most 1048576: NARROWER than '..Said'. Prove '..Said' where nothing that the law and all that it calls make is longer than what came in: it says more and counts as full. Else prove '..UptoSaid'. A law counts once. -/
mutual
def uptoBulk {H : Type} : DataW H → Nat
  | .lit (.string bytes) => bytes.length + 1
  | .lit _ => 1
  | .nil => 1
  | .ptr d => uptoBulk d + 1
  | .slice elems spare => uptoBulkAll elems + uptoBulkAll spare + 1
  | .agg parts => uptoBulkAll parts + 1
  | .iface _ d => uptoBulk d + 1
  | .map entries => uptoBulkEntries entries + 1
  | .held _ => 1
def uptoBulkAll {H : Type} : List (DataW H) → Nat
  | [] => 0
  | d :: r => uptoBulk d + uptoBulkAll r
def uptoBulkEntries {H : Type} : List (Lit × DataW H) → Nat
  | [] => 0
  | x :: r => uptoBulkEntry x + uptoBulkEntries r
def uptoBulkEntry {H : Type} : Lit × DataW H → Nat
  | (.string bytes, d) => bytes.length + uptoBulk d + 1
  | (_, d) => uptoBulk d + 1
 end
def uptoSmall : (H : Type) → List (DataW H) → Bool := fun _ ds => decide (uptoBulkAll ds ≤ 1048576)
def OpenSpec.upto (s : _root_.Go.ChangeSpec) : _root_.Go.OpenSpec := { _root_.Go.OpenSpec.ofChange s with cond := some uptoSmall }

/-- 'alibilaw16.SccTells', WHERE WHAT IT READS IS OF BULK AT MOST 1048576: true; the input reads as it did. -/
def sccTellsUptoRow : OpenClaim := { program := "ytdoplaijgocboaagreat", sum := "69e5dad9f39e859d69cb85bf4aae5603028d886a27fd3e4ea7ae4ec3cfab138a", func := "alibi/alibilaw16.SccTells", spec := "sccTells", inPlace := ["slices.overlaps[alibi/graph.Edge]"], unfollowed := true, recurses := true, plainKeys := false, apart := false, narrowed := true }
def SccTellsUptoSaid : Prop := sccTellsUptoRow.holds Tryz.pinned (OpenSpec.upto sccTellsSpec)

/-- 'alibilaw16.SccKnown', WHERE WHAT IT READS IS OF BULK AT MOST 1048576: true; the input reads as it did. -/
def sccKnownUptoRow : OpenClaim := { program := "ytdoplaijgocboaagreat", sum := "69e5dad9f39e859d69cb85bf4aae5603028d886a27fd3e4ea7ae4ec3cfab138a", func := "alibi/alibilaw16.SccKnown", spec := "sccKnown", inPlace := ["slices.overlaps[alibi/graph.Edge]"], unfollowed := true, recurses := true, plainKeys := false, apart := false, narrowed := true }
def SccKnownUptoSaid : Prop := sccKnownUptoRow.holds Tryz.pinned (OpenSpec.upto sccKnownSpec)

end Rows
end Go.Proofs.YtdoplaijgocboaaGreat
