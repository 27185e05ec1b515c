/-
  No cell of these rows narrows 'for every input' (looked for: loops, veiled, ifaces, maps, wideKeys, modest, calm, conditions, laid).
  DERIVED. THE GIVEN ROWS OF THIS SEAT. 2 by the template 'for every input the law returns true; each argument reads behind the call as it read before'; 0 by the template 'total and deterministic' (their statements: YtdoplaijgocboaaTotals.lean).
  GIVEN WITH THE SEED: the statements are not yours to turn. If you find one false, say at which input.
  Laid BY PROGRAM, IN A SANDBOX (cutbox-rows.mjs): the forced cells as the released guide's own fill.sh prints them over the translation eb18ac5aeb1d65ac… (all of the seat's roots in one cut). By AI agents, Wed Nov 11 2026. No macro, syntax, notation, axiom, sorry.
-/
import Derived.Test.YtdoplaijgocboaaChecked
import GoSem.Claim
import GoSem.ClaimJoined
import GoSem.ClaimMapViews
import Derived.JoinedTies
import Derived.KernelRfl
namespace Go.Proofs.Ytdoplaijgocboaa
/- THE CELL 'sum', in the pinned program and in every row, IS THE sha256 OF THE DUMP (.gsa) THAT YtdoplaijgocboaaProg.lean LOADS. Nothing in Lean hashes anything: it is a label: what it is worth is what the hold of that sum in a sandbox is worth. -/
noncomputable def Try.pinned : Pinned := { name := "ytdoplaijgocboaa", sum := "eb18ac5aeb1d65ac1f3374ac6f355da97391c26d8632c36f00eb6ddf3ba2cb8a", checked := Try.checked }
namespace Rows
def none {H : Type} : Left H := { results := [], args := [] }

/-- 'alibilaw16.SccReach': WHATEVER THE INPUT: true; the input reads as it did. -/
def sccReachSpec : ChangeSpec := { name := "sccReach", fn := fun _ => fun
  | [d1, d2] => { results := [.lit (.bool true)], args := [d1, d2] }
  | _ => none }
def sccReachRow : OpenClaim := { program := "ytdoplaijgocboaa", sum := "eb18ac5aeb1d65ac1f3374ac6f355da97391c26d8632c36f00eb6ddf3ba2cb8a", func := "alibi/alibilaw16.SccReach", spec := "sccReach", inPlace := ["slices.overlaps[alibi/graph.Edge]"], unfollowed := true, recurses := true, plainKeys := false, apart := false }
def SccReachSaid : Prop := sccReachRow.holds Try.pinned (OpenSpec.ofChange sccReachSpec)

/-- ITS FALSE NEIGHBOUR: 'it returns false'. Refute it at one input. -/
def sccReachWrong : ChangeSpec := { name := "sccReach", fn := fun _ => fun
  | [d1, d2] => { results := [.lit (.bool false)], args := [d1, d2] }
  | _ => none }
def SccReachWrongFalsely : Prop := sccReachRow.holds Try.pinned (OpenSpec.ofChange sccReachWrong)

/-- 'alibilaw16.SccShrinks': WHATEVER THE INPUT: true; the input reads as it did. -/
def sccShrinksSpec : ChangeSpec := { name := "sccShrinks", fn := fun _ => fun
  | [d1, d2] => { results := [.lit (.bool true)], args := [d1, d2] }
  | _ => none }
def sccShrinksRow : OpenClaim := { program := "ytdoplaijgocboaa", sum := "eb18ac5aeb1d65ac1f3374ac6f355da97391c26d8632c36f00eb6ddf3ba2cb8a", func := "alibi/alibilaw16.SccShrinks", spec := "sccShrinks", inPlace := ["slices.overlaps[alibi/graph.Edge]"], unfollowed := true, recurses := true, plainKeys := false, apart := false }
def SccShrinksSaid : Prop := sccShrinksRow.holds Try.pinned (OpenSpec.ofChange sccShrinksSpec)

/-- ITS FALSE NEIGHBOUR: 'it returns false'. Refute it at one input. -/
def sccShrinksWrong : ChangeSpec := { name := "sccShrinks", fn := fun _ => fun
  | [d1, d2] => { results := [.lit (.bool false)], args := [d1, d2] }
  | _ => none }
def SccShrinksWrongFalsely : Prop := sccShrinksRow.holds Try.pinned (OpenSpec.ofChange sccShrinksWrong)

/- THE SECOND FORM. 'bulk': how many values and letters a reading holds, each counted each time it is reached (what is shared counts as often as it is met; a slice's spare places count too). A statement '..UptoSaid' is the law's where the arguments, and the package variables that the reading takes, are together of bulk at most 1048576: NARROWER than '..Said'. Prove '..Said' where nothing that the law and all that it calls make is longer than what came in: it says more and counts as full. Else prove '..UptoSaid'. A law counts once. -/
mutual
def uptoBulk {H : Type} : DataW H → Nat
  | .lit (.string bytes) => bytes.length + 1
  | .lit _ => 1
  | .nil => 1
  | .ptr d => uptoBulk d + 1
  | .slice elems spare => uptoBulkAll elems + uptoBulkAll spare + 1
  | .agg parts => uptoBulkAll parts + 1
  | .iface _ d => uptoBulk d + 1
  | .map entries => uptoBulkEntries entries + 1
  | .held _ => 1
def uptoBulkAll {H : Type} : List (DataW H) → Nat
  | [] => 0
  | d :: r => uptoBulk d + uptoBulkAll r
def uptoBulkEntries {H : Type} : List (Lit × DataW H) → Nat
  | [] => 0
  | x :: r => uptoBulkEntry x + uptoBulkEntries r
def uptoBulkEntry {H : Type} : Lit × DataW H → Nat
  | (.string bytes, d) => bytes.length + uptoBulk d + 1
  | (_, d) => uptoBulk d + 1
 end
def uptoSmall : (H : Type) → List (DataW H) → Bool := fun _ ds => decide (uptoBulkAll ds ≤ 1048576)
def OpenSpec.upto (s : _root_.Go.ChangeSpec) : _root_.Go.OpenSpec := { _root_.Go.OpenSpec.ofChange s with cond := some uptoSmall }

/-- 'alibilaw16.SccReach', WHERE WHAT IT READS IS OF BULK AT MOST 1048576: true; the input reads as it did. -/
def sccReachUptoRow : OpenClaim := { program := "ytdoplaijgocboaa", sum := "eb18ac5aeb1d65ac1f3374ac6f355da97391c26d8632c36f00eb6ddf3ba2cb8a", func := "alibi/alibilaw16.SccReach", spec := "sccReach", inPlace := ["slices.overlaps[alibi/graph.Edge]"], unfollowed := true, recurses := true, plainKeys := false, apart := false, narrowed := true }
def SccReachUptoSaid : Prop := sccReachUptoRow.holds Try.pinned (OpenSpec.upto sccReachSpec)

/-- 'alibilaw16.SccShrinks', WHERE WHAT IT READS IS OF BULK AT MOST 1048576: true; the input reads as it did. -/
def sccShrinksUptoRow : OpenClaim := { program := "ytdoplaijgocboaa", sum := "eb18ac5aeb1d65ac1f3374ac6f355da97391c26d8632c36f00eb6ddf3ba2cb8a", func := "alibi/alibilaw16.SccShrinks", spec := "sccShrinks", inPlace := ["slices.overlaps[alibi/graph.Edge]"], unfollowed := true, recurses := true, plainKeys := false, apart := false, narrowed := true }
def SccShrinksUptoSaid : Prop := sccShrinksUptoRow.holds Try.pinned (OpenSpec.upto sccShrinksSpec)

end Rows
end Go.Proofs.Ytdoplaijgocboaa
