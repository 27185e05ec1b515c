/-
  No cell of these rows narrows 'for every input' (looked for: loops, veiled, ifaces, maps, wideKeys, modest, calm, conditions, laid).
  DERIVED. THE GIVEN ROWS OF THIS SEAT. 5 by the template 'for every input the law returns true; each argument reads behind the call as it read before'; 0 by the template 'total and deterministic' (their statements: YtddpdjbgidmdlaaTotals.lean).
  GIVEN WITH THE SEED: the statements are not yours to turn. If you find one false, say at which input.
  Laid BY PROGRAM, IN A SANDBOX (cutbox-rows.mjs): the forced cells as the released guide's own fill.sh prints them over the translation 7765ffd3ea873deb… (all of the seat's roots in one cut). By AI agents, Wed Nov 11 2026. No macro, syntax, notation, axiom, sorry.
-/
import Derived.Test.YtddpdjbgidmdlaaChecked
import GoSem.Claim
import GoSem.ClaimJoined
import GoSem.ClaimMapViews
import Derived.JoinedTies
import Derived.KernelRfl
namespace Go.Proofs.Ytddpdjbgidmdlaa
/- THE CELL 'sum', in the pinned program and in every row, IS THE sha256 OF THE DUMP (.gsa) THAT YtddpdjbgidmdlaaProg.lean LOADS. Nothing in Lean hashes anything: it is a label: what it is worth is what the hold of that sum in a sandbox is worth. -/
noncomputable def Try.pinned : Pinned := { name := "ytddpdjbgidmdlaa", sum := "7765ffd3ea873deb041c622878fe8ca4428a8a8c7959b508096ac6908c873ce5", checked := Try.checked }
namespace Rows
def none {H : Type} : Left H := { results := [], args := [] }

/-- 'alibilaw18.PermLong': WHATEVER THE INPUT: true; the input reads as it did. -/
def permLongSpec : ChangeSpec := { name := "permLong", fn := fun _ => fun
  | [d1, d2] => { results := [.lit (.bool true)], args := [d1, d2] }
  | _ => none }
def permLongRow : OpenClaim := { program := "ytddpdjbgidmdlaa", sum := "7765ffd3ea873deb041c622878fe8ca4428a8a8c7959b508096ac6908c873ce5", func := "alibi/alibilaw18.PermLong", spec := "permLong", unfollowed := true, recurses := true, apart := false }
def PermLongSaid : Prop := permLongRow.holds Try.pinned (OpenSpec.ofChange permLongSpec)

/-- ITS FALSE NEIGHBOUR: 'it returns false'. Refute it at one input. -/
def permLongWrong : ChangeSpec := { name := "permLong", fn := fun _ => fun
  | [d1, d2] => { results := [.lit (.bool false)], args := [d1, d2] }
  | _ => none }
def PermLongWrongFalsely : Prop := permLongRow.holds Try.pinned (OpenSpec.ofChange permLongWrong)

/-- 'alibilaw18.PermRanks': WHATEVER THE INPUT: true; the input reads as it did. -/
def permRanksSpec : ChangeSpec := { name := "permRanks", fn := fun _ => fun
  | [d1, d2, d3] => { results := [.lit (.bool true)], args := [d1, d2, d3] }
  | _ => none }
def permRanksRow : OpenClaim := { program := "ytddpdjbgidmdlaa", sum := "7765ffd3ea873deb041c622878fe8ca4428a8a8c7959b508096ac6908c873ce5", func := "alibi/alibilaw18.PermRanks", spec := "permRanks", unfollowed := true, recurses := true, apart := false }
def PermRanksSaid : Prop := permRanksRow.holds Try.pinned (OpenSpec.ofChange permRanksSpec)

/-- ITS FALSE NEIGHBOUR: 'it returns false'. Refute it at one input. -/
def permRanksWrong : ChangeSpec := { name := "permRanks", fn := fun _ => fun
  | [d1, d2, d3] => { results := [.lit (.bool false)], args := [d1, d2, d3] }
  | _ => none }
def PermRanksWrongFalsely : Prop := permRanksRow.holds Try.pinned (OpenSpec.ofChange permRanksWrong)

/-- 'alibilaw18.PermAsks': WHATEVER THE INPUT: true; the input reads as it did. -/
def permAsksSpec : ChangeSpec := { name := "permAsks", fn := fun _ => fun
  | [d1, d2, d3] => { results := [.lit (.bool true)], args := [d1, d2, d3] }
  | _ => none }
def permAsksRow : OpenClaim := { program := "ytddpdjbgidmdlaa", sum := "7765ffd3ea873deb041c622878fe8ca4428a8a8c7959b508096ac6908c873ce5", func := "alibi/alibilaw18.PermAsks", spec := "permAsks", unfollowed := true, recurses := true, apart := false }
def PermAsksSaid : Prop := permAsksRow.holds Try.pinned (OpenSpec.ofChange permAsksSpec)

/-- ITS FALSE NEIGHBOUR: 'it returns false'. Refute it at one input. -/
def permAsksWrong : ChangeSpec := { name := "permAsks", fn := fun _ => fun
  | [d1, d2, d3] => { results := [.lit (.bool false)], args := [d1, d2, d3] }
  | _ => none }
def PermAsksWrongFalsely : Prop := permAsksRow.holds Try.pinned (OpenSpec.ofChange permAsksWrong)

/-- 'alibilaw18.PermWalks': WHATEVER THE INPUT: true; the input reads as it did. -/
def permWalksSpec : ChangeSpec := { name := "permWalks", fn := fun _ => fun
  | [d1, d2] => { results := [.lit (.bool true)], args := [d1, d2] }
  | _ => none }
def permWalksRow : OpenClaim := { program := "ytddpdjbgidmdlaa", sum := "7765ffd3ea873deb041c622878fe8ca4428a8a8c7959b508096ac6908c873ce5", func := "alibi/alibilaw18.PermWalks", spec := "permWalks", unfollowed := true, recurses := true, apart := false }
def PermWalksSaid : Prop := permWalksRow.holds Try.pinned (OpenSpec.ofChange permWalksSpec)

/-- ITS FALSE NEIGHBOUR: 'it returns false'. Refute it at one input. -/
def permWalksWrong : ChangeSpec := { name := "permWalks", fn := fun _ => fun
  | [d1, d2] => { results := [.lit (.bool false)], args := [d1, d2] }
  | _ => none }
def PermWalksWrongFalsely : Prop := permWalksRow.holds Try.pinned (OpenSpec.ofChange permWalksWrong)

/-- 'alibilaw18.PermKnown': WHATEVER THE INPUT: true; the input reads as it did. -/
def permKnownSpec : ChangeSpec := { name := "permKnown", fn := fun _ => fun
  | [] => { results := [.lit (.bool true)], args := [] }
  | _ => none }
def permKnownRow : OpenClaim := { program := "ytddpdjbgidmdlaa", sum := "7765ffd3ea873deb041c622878fe8ca4428a8a8c7959b508096ac6908c873ce5", func := "alibi/alibilaw18.PermKnown", spec := "permKnown", unfollowed := true, recurses := true, apart := false }
def PermKnownSaid : Prop := permKnownRow.holds Try.pinned (OpenSpec.ofChange permKnownSpec)

/-- ITS FALSE NEIGHBOUR: 'it returns false'. Refute it at one input. -/
def permKnownWrong : ChangeSpec := { name := "permKnown", fn := fun _ => fun
  | [] => { results := [.lit (.bool false)], args := [] }
  | _ => none }
def PermKnownWrongFalsely : Prop := permKnownRow.holds Try.pinned (OpenSpec.ofChange permKnownWrong)

/- THE SECOND FORM. 'bulk': how many values and letters a reading holds, each counted each time it is reached (what is shared counts as often as it is met; a slice's spare places count too). A statement '..UptoSaid' is the law's where the arguments, and the package variables that the reading takes, are together of bulk at most 1048576: NARROWER than '..Said'. Prove '..Said' where nothing that the law and all that it calls make is longer than what came in: it says more and counts as full. Else prove '..UptoSaid'. A law counts once. -/
mutual
def uptoBulk {H : Type} : DataW H → Nat
  | .lit (.string bytes) => bytes.length + 1
  | .lit _ => 1
  | .nil => 1
  | .ptr d => uptoBulk d + 1
  | .slice elems spare => uptoBulkAll elems + uptoBulkAll spare + 1
  | .agg parts => uptoBulkAll parts + 1
  | .iface _ d => uptoBulk d + 1
  | .map entries => uptoBulkEntries entries + 1
  | .held _ => 1
def uptoBulkAll {H : Type} : List (DataW H) → Nat
  | [] => 0
  | d :: r => uptoBulk d + uptoBulkAll r
def uptoBulkEntries {H : Type} : List (Lit × DataW H) → Nat
  | [] => 0
  | x :: r => uptoBulkEntry x + uptoBulkEntries r
def uptoBulkEntry {H : Type} : Lit × DataW H → Nat
  | (.string bytes, d) => bytes.length + uptoBulk d + 1
  | (_, d) => uptoBulk d + 1
 end
def uptoSmall : (H : Type) → List (DataW H) → Bool := fun _ ds => decide (uptoBulkAll ds ≤ 1048576)
def OpenSpec.upto (s : _root_.Go.ChangeSpec) : _root_.Go.OpenSpec := { _root_.Go.OpenSpec.ofChange s with cond := some uptoSmall }

/-- 'alibilaw18.PermLong', WHERE WHAT IT READS IS OF BULK AT MOST 1048576: true; the input reads as it did. -/
def permLongUptoRow : OpenClaim := { program := "ytddpdjbgidmdlaa", sum := "7765ffd3ea873deb041c622878fe8ca4428a8a8c7959b508096ac6908c873ce5", func := "alibi/alibilaw18.PermLong", spec := "permLong", unfollowed := true, recurses := true, apart := false, narrowed := true }
def PermLongUptoSaid : Prop := permLongUptoRow.holds Try.pinned (OpenSpec.upto permLongSpec)

/-- 'alibilaw18.PermRanks', WHERE WHAT IT READS IS OF BULK AT MOST 1048576: true; the input reads as it did. -/
def permRanksUptoRow : OpenClaim := { program := "ytddpdjbgidmdlaa", sum := "7765ffd3ea873deb041c622878fe8ca4428a8a8c7959b508096ac6908c873ce5", func := "alibi/alibilaw18.PermRanks", spec := "permRanks", unfollowed := true, recurses := true, apart := false, narrowed := true }
def PermRanksUptoSaid : Prop := permRanksUptoRow.holds Try.pinned (OpenSpec.upto permRanksSpec)

/-- 'alibilaw18.PermAsks', WHERE WHAT IT READS IS OF BULK AT MOST 1048576: true; the input reads as it did. -/
def permAsksUptoRow : OpenClaim := { program := "ytddpdjbgidmdlaa", sum := "7765ffd3ea873deb041c622878fe8ca4428a8a8c7959b508096ac6908c873ce5", func := "alibi/alibilaw18.PermAsks", spec := "permAsks", unfollowed := true, recurses := true, apart := false, narrowed := true }
def PermAsksUptoSaid : Prop := permAsksUptoRow.holds Try.pinned (OpenSpec.upto permAsksSpec)

/-- 'alibilaw18.PermWalks', WHERE WHAT IT READS IS OF BULK AT MOST 1048576: true; the input reads as it did. -/
def permWalksUptoRow : OpenClaim := { program := "ytddpdjbgidmdlaa", sum := "7765ffd3ea873deb041c622878fe8ca4428a8a8c7959b508096ac6908c873ce5", func := "alibi/alibilaw18.PermWalks", spec := "permWalks", unfollowed := true, recurses := true, apart := false, narrowed := true }
def PermWalksUptoSaid : Prop := permWalksUptoRow.holds Try.pinned (OpenSpec.upto permWalksSpec)

/-- 'alibilaw18.PermKnown', WHERE WHAT IT READS IS OF BULK AT MOST 1048576: true; the input reads as it did. -/
def permKnownUptoRow : OpenClaim := { program := "ytddpdjbgidmdlaa", sum := "7765ffd3ea873deb041c622878fe8ca4428a8a8c7959b508096ac6908c873ce5", func := "alibi/alibilaw18.PermKnown", spec := "permKnown", unfollowed := true, recurses := true, apart := false, narrowed := true }
def PermKnownUptoSaid : Prop := permKnownUptoRow.holds Try.pinned (OpenSpec.upto permKnownSpec)

end Rows
end Go.Proofs.Ytddpdjbgidmdlaa
