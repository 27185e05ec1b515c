/-
  No cell of these rows narrows 'for every input' (looked for: loops, veiled, ifaces, maps, wideKeys, modest, calm, conditions, laid).
  DERIVED. THE GIVEN ROWS OF THIS SEAT. 5 by the template 'for every input the law returns true; each argument reads behind the call as it read before'; 0 by the template 'total and deterministic' (their statements: YtpegloapdkfgiaaTotals.lean).
  GIVEN WITH THE SEED: the statements are not yours to turn. If you find one false, say at which input.
  Laid BY PROGRAM, IN A SANDBOX (cutbox-rows.mjs): the forced cells as the released guide's own fill.sh prints them over the translation a36c761a8f10ac13… (all of the seat's roots in one cut). By AI agents, Wed Nov 11 2026. No macro, syntax, notation, axiom, sorry.
-/
import Derived.Test.YtpegloapdkfgiaaChecked
import GoSem.Claim
import GoSem.ClaimJoined
import GoSem.ClaimMapViews
import Derived.JoinedTies
import Derived.KernelRfl
namespace Go.Proofs.Ytpegloapdkfgiaa
/- THE CELL 'sum', in the pinned program and in every row, IS THE sha256 OF THE DUMP (.gsa) THAT YtpegloapdkfgiaaProg.lean LOADS. Nothing in Lean hashes anything: it is a label: what it is worth is what the hold of that sum in a sandbox is worth. -/
noncomputable def Try.pinned : Pinned := { name := "ytpegloapdkfgiaa", sum := "a36c761a8f10ac131f29c1ae668f5bc81e4edd4581271393aad58f8d8065bfe4", checked := Try.checked }
namespace Rows
def none {H : Type} : Left H := { results := [], args := [] }

/-- 'alibilaw07.InternBack': WHATEVER THE INPUT: true; the input reads as it did. -/
def internBackSpec : ChangeSpec := { name := "internBack", fn := fun _ => fun
  | [d1, d2, d3] => { results := [.lit (.bool true)], args := [d1, d2, d3] }
  | _ => none }
def internBackRow : OpenClaim := { program := "ytpegloapdkfgiaa", sum := "a36c761a8f10ac131f29c1ae668f5bc81e4edd4581271393aad58f8d8065bfe4", func := "alibi/alibilaw07.InternBack", spec := "internBack", unfollowed := true, recurses := true, plainKeys := false, apart := false }
def InternBackSaid : Prop := internBackRow.holds Try.pinned (OpenSpec.ofChange internBackSpec)

/-- ITS FALSE NEIGHBOUR: 'it returns false'. Refute it at one input. -/
def internBackWrong : ChangeSpec := { name := "internBack", fn := fun _ => fun
  | [d1, d2, d3] => { results := [.lit (.bool false)], args := [d1, d2, d3] }
  | _ => none }
def InternBackWrongFalsely : Prop := internBackRow.holds Try.pinned (OpenSpec.ofChange internBackWrong)

/-- 'alibilaw07.InternPlays': WHATEVER THE INPUT: true; the input reads as it did. -/
def internPlaysSpec : ChangeSpec := { name := "internPlays", fn := fun _ => fun
  | [d1, d2, d3] => { results := [.lit (.bool true)], args := [d1, d2, d3] }
  | _ => none }
def internPlaysRow : OpenClaim := { program := "ytpegloapdkfgiaa", sum := "a36c761a8f10ac131f29c1ae668f5bc81e4edd4581271393aad58f8d8065bfe4", func := "alibi/alibilaw07.InternPlays", spec := "internPlays", unfollowed := true, recurses := true, plainKeys := false, apart := false }
def InternPlaysSaid : Prop := internPlaysRow.holds Try.pinned (OpenSpec.ofChange internPlaysSpec)

/-- ITS FALSE NEIGHBOUR: 'it returns false'. Refute it at one input. -/
def internPlaysWrong : ChangeSpec := { name := "internPlays", fn := fun _ => fun
  | [d1, d2, d3] => { results := [.lit (.bool false)], args := [d1, d2, d3] }
  | _ => none }
def InternPlaysWrongFalsely : Prop := internPlaysRow.holds Try.pinned (OpenSpec.ofChange internPlaysWrong)

/-- 'alibilaw07.InternPairs': WHATEVER THE INPUT: true; the input reads as it did. -/
def internPairsSpec : ChangeSpec := { name := "internPairs", fn := fun _ => fun
  | [d1, d2, d3, d4] => { results := [.lit (.bool true)], args := [d1, d2, d3, d4] }
  | _ => none }
def internPairsRow : OpenClaim := { program := "ytpegloapdkfgiaa", sum := "a36c761a8f10ac131f29c1ae668f5bc81e4edd4581271393aad58f8d8065bfe4", func := "alibi/alibilaw07.InternPairs", spec := "internPairs", unfollowed := true, recurses := true, plainKeys := false, apart := false }
def InternPairsSaid : Prop := internPairsRow.holds Try.pinned (OpenSpec.ofChange internPairsSpec)

/-- ITS FALSE NEIGHBOUR: 'it returns false'. Refute it at one input. -/
def internPairsWrong : ChangeSpec := { name := "internPairs", fn := fun _ => fun
  | [d1, d2, d3, d4] => { results := [.lit (.bool false)], args := [d1, d2, d3, d4] }
  | _ => none }
def InternPairsWrongFalsely : Prop := internPairsRow.holds Try.pinned (OpenSpec.ofChange internPairsWrong)

/-- 'alibilaw07.InternNone': WHATEVER THE INPUT: true; the input reads as it did. -/
def internNoneSpec : ChangeSpec := { name := "internNone", fn := fun _ => fun
  | [d1, d2, d3] => { results := [.lit (.bool true)], args := [d1, d2, d3] }
  | _ => none }
def internNoneRow : OpenClaim := { program := "ytpegloapdkfgiaa", sum := "a36c761a8f10ac131f29c1ae668f5bc81e4edd4581271393aad58f8d8065bfe4", func := "alibi/alibilaw07.InternNone", spec := "internNone", unfollowed := true, recurses := true, plainKeys := false, apart := false }
def InternNoneSaid : Prop := internNoneRow.holds Try.pinned (OpenSpec.ofChange internNoneSpec)

/-- ITS FALSE NEIGHBOUR: 'it returns false'. Refute it at one input. -/
def internNoneWrong : ChangeSpec := { name := "internNone", fn := fun _ => fun
  | [d1, d2, d3] => { results := [.lit (.bool false)], args := [d1, d2, d3] }
  | _ => none }
def InternNoneWrongFalsely : Prop := internNoneRow.holds Try.pinned (OpenSpec.ofChange internNoneWrong)

/-- 'alibilaw07.InternKnown': WHATEVER THE INPUT: true; the input reads as it did. -/
def internKnownSpec : ChangeSpec := { name := "internKnown", fn := fun _ => fun
  | [] => { results := [.lit (.bool true)], args := [] }
  | _ => none }
def internKnownRow : OpenClaim := { program := "ytpegloapdkfgiaa", sum := "a36c761a8f10ac131f29c1ae668f5bc81e4edd4581271393aad58f8d8065bfe4", func := "alibi/alibilaw07.InternKnown", spec := "internKnown", unfollowed := true, recurses := true, plainKeys := false, apart := false }
def InternKnownSaid : Prop := internKnownRow.holds Try.pinned (OpenSpec.ofChange internKnownSpec)

/-- ITS FALSE NEIGHBOUR: 'it returns false'. Refute it at one input. -/
def internKnownWrong : ChangeSpec := { name := "internKnown", fn := fun _ => fun
  | [] => { results := [.lit (.bool false)], args := [] }
  | _ => none }
def InternKnownWrongFalsely : Prop := internKnownRow.holds Try.pinned (OpenSpec.ofChange internKnownWrong)

/- THE SECOND FORM. 'bulk': how many values and letters a reading holds, each counted each time it is reached (what is shared counts as often as it is met; a slice's spare places count too). A statement '..UptoSaid' is the law's where the arguments, and the package variables that the reading takes, are together of bulk at most 1048576: NARROWER than '..Said'. Prove '..Said' where nothing that the law and all that it calls make is longer than what came in: it says more and counts as full. Else prove '..UptoSaid'. A law counts once. -/
mutual
def uptoBulk {H : Type} : DataW H → Nat
  | .lit (.string bytes) => bytes.length + 1
  | .lit _ => 1
  | .nil => 1
  | .ptr d => uptoBulk d + 1
  | .slice elems spare => uptoBulkAll elems + uptoBulkAll spare + 1
  | .agg parts => uptoBulkAll parts + 1
  | .iface _ d => uptoBulk d + 1
  | .map entries => uptoBulkEntries entries + 1
  | .held _ => 1
def uptoBulkAll {H : Type} : List (DataW H) → Nat
  | [] => 0
  | d :: r => uptoBulk d + uptoBulkAll r
def uptoBulkEntries {H : Type} : List (Lit × DataW H) → Nat
  | [] => 0
  | x :: r => uptoBulkEntry x + uptoBulkEntries r
def uptoBulkEntry {H : Type} : Lit × DataW H → Nat
  | (.string bytes, d) => bytes.length + uptoBulk d + 1
  | (_, d) => uptoBulk d + 1
 end
def uptoSmall : (H : Type) → List (DataW H) → Bool := fun _ ds => decide (uptoBulkAll ds ≤ 1048576)
def OpenSpec.upto (s : _root_.Go.ChangeSpec) : _root_.Go.OpenSpec := { _root_.Go.OpenSpec.ofChange s with cond := some uptoSmall }

/-- 'alibilaw07.InternBack', WHERE WHAT IT READS IS OF BULK AT MOST 1048576: true; the input reads as it did. -/
def internBackUptoRow : OpenClaim := { program := "ytpegloapdkfgiaa", sum := "a36c761a8f10ac131f29c1ae668f5bc81e4edd4581271393aad58f8d8065bfe4", func := "alibi/alibilaw07.InternBack", spec := "internBack", unfollowed := true, recurses := true, plainKeys := false, apart := false, narrowed := true }
def InternBackUptoSaid : Prop := internBackUptoRow.holds Try.pinned (OpenSpec.upto internBackSpec)

/-- 'alibilaw07.InternPlays', WHERE WHAT IT READS IS OF BULK AT MOST 1048576: true; the input reads as it did. -/
def internPlaysUptoRow : OpenClaim := { program := "ytpegloapdkfgiaa", sum := "a36c761a8f10ac131f29c1ae668f5bc81e4edd4581271393aad58f8d8065bfe4", func := "alibi/alibilaw07.InternPlays", spec := "internPlays", unfollowed := true, recurses := true, plainKeys := false, apart := false, narrowed := true }
def InternPlaysUptoSaid : Prop := internPlaysUptoRow.holds Try.pinned (OpenSpec.upto internPlaysSpec)

/-- 'alibilaw07.InternPairs', WHERE WHAT IT READS IS OF BULK AT MOST 1048576: true; the input reads as it did. -/
def internPairsUptoRow : OpenClaim := { program := "ytpegloapdkfgiaa", sum := "a36c761a8f10ac131f29c1ae668f5bc81e4edd4581271393aad58f8d8065bfe4", func := "alibi/alibilaw07.InternPairs", spec := "internPairs", unfollowed := true, recurses := true, plainKeys := false, apart := false, narrowed := true }
def InternPairsUptoSaid : Prop := internPairsUptoRow.holds Try.pinned (OpenSpec.upto internPairsSpec)

/-- 'alibilaw07.InternNone', WHERE WHAT IT READS IS OF BULK AT MOST 1048576: true; the input reads as it did. -/
def internNoneUptoRow : OpenClaim := { program := "ytpegloapdkfgiaa", sum := "a36c761a8f10ac131f29c1ae668f5bc81e4edd4581271393aad58f8d8065bfe4", func := "alibi/alibilaw07.InternNone", spec := "internNone", unfollowed := true, recurses := true, plainKeys := false, apart := false, narrowed := true }
def InternNoneUptoSaid : Prop := internNoneUptoRow.holds Try.pinned (OpenSpec.upto internNoneSpec)

/-- 'alibilaw07.InternKnown', WHERE WHAT IT READS IS OF BULK AT MOST 1048576: true; the input reads as it did. -/
def internKnownUptoRow : OpenClaim := { program := "ytpegloapdkfgiaa", sum := "a36c761a8f10ac131f29c1ae668f5bc81e4edd4581271393aad58f8d8065bfe4", func := "alibi/alibilaw07.InternKnown", spec := "internKnown", unfollowed := true, recurses := true, plainKeys := false, apart := false, narrowed := true }
def InternKnownUptoSaid : Prop := internKnownUptoRow.holds Try.pinned (OpenSpec.upto internKnownSpec)

end Rows
end Go.Proofs.Ytpegloapdkfgiaa
