/- A slice of integers that came in, each of 64 bits. -/
import Derived.Test.YtcfajeldkioomaaGDoorE
namespace Go.Proofs.Ytcfajeldkioomaa
open Go.ChangeShapes Go.WideShapes Go.ChangeAt Go.Deep Go.RowKit Go.Joins
set_option linter.unusedVariables false

theorem ints_ok_of {H : Type} {enc : TypeId × Value → H} {W : World} {fuel : Nat} {v : Value} {x : DataW H × List MemPlace} (hf : DataW.trod enc Try.prog W 0 (fun _ => true) true fuel 23 [v] = some x) :
    ∃ zs, IntsV W (fun k => k < W.heap.size) v zs ∧ ∀ z ∈ zs, Ok64 z := by
  rcases open_ints Try.underlying23 Try.underlying3 (by kernel_rfl) hf with ⟨hcs, _⟩ | ⟨a, l, c, zs, hcs, _, hl, hm, hz, _, hcell, hwz⟩
  · simp only [List.cons.injEq, and_true] at hcs
    subst hcs
    exact ⟨[], SlV.nil _ _ _, by simp⟩
  · simp only [List.cons.injEq, and_true] at hcs
    subst hcs
    exact ⟨zs.take l, ints_in hl hm (by simpa using hz) hcell, fun z hz2 => ok_wf (hwz z (List.mem_of_mem_take hz2))⟩
#print axioms ints_ok_of
end Go.Proofs.Ytcfajeldkioomaa
