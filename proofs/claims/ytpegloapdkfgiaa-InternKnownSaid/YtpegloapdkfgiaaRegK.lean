/- A region that draws its order and ends with a store into a cell that it has loaded: two operations that may come up; the world by another name. For every seat. No program in sight. -/
import Derived.Test.YtpegloapdkfgiaaRegG
import Derived.Test.YtpegloapdkfgiaaRegH
namespace Go.Proofs.Ytpegloapdkfgiaa
open Go.RowKit
set_option linter.unusedVariables false
section
variable {P : Program} {ops : Array Oper} {Q : Exit → Act → World → Prop} {md : Region.Mode} {s : Nat} {S : Bool → World → Prop}
theorem wpG_hold {f : Nat} {L : Array Bool} {a : Act} {W : World} (R : World → Prop) (hR : R W) (h : ∀ W', R W' → wpG P md ops Q s S f L a W') : wpG P md ops Q s S f L a W := h W hR
theorem wpG_two {i j : Nat} {oi oj : Oper} {f : Nat} {L : Array Bool} {a : Act} {w : World} (hr : Region.ready md ops L = [i, j]) (hi : ops[i]? = some oi) (hj : ops[j]? = some oj) (hc : Cl md ops s L)
    (h1 : ∀ K' : Act → World → Prop, Shut (∀ a w, S ((L.setIfInBounds i true).getD s false) w → (S ((L.setIfInBounds i true).getD s false) w → Cl md ops s (L.setIfInBounds i true) → wpG P md ops Q s S f (L.setIfInBounds i true) a w) → K' a w) → if Region.wanted oi (yielded ops a.tmps) = true then Oper.wp P oi a w K' Q else K' (a.put oi.dst undef) w)
    (h2 : ∀ K' : Act → World → Prop, Shut (∀ a w, S ((L.setIfInBounds j true).getD s false) w → (S ((L.setIfInBounds j true).getD s false) w → Cl md ops s (L.setIfInBounds j true) → wpG P md ops Q s S f (L.setIfInBounds j true) a w) → K' a w) → if Region.wanted oj (yielded ops a.tmps) = true then Oper.wp P oj a w K' Q else K' (a.put oj.dst undef) w) :
    wpG P md ops Q s S (f + 1) L a w :=
  ⟨fun h0 => (by rw [hr] at h0; cases h0), fun k hk => by
    have hk' := hk
    rw [hr, List.mem_cons, List.mem_singleton] at hk
    rcases hk with rfl | rfl
    · exact wpOp_step hi (fun K' hK => h1 K' (fun a w hS hW => hK a w ⟨hS, hW hS (cl_ready hc hk')⟩))
    · exact wpOp_step hj (fun K' hK => h2 K' (fun a w hS hW => hK a w ⟨hS, hW hS (cl_ready hc hk')⟩))⟩
end
#print axioms wpG_two
end Go.Proofs.Ytpegloapdkfgiaa
