/- A region that draws its order and ends with a store into a cell that it has loaded: a condition on the world that holds till that store. For every seat. No program in sight. -/
import Derived.Test.YtpegloapdkfgiaaHeap
import Derived.StillTail
namespace Go.Proofs.Ytpegloapdkfgiaa
open Go.RowKit
set_option linter.unusedVariables false
section
variable {P : Program} {ops : Array Oper} {Q : Exit → Act → World → Prop} {md : Region.Mode} {s : Nat} {S : Bool → World → Prop}

/-- what the store waits for has come up, if it has -/
def Cl (md : Region.Mode) (ops : Array Oper) (s : Nat) (L : Array Bool) : Prop := ∀ os, ops[s]? = some os → L.getD s false = true → ∀ e ∈ os.after, Region.binds md e = true → L.getD e.on false = true
theorem cl_ready {L : Array Bool} {j : Nat} (h : Cl md ops s L) (hj : j ∈ Region.ready md ops L) : Cl md ops s (L.setIfInBounds j true) := by
  intro os hos hl e he hb
  by_cases hjs : j = s
  · subst hjs
    obtain ⟨_, oj, hoj, hall⟩ := mem_ready.1 hj
    have : oj = os := Option.some.inj (hoj.symm.trans hos)
    subst this
    exact getD_set_true (hall e he hb)
  · rw [getD_set_ne false hjs] at hl
    exact getD_set_true (h os hos hl e he hb)
theorem cl_un {L : Array Bool} {i : Nat} (h : Cl md ops s L) (hw : Region.waitsFor md ops s i = true) (hi : L.getD i true = false) : L.getD s false = false := by
  obtain ⟨os, hos, e, he, hb, hon⟩ := Region.waitsFor_spec hw
  cases hl : L.getD s false with
  | false => rfl
  | true =>
    have := h os hos hl e he hb
    rw [hon, getD_both hi] at this
    cases this
/-- in whatever order; behind each operation the condition holds -/
def wpG (P : Program) (md : Region.Mode) (ops : Array Oper) (Q : Exit → Act → World → Prop) (s : Nat) (S : Bool → World → Prop) : Nat → Array Bool → Act → World → Prop
  | 0, L, a, w => Region.ready md ops L = [] ∧ Q .normal a w
  | f + 1, L, a, w => (Region.ready md ops L = [] → Q .normal a w) ∧ ∀ i ∈ Region.ready md ops L, wpOp P ops Q i (fun a' w' => S ((L.setIfInBounds i true).getD s false) w' ∧ wpG P md ops Q s S f (L.setIfInBounds i true) a' w') a w
theorem wpAny_of_wpG : ∀ (f : Nat) (L : Array Bool) (a : Act) (w : World), wpG P md ops Q s S f L a w → wpAny P md ops Q f L a w
  | 0, _, _, _, h => h
  | f + 1, _, _, _, h => ⟨h.1, fun i hi => wpOp_mono (fun a' w' h' => wpAny_of_wpG f _ a' w' h'.2) (h.2 i hi)⟩
theorem wpG_first {i : Nat} {oi : Oper} {v : Value} (hi : ops[i]? = some oi) (hsel : ∀ (j : Nat) (o : Oper) cs b, ops[j]? = some o → o.op ≠ .select cs b)
    (hQ : ∀ c a w, Q (.panic c) (a.put oi.dst v) w → Q (.panic c) a w) (his : i ≠ s) (hw : Region.waitsFor md ops s i = true) :
    ∀ (f : Nat) (L : Array Bool) (a : Act) (w : World),
      (∀ j oj, ops[j]? = some oj → j ≠ i → L.getD j true = false → (∀ e ∈ oj.after, Region.binds md e = true → e.on ≠ i) → oi.apart ops oj = true) →
      i ∈ Region.ready md ops L → YieldsIf P ops (S false) oi v a → S (L.getD s false) w → Cl md ops s L →
      wpG P md ops Q s S f (L.setIfInBounds i true) (a.put oi.dst v) w → wpG P md ops Q s S (f + 1) L a w := by
  intro f
  induction f with
  | zero =>
    intro L a w _ hr hy hS hc H
    have hun := cl_un hc hw (mem_ready.1 hr).1
    rw [hun] at hS
    refine ⟨fun h => (by rw [h] at hr; cases hr), fun j hj => ?_⟩
    by_cases hji : j = i
    · subst hji; exact hy.wpOp hi hS ⟨by rw [getD_set_ne false his, hun]; exact hS, H⟩
    · have := ready_mono hj hji
      rw [H.1] at this; cases this
  | succ f ih =>
    intro L a w hfree hr hy hS hc H
    have hun := cl_un hc hw (mem_ready.1 hr).1
    refine ⟨fun h => (by rw [h] at hr; cases hr), fun j hj => ?_⟩
    by_cases hji : j = i
    · subst hji
      rw [hun] at hS
      exact hy.wpOp hi hS ⟨by rw [getD_set_ne false his, hun]; exact hS, H⟩
    · have h1 := H.2 j (ready_mono hj hji)
      obtain ⟨hjun, oj, hoj, hall⟩ := mem_ready.1 hj
      have hnot : ∀ e ∈ oj.after, Region.binds md e = true → e.on ≠ i := fun e he hb heq => by
        have h1 := hall e he hb
        rw [heq, getD_both (mem_ready.1 hr).1] at h1
        cases h1
      have h2 := wpOp_putIf hoj (hfree j oj hoj hji hjun hnot) (fun cs b => hsel i oi cs b hi) (fun cs b => hsel j oj cs b hoj) hQ hy h1
      have hfree' : ∀ k ok, ops[k]? = some ok → k ≠ i → (L.setIfInBounds j true).getD k true = false →
          (∀ e ∈ ok.after, Region.binds md e = true → e.on ≠ i) → oi.apart ops ok = true := fun k ok hk hki hun hno => by
        refine hfree k ok hk hki ?_ hno
        by_cases hjk : j = k
        · subst hjk; exact hjun
        · rw [getD_set_ne true hjk] at hun; exact hun
      refine wpOp_mono (fun a' w' h3 => ?_) h2
      have hSj : S ((L.setIfInBounds j true).getD s false) w' := by
        have := h3.2.1
        rw [Array.setIfInBounds_comm _ _ (Ne.symm hji), getD_set_ne false his] at this
        exact this
      refine ⟨hSj, ih (L.setIfInBounds j true) a' w' hfree' (ready_mono hr (Ne.symm hji)) h3.1 hSj (cl_ready hc hj) ?_⟩
      rw [Array.setIfInBounds_comm _ _ hji]
      exact h3.2.2
theorem wpG_take {i : Nat} {oi : Oper} {v : Value} {f : Nat} {L : Array Bool} {a : Act} {w : World} (hi : ops[i]? = some oi)
    (hs : Region.noSelect ops = true) (hf : Region.free md ops L i = true) (hr : (Region.ready md ops L).contains i = true) (hw : Region.waitsFor md ops s i = true)
    (hQ : ∀ c a w, Q (.panic c) (a.put oi.dst v) w → Q (.panic c) a w) (his : i ≠ s) (hy : YieldsIf P ops (S false) oi v a) (hc : Cl md ops s L) (hS : S (L.getD s false) w)
    (h : S ((L.setIfInBounds i true).getD s false) w → Cl md ops s (L.setIfInBounds i true) → wpG P md ops Q s S f (L.setIfInBounds i true) (a.put oi.dst v) w) : wpG P md ops Q s S (f + 1) L a w :=
  wpG_first hi (Region.noSelect_spec hs) hQ his hw f L a w (Region.free_spec hi hf) (by simpa using hr) hy hS hc (h (by rw [getD_set_ne false his]; exact hS) (cl_ready hc (by simpa using hr)))
theorem wpG_one {i : Nat} {o : Oper} {f : Nat} {L : Array Bool} {a : Act} {w : World} (hr : Region.ready md ops L = [i]) (ho : ops[i]? = some o) (hc : Cl md ops s L)
    (h : ∀ K' : Act → World → Prop, Shut (∀ a w, S ((L.setIfInBounds i true).getD s false) w → (S ((L.setIfInBounds i true).getD s false) w → Cl md ops s (L.setIfInBounds i true) → wpG P md ops Q s S f (L.setIfInBounds i true) a w) → K' a w) → if Region.wanted o (yielded ops a.tmps) = true then Oper.wp P o a w K' Q else K' (a.put o.dst undef) w) :
    wpG P md ops Q s S (f + 1) L a w :=
  ⟨fun h0 => (by rw [hr] at h0; cases h0), fun j hj => by
    rw [hr, List.mem_singleton] at hj
    subst hj
    exact wpOp_step ho (fun K' hK => h K' (fun a w hS hW => hK a w ⟨hS, hW hS (cl_ready hc (by rw [hr]; simp))⟩))⟩
theorem wpG_done {L : Array Bool} {a : Act} {w : World} (hr : Region.ready md ops L = []) (h : Q .normal a w) : ∀ f, wpG P md ops Q s S f L a w
  | 0 => ⟨hr, h⟩
  | _ + 1 => ⟨fun _ => h, by rw [hr]; simp⟩
theorem cl_none : ∀ {n : Nat}, Cl md ops s (Array.replicate n false) := by
  intro n os hos hl
  rw [getD_replicate_false] at hl
  cases hl
theorem wp_region_G {id : Nat} {a : Act} {w : World} (s : Nat) (S : Bool → World → Prop) (hm : P.follows .mixedOrders = true) (hS : S false w.drew)
    (h : S ((Array.replicate ops.size false).getD s false) w.drew → Cl .any ops s (Array.replicate ops.size false) → wpG P .any ops Q s S ops.size (Array.replicate ops.size false) a w.drew) : (Code.region id ops true).wp P Q a w :=
  wp_region_any hm (wpAny_of_wpG _ _ _ _ (h (by rw [getD_replicate_false]; exact hS) cl_none))
end
#print axioms wp_region_G
end Go.Proofs.Ytpegloapdkfgiaa
