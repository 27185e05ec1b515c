/- Plain facts for the law GraphOrders: how many edges there are out of nodes, and into them; rows added in whatever order. -/
import Derived.Test.YtcfajeldkioomaaRhE
namespace Go.Proofs.Ytcfajeldkioomaa
open Go.RowKit
set_option linter.unusedVariables false

/-- how many edges have a key below k -/
def sumK (key : Ed → Int) (L : List Ed) : Nat → Nat
  | 0 => 0
  | k + 1 => sumK key L k + (L.filter fun x => decide (key x = (k : Int))).length
theorem sumK_nil (key : Ed → Int) : ∀ k, sumK key [] k = 0
  | 0 => rfl
  | k + 1 => by unfold sumK; rw [sumK_nil key k]; rfl
theorem sumK_cons (key : Ed → Int) (x : Ed) (L : List Ed) : ∀ k : Nat, sumK key (x :: L) k = sumK key L k + if 0 ≤ key x ∧ key x < (k : Int) then 1 else 0
  | 0 => by unfold sumK; rw [if_neg (by omega)]
  | k + 1 => by
    unfold sumK
    rw [sumK_cons key x L k, List.filter_cons]
    by_cases h : key x = (k : Int)
    · have h1 : ¬ (0 ≤ key x ∧ key x < (k : Int)) := by omega
      have h2 : 0 ≤ key x ∧ key x < ((k + 1 : Nat) : Int) := by omega
      have h3 : decide (key x = (k : Int)) = true := decide_eq_true h
      rw [if_neg h1, if_pos h2, if_pos h3, List.length_cons]
      omega
    · have h3 : ¬ decide (key x = (k : Int)) = true := by simpa using h
      rw [if_neg h3]
      by_cases h4 : 0 ≤ key x ∧ key x < (k : Int)
      · have h2 : 0 ≤ key x ∧ key x < ((k + 1 : Nat) : Int) := by omega
        rw [if_pos h4, if_pos h2]; omega
      · have h2 : ¬ (0 ≤ key x ∧ key x < ((k + 1 : Nat) : Int)) := by omega
        rw [if_neg h4, if_neg h2]; omega
theorem sumK_le (key : Ed → Int) (k : Nat) : ∀ L : List Ed, sumK key L k ≤ L.length
  | [] => by rw [sumK_nil]; simp
  | x :: L => by
    rw [sumK_cons, List.length_cons]
    have := sumK_le key k L
    split <;> omega
theorem sumK_all {key : Ed → Int} {n : Nat} : ∀ {L : List Ed}, (∀ x ∈ L, 0 ≤ key x ∧ key x < (n : Int)) → sumK key L n = L.length
  | [], _ => sumK_nil _ _
  | x :: L, h => by
    rw [sumK_cons, sumK_all (fun y hy => h y (List.mem_cons_of_mem _ hy)), if_pos (h x (by simp)), List.length_cons]
theorem sumK_out (L : List Ed) (k : Nat) : sumK Ed.f L (k + 1) = sumK Ed.f L k + (outE L k).length := rfl
theorem sumK_in (L : List Ed) (k : Nat) : sumK Ed.t L (k + 1) = sumK Ed.t L k + (inE L k).length := rfl
theorem rowI_in {rr : Nat → List Ed} {n k : Nat} (h : k < n) : rowI rr n (k : Int) = rr k := by
  unfold rowI
  rw [if_pos (by omega)]
  rfl
theorem gt_lt {A : List Ed} (h : Asc A) {q : Nat} (hq : q + 1 < A.length) : (gt A q).lt (gt A (q + 1)) := by
  have := (List.pairwise_iff_getElem.1 h) q (q + 1) (by omega) hq (by omega)
  simpa [gt, hq, show q < A.length by omega] using this
theorem cmpE_lt {a b : Ed} (h : a.lt b) : cmpE a b = -1 := by
  unfold cmpE
  rw [if_neg (fun e => by rw [e] at h; exact Ed.lt_irrefl _ h), if_pos h]
theorem addL_same {L xs : List Ed} (h : Asc L) (h1 : ∀ x ∈ xs, x ∈ L) (h2 : ∀ x ∈ L, x ∈ xs) : addL [] xs = L :=
  Asc.same (addL_asc Asc.nil _) h fun x => by rw [mem_addL]; exact ⟨fun q => q.elim (fun q => by simp at q) (h1 x), fun q => .inr (h2 x q)⟩
theorem addL_rest {L : List Ed} (h : Asc L) (x : Ed) : addL [] (L.filter fun y => !decide (y = x)) = delE x L :=
  Asc.same (addL_asc Asc.nil _) h.del fun y => by rw [mem_addL, mem_delE]; simp
theorem delE_ne {L : List Ed} {x : Ed} (h : x ∈ L) : delE x L ≠ L := fun e => by
  have : x ∈ delE x L := by rw [e]; exact h
  exact (mem_delE.1 this).2 rfl
theorem gt_all {L xs : List Ed} (h : ∀ j, j < L.length → gt L j ∈ xs) : ∀ x ∈ L, x ∈ xs := fun x hx => by
  obtain ⟨j, hj, rfl⟩ := List.getElem_of_mem hx
  have := h j hj
  simpa [gt, hj] using this
#print axioms sumK_all
#print axioms addL_rest
end Go.Proofs.Ytcfajeldkioomaa
