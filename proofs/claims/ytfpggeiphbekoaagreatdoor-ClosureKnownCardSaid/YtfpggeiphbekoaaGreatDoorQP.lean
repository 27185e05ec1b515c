/- Plain: the ways of a closure, and the walks that a search in breadth tells. -/
import Derived.Test.YtfpggeiphbekoaaGreatDoorQB
import Derived.Test.YtfpggeiphbekoaaGreatDoorB8
namespace Go.Proofs.YtfpggeiphbekoaaGreatDoor
open Gr
set_option linter.unusedVariables false

/-- a graph's edges between numbers -/
def EN (L : List Ed) : Nat → Nat → Prop := fun i j => False ∨ (i, j) ∈ edN L
section
variable {L : List Ed} {N : Nat}
theorem EN_iff (hL : ∀ x ∈ L, (0 ≤ x.f ∧ x.f < (N : Int)) ∧ 0 ≤ x.t ∧ x.t < (N : Int)) {i j : Nat} : EN L i j ↔ ∃ e ∈ L, e.f = (i : Int) ∧ e.t = (j : Int) := by
  unfold EN edN
  simp only [false_or, List.mem_map, Prod.mk.injEq]
  constructor
  · rintro ⟨e, he, h1, h2⟩
    have := hL e he
    exact ⟨e, he, by omega, by omega⟩
  · rintro ⟨e, he, h1, h2⟩
    exact ⟨e, he, by omega, by omega⟩
theorem way_jB (hL : ∀ x ∈ L, (0 ≤ x.f ∧ x.f < (N : Int)) ∧ 0 ≤ x.t ∧ x.t < (N : Int)) {t m : Nat} : Way (EN L) m t ↔ ∃ k, jB L t (k + 1) m = true := by
  constructor
  · intro h
    induction h with
    | one h =>
      obtain ⟨e, he, h1, h2⟩ := (EN_iff hL).1 h
      refine ⟨0, ?_⟩
      rw [jB, List.any_eq_true]
      exact ⟨e, he, by simp [h1, h2, jB]⟩
    | more h _ ih =>
      obtain ⟨k, ih⟩ := ih
      obtain ⟨e, he, h1, h2⟩ := (EN_iff hL).1 h
      refine ⟨k + 1, ?_⟩
      rw [jB, List.any_eq_true]
      exact ⟨e, he, by simp [h1, h2, ih]⟩
  · rintro ⟨k, h⟩
    induction k generalizing m with
    | zero =>
      rw [jB, List.any_eq_true] at h
      obtain ⟨e, he, h3⟩ := h
      simp only [Bool.and_eq_true, decide_eq_true_eq, jB] at h3
      have := hL e he
      exact .one ((EN_iff hL).2 ⟨e, he, h3.1, by omega⟩)
    | succ k ih =>
      rw [jB, List.any_eq_true] at h
      obtain ⟨e, he, h3⟩ := h
      simp only [Bool.and_eq_true, decide_eq_true_eq] at h3
      have := hL e he
      exact .more ((EN_iff hL).2 ⟨e, he, h3.1, by omega⟩) (ih h3.2)
/-- within N edges, if at all -/
theorem jB_least (hL : ∀ x ∈ L, (0 ≤ x.f ∧ x.f < (N : Int)) ∧ 0 ≤ x.t ∧ x.t < (N : Int)) {t m k : Nat} (hm : m < N) (h : jB L t k m = true) : ∃ d, d ≤ k ∧ d < N ∧ jB L t d m = true := by
  obtain ⟨d, hd, hD⟩ := J.least k ((jB_iff hL k m).1 h)
  exact ⟨d, hd, Ds.lt (fun n m => preN_lt hL m) hm hD, (jB_iff hL d m).2 hD.1⟩
theorem path_zero (hL : ∀ x ∈ L, (0 ≤ x.f ∧ x.f < (N : Int)) ∧ 0 ≤ x.t ∧ x.t < (N : Int)) {f t : Nat} (hf : f < N) (ht : t < N) : (pathR L N (f : Int) (t : Int)).2 = 0 ↔ f = t ∨ Way (EN L) f t := by
  have e : (f = t ∨ Way (EN L) f t) ↔ ∃ k, jB L t k f = true := by
    rw [way_jB hL]
    constructor
    · rintro (h | ⟨k, h⟩)
      · exact ⟨0, by simp [jB, h]⟩
      · exact ⟨_, h⟩
    · rintro ⟨k, h⟩
      cases k with
      | zero => left; simpa [jB] using h
      | succ k => exact .inr ⟨k, h⟩
  rw [e]
  unfold pathR
  rw [if_pos ⟨⟨by omega, by omega⟩, by omega, by omega⟩]
  simp only [Int.toNat_natCast]
  rcases firstJ_spec (L := L) (t := t) (N := N) (m := f) 0 with ⟨h1, h2⟩ | ⟨q, h1, h2, h3, h4, _⟩
  · rw [h1, if_pos (by omega)]
    constructor
    · intro h; simp at h
    · rintro ⟨k, h⟩
      obtain ⟨d, _, hd, hj⟩ := jB_least hL hf h
      rw [h2 d (by omega) (by omega)] at hj; cases hj
  · rw [h1, if_neg (by omega)]
    exact ⟨fun _ => ⟨q, h4⟩, fun _ => rfl⟩
theorem through_zero (hL : ∀ x ∈ L, (0 ≤ x.f ∧ x.f < (N : Int)) ∧ 0 ≤ x.t ∧ x.t < (N : Int)) {n : Nat} (hn : n < N) : (throughR L N (n : Int)).2 = 0 ↔ Way (EN L) n n := by
  unfold throughR
  rw [if_pos ⟨by omega, by omega⟩]
  simp only [Int.toNat_natCast]
  rw [way_jB hL]
  rcases firstJ_spec (L := L) (t := n) (N := N) (m := n) 1 with ⟨h1, h2⟩ | ⟨q, h1, h2, h3, h4, _⟩
  · rw [h1, if_pos (by omega)]
    constructor
    · intro h; simp at h
    · rintro ⟨k, h⟩
      rw [jB, List.any_eq_true] at h
      obtain ⟨e, he, h5⟩ := h
      simp only [Bool.and_eq_true, decide_eq_true_eq] at h5
      have het := (hL _ he).2
      obtain ⟨d, _, hd, hj⟩ := jB_least hL (show e.t.toNat < N by omega) h5.2
      have h6 : jB L n (d + 1) n = true := by
        rw [jB, List.any_eq_true]
        exact ⟨e, he, by simp [h5.1, hj]⟩
      rw [h2 (d + 1) (by omega) (by omega)] at h6; cases h6
  · rw [h1, if_neg (by omega)]
    obtain ⟨j, rfl⟩ : ∃ j, q = j + 1 := ⟨q - 1, by omega⟩
    exact ⟨fun _ => ⟨j, h4⟩, fun _ => rfl⟩
theorem best_zero (L : List Ed) (N : Nat) : ∀ k, bestR L N k ≠ [] ↔ ∃ n, n < k ∧ (throughR L N (n : Int)).2 = 0
  | 0 => by simp [bestR]
  | k + 1 => by
    rw [bestR]
    by_cases h : (throughR L N (k : Int)).2 = 0 ∧ (bestR L N k = [] ∨ (throughR L N (k : Int)).1.length < (bestR L N k).length)
    · rw [if_pos h]
      have hpos := through_pos h.1
      exact ⟨fun _ => ⟨k, by omega, h.1⟩, fun _ e => by rw [e] at hpos; simp at hpos⟩
    · rw [if_neg h, best_zero L N k]
      constructor
      · rintro ⟨n, h1, h2⟩; exact ⟨n, by omega, h2⟩
      · rintro ⟨n, h1, h2⟩
        by_cases e : n = k
        · subst e
          by_cases e2 : bestR L N n = []
          · exact absurd ⟨h2, .inl e2⟩ h
          · exact (best_zero L N n).1 e2
        · exact ⟨n, by omega, h2⟩
theorem short_zero (hL : ∀ x ∈ L, (0 ≤ x.f ∧ x.f < (N : Int)) ∧ 0 ≤ x.t ∧ x.t < (N : Int)) : (shortR L N).2 = 0 ↔ ∃ i, Way (EN L) i i := by
  have h1 : (shortR L N).2 = 0 ↔ bestR L N N ≠ [] := by
    unfold shortR
    by_cases e : bestR L N N = []
    · rw [if_pos e]; simp [e]
    · rw [if_neg e]; simp [e]
  rw [h1, best_zero]
  constructor
  · rintro ⟨n, hn, h⟩; exact ⟨n, (through_zero hL hn).1 h⟩
  · rintro ⟨i, h⟩
    have hi : i < N := by
      obtain ⟨k, hk, _⟩ := h.first
      obtain ⟨e, he, h2, _⟩ := (EN_iff hL).1 hk
      have := hL e he; omega
    exact ⟨i, hi, (through_zero hL hi).2 h⟩
/-- the nodes next to one -/
theorem mem_next (hL : ∀ x ∈ L, (0 ≤ x.f ∧ x.f < (N : Int)) ∧ 0 ≤ x.t ∧ x.t < (N : Int)) {i : Nat} (hi : i < N) {z : Int} : z ∈ comp ((rowI (outE L) N (i : Int)).map (·.t)) ↔ ∃ j : Nat, z = (j : Int) ∧ EN L i j := by
  rw [mem_comp, List.mem_map]
  unfold rowI
  rw [if_pos ⟨by omega, by omega⟩]
  simp only [Int.toNat_natCast, mem_outE]
  constructor
  · rintro ⟨e, ⟨he, h1⟩, rfl⟩
    have := hL e he
    exact ⟨e.t.toNat, by omega, (EN_iff hL).2 ⟨e, he, h1, by omega⟩⟩
  · rintro ⟨j, rfl, h⟩
    obtain ⟨e, he, h1, h2⟩ := (EN_iff hL).1 h
    exact ⟨e, ⟨he, h1⟩, h2⟩
theorem EN_lt (hL : ∀ x ∈ L, (0 ≤ x.f ∧ x.f < (N : Int)) ∧ 0 ≤ x.t ∧ x.t < (N : Int)) {i j : Nat} (h : EN L i j) : i < N ∧ j < N := by
  obtain ⟨e, he, h1, h2⟩ := (EN_iff hL).1 h
  have := hL e he
  omega
/-- by some node next to it -/
theorem next_any (hL : ∀ x ∈ L, (0 ≤ x.f ∧ x.f < (N : Int)) ∧ 0 ≤ x.t ∧ x.t < (N : Int)) {i k : Nat} (hi : i < N) (hk : k < N) : ((comp ((rowI (outE L) N (i : Int)).map (·.t))).any fun z => decide ((pathR L N z (k : Int)).2 = 0)) = true ↔ Way (EN L) i k := by
  rw [List.any_eq_true]
  constructor
  · rintro ⟨z, hz, h⟩
    obtain ⟨j, rfl, he⟩ := (mem_next hL hi).1 hz
    rcases (path_zero hL (EN_lt hL he).2 hk).1 (of_decide_eq_true h) with e | e
    · subst e; exact .one he
    · exact .more he e
  · intro h
    obtain ⟨j, he, h2⟩ := h.first
    exact ⟨(j : Int), (mem_next hL hi).2 ⟨j, rfl, he⟩, decide_eq_true ((path_zero hL (EN_lt hL he).2 hk).2 h2)⟩
end
#print axioms next_any
#print axioms short_zero
end Go.Proofs.YtfpggeiphbekoaaGreatDoor
