/- Orders of the numbers below n, as lists: plain lemmas. -/
import Derived.Test.YtddpdjbgidmdlaaHeap
namespace Go.Proofs.Ytddpdjbgidmdlaa

/-- the document's word: each number below the length stands once -/
def okP (p : List Int) : Prop := ∀ i : Nat, i < p.length → p.count (i : Int) = 1
instance (p : List Int) : Decidable (okP p) := inferInstanceAs (Decidable (∀ i : Nat, i < p.length → p.count (i : Int) = 1))
/-- the code's word: all are below the length, none stands twice -/
def goodP (p : List Int) : Prop := (∀ x ∈ p, 0 ≤ x ∧ x < p.length) ∧ p.Nodup
def sumC (p : List Int) : Nat → Nat
  | 0 => 0
  | n + 1 => sumC p n + p.count (n : Int)
theorem sumC_eq (p : List Int) : ∀ n : Nat, sumC p n = p.countP (fun x : Int => decide (0 ≤ x ∧ x < (n : Int)))
  | 0 => by
    show 0 = _
    symm
    rw [List.countP_eq_zero]
    intro a _
    simp only [decide_eq_true_eq]; omega
  | n + 1 => by
    show sumC p n + p.count (n : Int) = _
    rw [sumC_eq p n]
    induction p with
    | nil => rfl
    | cons x p ih =>
      rw [List.countP_cons, List.countP_cons, List.count_cons]
      by_cases h1 : 0 ≤ x ∧ x < (n : Int)
      · have e1 : decide (0 ≤ x ∧ x < (n : Int)) = true := decide_eq_true h1
        have e2 : decide (0 ≤ x ∧ x < ((n + 1 : Nat) : Int)) = true := decide_eq_true (by omega)
        have e3 : (x == (n : Int)) = false := by rw [beq_eq_false_iff_ne]; omega
        simp only [e1, e2, e3, ↓reduceIte, Bool.false_eq_true]
        omega
      · by_cases h4 : x = (n : Int)
        · have e1 : decide (0 ≤ x ∧ x < (n : Int)) = false := decide_eq_false h1
          have e2 : decide (0 ≤ x ∧ x < ((n + 1 : Nat) : Int)) = true := decide_eq_true (by omega)
          have e3 : (x == (n : Int)) = true := by rw [beq_iff_eq]; omega
          simp only [e1, e2, e3, ↓reduceIte, Bool.false_eq_true]
          omega
        · have e1 : decide (0 ≤ x ∧ x < (n : Int)) = false := decide_eq_false h1
          have e2 : decide (0 ≤ x ∧ x < ((n + 1 : Nat) : Int)) = false := decide_eq_false (by omega)
          have e3 : (x == (n : Int)) = false := by rw [beq_eq_false_iff_ne]; omega
          simp only [e1, e2, e3, ↓reduceIte, Bool.false_eq_true]
          omega
theorem sumC_ones {p : List Int} : ∀ n, (∀ i : Nat, i < n → p.count (i : Int) = 1) → sumC p n = n
  | 0, _ => rfl
  | n + 1, h => by show sumC p n + _ = _; rw [sumC_ones n (fun i hi => h i (by omega)), h n (by omega)]
theorem sumC_le {p : List Int} : ∀ n, (∀ i : Nat, i < n → p.count (i : Int) ≤ 1) → sumC p n ≤ n
  | 0, _ => Nat.le_refl _
  | n + 1, h => by
    have := sumC_le n (fun i hi => h i (by omega)); have := h n (by omega)
    show sumC p n + _ ≤ _; omega
theorem sumC_tight {p : List Int} : ∀ n, (∀ i : Nat, i < n → p.count (i : Int) ≤ 1) → sumC p n = n → ∀ i : Nat, i < n → p.count (i : Int) = 1
  | 0, _, _, i, hi => by omega
  | n + 1, h, hs, i, hi => by
    have h1 := sumC_le n (fun i hi => h i (by omega)); have h2 := h n (by omega)
    have hs' : sumC p n + p.count (n : Int) = n + 1 := hs
    by_cases e : i = n
    · subst e; omega
    · exact sumC_tight n (fun i hi => h i (by omega)) (by omega) i (by omega)
theorem good_iff (p : List Int) : goodP p ↔ okP p := by
  constructor
  · rintro ⟨h1, h2⟩
    have hall : p.countP (fun x => decide (0 ≤ x ∧ x < (p.length : Int))) = p.length := by
      rw [List.countP_eq_length]
      intro x hx
      simpa using h1 x hx
    exact sumC_tight p.length (fun i _ => List.nodup_iff_count.1 h2 _) (by rw [sumC_eq, hall])
  · intro h
    have hs := sumC_ones (p := p) p.length h
    rw [sumC_eq] at hs
    rw [List.countP_eq_length] at hs
    have h1 : ∀ x ∈ p, 0 ≤ x ∧ x < (p.length : Int) := fun x hx => by simpa using hs x hx
    refine ⟨h1, ?_⟩
    rw [List.nodup_iff_count]
    intro x
    by_cases hx : x ∈ p
    · obtain ⟨h2, h3⟩ := h1 x hx
      have := h x.toNat (by omega)
      rw [Int.toNat_of_nonneg h2] at this
      omega
    · rw [List.count_eq_zero_of_not_mem hx]; omega
def rightB (p : List Int) (n : Int) : Bool := decide ((p.length : Int) = n ∧ okP p)
theorem rightB_iff (p : List Int) (n : Int) : rightB p n = true ↔ (p.length : Int) = n ∧ okP p := by simp [rightB]

/-- where a number stands; -1: nowhere -/
def placeI (p : List Int) (n : Int) : Int := if p.idxOf n < p.length then (p.idxOf n : Int) else -1
theorem idxOf_hit {n : Int} : ∀ {p : List Int} {k : Nat}, k < p.length → gi p k = n → (∀ j, j < k → gi p j ≠ n) → p.idxOf n = k
  | [], k, h, _, _ => by simp at h
  | x :: p, 0, _, h, _ => by
    have : x = n := by simpa [gi] using h
    rw [List.idxOf_cons]; simp [this]
  | x :: p, k + 1, h, hg, hn => by
    have h0 : x ≠ n := by simpa [gi] using hn 0 (by omega)
    have := idxOf_hit (n := n) (p := p) (k := k) (by simpa using h) (by simpa [gi] using hg) (fun j hj => by simpa [gi] using hn (j + 1) (by omega))
    rw [List.idxOf_cons]
    have h1 : (x == n) = false := by simpa using h0
    rw [h1, this]; rfl
theorem idxOf_miss {n : Int} {p : List Int} (h : ∀ j, j < p.length → gi p j ≠ n) : ¬ p.idxOf n < p.length := by
  intro hl
  have := List.idxOf_lt_length_iff.1 hl
  obtain ⟨j, hj, e⟩ := List.getElem_of_mem this
  exact h j hj (by simpa [gi, hj] using e)
theorem placeI_hit {p : List Int} {n : Int} {k : Nat} (h1 : k < p.length) (h2 : gi p k = n) (h3 : ∀ j, j < k → gi p j ≠ n) : placeI p n = k := by
  unfold placeI; rw [idxOf_hit h1 h2 h3, if_pos h1]
theorem placeI_miss {p : List Int} {n : Int} (h : ∀ j, j < p.length → gi p j ≠ n) : placeI p n = -1 := by
  unfold placeI; rw [if_neg (idxOf_miss h)]
theorem count_take_succ {p : List Int} {k : Nat} (n : Int) (h : k < p.length) : (p.take (k + 1)).count n = (p.take k).count n + if gi p k = n then 1 else 0 := by
  rw [take_gi h, List.count_append]
  congr 1
  by_cases e : gi p k = n
  · simp [e]
  · simp [e]
#print axioms good_iff
end Go.Proofs.Ytddpdjbgidmdlaa
