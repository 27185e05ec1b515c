/- A sorted row of numbers: each stands behind as many as are less. Plain. -/
import Derived.Test.YtpegloapdkfgiaaNMath
namespace Go.Proofs.Ytpegloapdkfgiaa

/-- how many of the first n are ahead of one -/
def aheadN (lt : Nat → Nat → Bool) (n i : Nat) : Nat := ((List.range n).filter fun k => lt k i).length
/-- the numbers, in an order -/
def Risen (lt : Nat → Nat → Bool) (n : Nat) (R : List Nat) : Prop := R.length = n ∧ ∀ p, p < n → R.getD p 0 < n ∧ aheadN lt n (R.getD p 0) = p
theorem risen_sorted {n : Nat} {lt : Nat → Nat → Bool} {R : List Nat} (hp : R.Perm (List.range n)) (hs : ∀ i j, i < j → j < n → lt (R.getD j 0) (R.getD i 0) = false)
    (ht : ∀ a b, a < n → b < n → a ≠ b → lt a b = true ∨ lt b a = true) (hi : ∀ a, lt a a = false) : Risen lt n R := by
  have hl : R.length = n := by rw [hp.length_eq, List.length_range]
  have hnd : R.Nodup := hp.nodup_iff.2 List.nodup_range
  have hlt : ∀ q, q < n → R.getD q 0 < n := fun q hq => by
    have : R.getD q 0 ∈ R := by simp [List.getD, show q < R.length by omega]
    exact List.mem_range.1 (hp.mem_iff.1 this)
  refine ⟨hl, fun p hpn => ⟨hlt p hpn, ?_⟩⟩
  unfold aheadN
  rw [← List.countP_eq_length_filter, ← hp.countP_eq, ← List.take_append_drop p R, List.countP_append]
  have h1 : List.countP (fun k => lt k ((List.take p R ++ List.drop p R).getD p 0)) (List.take p R) = (List.take p R).length := by
    rw [List.take_append_drop]
    refine List.countP_eq_length.2 fun a ha => ?_
    obtain ⟨i, hi1, hi2⟩ := List.getElem_of_mem ha
    rw [List.length_take] at hi1
    have e : R.getD i 0 = a := by
      rw [← hi2]
      simp [List.getD, show i < R.length by omega]
    have hne : R.getD i 0 ≠ R.getD p 0 := fun h => by
      have h2 : R[i]'(by omega) = R[p]'(by omega) := by simpa [List.getD, show i < R.length by omega, show p < R.length by omega] using h
      exact (List.pairwise_iff_getElem.1 hnd) i p (by omega) (by omega) (by omega) h2
    have h3 := hs i p (by omega) hpn
    rw [e] at hne h3
    rcases ht a (R.getD p 0) (by rw [← e]; exact hlt i (by omega)) (hlt p hpn) hne with h4 | h4
    · exact h4
    · rw [h3] at h4; cases h4
  have h2 : List.countP (fun k => lt k ((List.take p R ++ List.drop p R).getD p 0)) (List.drop p R) = 0 := by
    rw [List.take_append_drop]
    refine List.countP_eq_zero.2 fun a ha => ?_
    obtain ⟨i, hi1, hi2⟩ := List.getElem_of_mem ha
    rw [List.length_drop] at hi1
    have e : R.getD (p + i) 0 = a := by
      rw [← hi2]
      simp [List.getD, show p + i < R.length by omega]
    rcases Nat.eq_zero_or_pos i with h0 | h0
    · subst h0
      rw [Nat.add_zero] at e
      rw [← e, hi]; simp
    · have := hs p (p + i) (by omega) (by omega)
      rw [e] at this
      rw [this]; simp
  rw [h1, h2, List.length_take]
  omega
/-- there is one such row -/
theorem risen_one {n : Nat} {lt : Nat → Nat → Bool} {R R' : List Nat} (h : Risen lt n R) (hl : R'.length = n) (h' : ∀ i, i < n → R'.getD (aheadN lt n i) 0 = i) : R = R' := by
  apply List.ext_getElem (by rw [h.1, hl])
  intro p h1 h2
  have hp : p < n := by rw [← h.1]; exact h1
  obtain ⟨h3, h4⟩ := h.2 p hp
  have h5 := h' _ h3
  rw [h4] at h5
  have e1 : R.getD p 0 = R[p] := by simp [List.getD, h1]
  have e2 : R'.getD p 0 = R'[p] := by simp [List.getD, h2]
  rw [← e1, ← e2, h5]
#print axioms risen_sorted
#print axioms risen_one
end Go.Proofs.Ytpegloapdkfgiaa
