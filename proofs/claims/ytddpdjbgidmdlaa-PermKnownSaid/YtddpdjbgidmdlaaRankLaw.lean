/- Plain: what the laws say of ranks, of inverses, of the next row. -/
import Derived.Test.YtddpdjbgidmdlaaWorks
namespace Go.Proofs.Ytddpdjbgidmdlaa
open Go.RowKit
set_option linter.unusedVariables false

/-! an order is the inverse of its inverse -/
theorem placeI_bounds {p : List Int} {n : Int} (h : n ∈ p) : 0 ≤ placeI p n ∧ placeI p n < p.length ∧ gi p (placeI p n).toNat = n := by
  have hl : p.idxOf n < p.length := List.idxOf_lt_length_iff.2 h
  unfold placeI
  rw [if_pos hl]
  refine ⟨by omega, by omega, ?_⟩
  rw [Int.toNat_natCast]
  simp [gi, List.getD, hl]
theorem okP_mem {p : List Int} (h : okP p) {i : Nat} (hi : i < p.length) : (i : Int) ∈ p := by
  have := h i hi
  exact List.count_pos_iff.1 (by omega)
theorem gi_invL {p : List Int} {i : Nat} (hi : i < p.length) : gi (invL p) i = placeI p (i : Int) := by
  simp [gi, invL, List.getD, hi]
theorem invL_ok {p : List Int} (h : okP p) : okP (invL p) := by
  rw [← good_iff]
  refine ⟨fun x hx => ?_, ?_⟩
  · obtain ⟨i, hi, rfl⟩ := List.mem_map.1 hx
    have hi' : i < p.length := by simpa using hi
    have := placeI_bounds (okP_mem h hi')
    rw [invL_length]
    exact ⟨this.1, this.2.1⟩
  · rw [List.nodup_iff_pairwise_ne, invL, List.pairwise_map]
    refine (List.pairwise_lt_range).imp_of_mem fun {i j} hi hj hij e => ?_
    have hi' : i < p.length := by simpa using hi
    have hj' : j < p.length := by simpa using hj
    have h1 := placeI_bounds (okP_mem h hi')
    have h2 := placeI_bounds (okP_mem h hj')
    rw [e] at h1
    have : (i : Int) = (j : Int) := h1.2.2.symm.trans h2.2.2
    omega
theorem invL_twice {p : List Int} (h : okP p) : invL (invL p) = p := by
  have hg := (good_iff p).2 h
  refine gi_ext (by rw [invL_length, invL_length]) fun k hk => ?_
  rw [invL_length, invL_length] at hk
  rw [gi_invL (by rw [invL_length]; exact hk)]
  obtain ⟨b1, b2⟩ := hg.1 _ (gi_mem hk)
  obtain ⟨x, hx⟩ := Int.eq_ofNat_of_zero_le b1
  have hxl : x < p.length := by omega
  have hm := okP_mem (invL_ok h) (i := k) (by rw [invL_length]; exact hk)
  have h3 := placeI_bounds hm
  rw [invL_length] at h3
  obtain ⟨y, hy⟩ := Int.eq_ofNat_of_zero_le h3.1
  rw [hy] at h3 ⊢
  have hyl : y < p.length := by omega
  have h4 := h3.2.2
  rw [Int.toNat_natCast, gi_invL hyl] at h4
  have h5 := placeI_bounds (okP_mem h hyl)
  rw [h4, Int.toNat_natCast] at h5
  exact h5.2.2.symm
theorem invR_twice {p : List Int} (h : okP p) : invR (invR p) = p ∧ okB (invR p) = true := by
  have e : invR p = invL p := if_pos h
  rw [e]
  have h2 := invL_ok h
  exact ⟨(if_pos h2).trans (invL_twice h), (okB_iff _).2 h2⟩
/-! ranks -/
theorem unr_rank {n : Int} {k : Nat} (h : unrOk n k = true) : rankN (unrL n k) = k ∧ rankOk (unrL n k) = true ∧ okP (unrL n k) ∧ (unrL n k).length ≤ 20 := by
  have hu : unrL n k = unr n.toNat (upTo n.toNat) k := by unfold unrL; rw [if_pos h]
  have h' := h
  unfold unrOk at h'
  have h3 := of_decide_eq_true h'
  obtain ⟨o1, o2⟩ := unr_ok h3.2.2
  have hl : (unrL n k).length ≤ 20 := by rw [hu, unr_length]; omega
  rw [← hu] at o1 o2
  have hr : rankOk (unrL n k) = true := by unfold rankOk; rw [(okB_iff _).2 o1]; simpa using hl
  refine ⟨?_, hr, o1, hl⟩
  unfold rankN
  rw [if_pos hr, o2]
theorem after_next {p q : List Int} {b : Bool} (ho : rankOk p = true) (h : AfterQ p q b) : b = unrOk (p.length : Int) (rankN p + 1) ∧ q = unrL (p.length : Int) (rankN p + 1) := by
  have hp : okP p ∧ p.length ≤ 20 := by
    unfold rankOk at ho
    simp only [Bool.and_eq_true, decide_eq_true_eq] at ho
    exact ⟨(okB_iff _).1 ho.2, ho.1⟩
  have hr : rankN p = rk p := by unfold rankN; rw [if_pos ho]
  have hok : ∀ k, unrOk (p.length : Int) k = decide (k < fact p.length) := fun k => by
    unfold unrOk
    rw [decide_eq_decide, Int.toNat_natCast]
    omega
  rcases h with ⟨rfl, rfl, h⟩ | ⟨rfl, _, a, x, A, y, B, e, hf, hxy, hB, hq⟩
  · have h1 := rk_fall (h hp.1)
    have e1 : unrOk (p.length : Int) (rankN p + 1) = false := by rw [hok, hr, h1]; simp
    refine ⟨e1.symm, ?_⟩
    unfold unrL
    rw [if_neg (by rw [e1]; simp)]
  · subst e
    obtain ⟨h1, h2, h3⟩ := next_unr hp.1 hf hxy hB
    have e1 : unrOk ((a ++ x :: (A ++ y :: B)).length : Int) (rankN (a ++ x :: (A ++ y :: B)) + 1) = true := by
      rw [hok, hr]; exact decide_eq_true h3
    refine ⟨e1.symm, ?_⟩
    unfold unrL
    rw [if_pos e1, Int.toNat_natCast, hr]
    exact hq.trans h2
theorem noRise_fall {p : List Int} (h : Fall p) : fallB p = true := by
  refine decide_eq_true fun i hi => ?_
  have := (List.pairwise_iff_getElem.1 h) i (i + 1) (by omega) hi (by omega)
  have h1 : i < p.length := by omega
  simp [gi, List.getD, hi, h1]
  omega
theorem rise_fallB {a A B : List Int} {x y : Int} (hf : Fall (A ++ y :: B)) (hxy : x < y) : fallB (a ++ x :: (A ++ y :: B)) = false := by
  refine decide_eq_false fun h => ?_
  have h1 := h a.length (by simp; omega)
  rw [gi_append, gi_append] at h1
  rw [if_neg (by omega), if_neg (by omega), show a.length - a.length = 0 by omega, show a.length + 1 - a.length = 0 + 1 by omega, gi_zero, gi_succ] at h1
  cases A with
  | nil => rw [List.nil_append, gi_zero] at h1; omega
  | cons c A =>
    rw [List.cons_append, gi_zero] at h1
    have : y < c := by
      have := List.rel_of_pairwise_cons (l := A ++ y :: B) hf (a' := y) (by simp)
      exact this
    omega
theorem after_not {p q : List Int} {b : Bool} (ho : rankOk p = false) (h : AfterQ p q b) :
    b = (decide (20 < p.length) && rightB p (p.length : Int) && !fallB p) ∧ (b = true ∨ q = []) := by
  rcases h with ⟨rfl, rfl, h⟩ | ⟨rfl, hp, a, x, A, y, B, e, hf, hxy, hB, hq⟩
  · refine ⟨?_, .inr rfl⟩
    rw [rightB_self]
    cases hk : okB p with
    | false => simp
    | true =>
      have hF := h ((okB_iff p).1 hk)
      have : fallB p = true := by
        exact noRise_fall hF
      rw [this]; simp
  · refine ⟨?_, .inl rfl⟩
    have h1 : okB p = true := (okB_iff p).2 hp
    have h2 : 20 < p.length := by
      unfold rankOk at ho
      rw [h1] at ho
      simpa using ho
    have h3 : fallB p = false := by
      rw [e]; exact rise_fallB hf hxy
    rw [rightB_self, h1, h3]
    simp [h2]
#print axioms after_not
end Go.Proofs.Ytddpdjbgidmdlaa
