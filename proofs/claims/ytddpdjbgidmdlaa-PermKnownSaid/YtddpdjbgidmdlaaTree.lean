/- Plain: the tree of rows that a walk goes through; what is behind a row; Next tells the next one. -/
import Derived.Test.YtddpdjbgidmdlaaWalkE
namespace Go.Proofs.Ytddpdjbgidmdlaa
open Go.RowKit
set_option linter.unusedVariables false

/-- rows as a walk builds them -/
inductive VRow (ps : List (Int × Int)) (n : Nat) : List Int → Prop
  | nil : VRow ps n []
  | snoc {row : List Int} {i : Nat} (h : VRow ps n row) (hi : i < n) (hm : mayI ps row i = true) : VRow ps n (row ++ [(i : Int)])
theorem mayI_iff {ps : List (Int × Int)} {row : List Int} {i : Nat} : mayI ps row i = true ↔ (i : Int) ∉ row ∧ ahN ps row (i : Int) = 0 := by
  unfold mayI
  simp only [Bool.and_eq_true, decide_eq_true_eq, beq_iff_eq]
theorem VRow.rg {ps : List (Int × Int)} {n : Nat} {row : List Int} (h : VRow ps n row) : row.Nodup ∧ ∀ x ∈ row, 0 ≤ x ∧ x < (n : Int) := by
  induction h with
  | nil => exact ⟨List.nodup_nil, fun x hx => by simp at hx⟩
  | snoc h hi hm ih =>
    refine ⟨?_, fun x hx => ?_⟩
    · rw [List.nodup_append]
      refine ⟨ih.1, by simp, fun a ha b hb e => ?_⟩
      rw [List.mem_singleton] at hb
      exact (mayI_iff.1 hm).1 (by rw [← hb, ← e]; exact ha)
    · rcases List.mem_append.1 hx with h | h
      · exact ih.2 x h
      · rw [List.mem_singleton] at h; omega
theorem VRow.le {ps : List (Int × Int)} {n : Nat} {row : List Int} (h : VRow ps n row) : row.length ≤ n := nodup_range_le h.rg.1 h.rg.2
theorem mem_candTo {ps : List (Int × Int)} {row : List Int} {f n i : Nat} : i ∈ candTo ps row f n ↔ i < n ∧ f ≤ i ∧ mayI ps row i = true := by
  unfold candTo
  rw [List.mem_filter, List.mem_range, Bool.and_eq_true, decide_eq_true_eq]
/-- the sub-rows: all that a row may grow to -/
def treeT (ps : List (Int × Int)) (n : Nat) : Nat → List Int → List (List Int)
  | 0, row => [row]
  | m + 1, row => (candTo ps row 0 n).flatMap fun i : Nat => treeT ps n m (row ++ [(i : Int)])
/-- what is behind a row (its numbers from the last one on) -/
def restR (ps : List (Int × Int)) (n : Nat) : List Int → List (List Int)
  | [] => []
  | x :: r => ((candTo ps r.reverse (x.toNat + 1) n).flatMap fun i : Nat => treeT ps n (n - r.length - 1) (r.reverse ++ [(i : Int)])) ++ restR ps n r
def rest (ps : List (Int × Int)) (n : Nat) (row : List Int) : List (List Int) := restR ps n row.reverse
theorem rest_nil (ps : List (Int × Int)) (n : Nat) : rest ps n [] = [] := rfl
theorem rest_snoc (ps : List (Int × Int)) (n : Nat) (row : List Int) (x : Nat) :
    rest ps n (row ++ [(x : Int)]) = ((candTo ps row (x + 1) n).flatMap fun i : Nat => treeT ps n (n - row.length - 1) (row ++ [(i : Int)])) ++ rest ps n row := by
  unfold rest
  rw [List.reverse_append]
  show ((candTo ps row.reverse.reverse ((x : Int).toNat + 1) n).flatMap fun i : Nat => treeT ps n (n - row.reverse.length - 1) (row.reverse.reverse ++ [(i : Int)])) ++ restR ps n row.reverse = _
  rw [List.reverse_reverse, Int.toNat_natCast, List.length_reverse]
/-- the pairs have no closed walk -/
def Full (ps : List (Int × Int)) (n : Nat) : Prop := ∀ row, VRow ps n row → row.length < n → candTo ps row 0 n ≠ []
theorem filter_tail {n : Nat} {p : Nat → Bool} {a : Nat} {tl : List Nat} (h : (List.range n).filter p = a :: tl) : tl = (List.range n).filter fun j => decide (a + 1 ≤ j) && p j := by
  have hs : ((List.range n).filter p).Pairwise (· < ·) := (List.pairwise_lt_range).filter _
  rw [h, List.pairwise_cons] at hs
  have e : ((List.range n).filter p).filter (fun j => decide (a + 1 ≤ j)) = tl := by
    rw [h, List.filter_cons, if_neg (by simp), List.filter_eq_self]
    intro x hx
    have := hs.1 x hx
    exact decide_eq_true (by omega)
  rw [← e, List.filter_filter]
theorem candTo_tail {ps : List (Int × Int)} {row : List Int} {f n a : Nat} {tl : List Nat} (h : candTo ps row f n = a :: tl) : candTo ps row (a + 1) n = tl := by
  have h0 : f ≤ a := (mem_candTo.1 (by rw [h]; simp)).2.1
  unfold candTo at h ⊢
  rw [filter_tail h]
  refine List.filter_congr fun j hj => ?_
  by_cases h1 : a + 1 ≤ j
  · have h2 : f ≤ j := by omega
    simp [h1, h2]
  · simp [h1]
theorem fillF_step {ps : List (Int × Int)} {n m : Nat} {row : List Int} {a : Nat} {tl : List Nat} (h : candTo ps row 0 n = a :: tl) : fillF ps n (m + 1) row = fillF ps n m (row ++ [(a : Int)]) := by
  show (match cand ps n row 0 with
    | none => row
    | some i => fillF ps n m (row ++ [(i : Int)])) = _
  rw [cand_head, h]; rfl
theorem VRow.full_none {ps : List (Int × Int)} {n : Nat} {row : List Int} (h : VRow ps n row) (hl : row.length = n) (f : Nat) : candTo ps row f n = [] := by
  rw [List.eq_nil_iff_forall_not_mem]
  intro i hi
  obtain ⟨h1, _, h3⟩ := mem_candTo.1 hi
  have := (VRow.snoc h h1 h3).le
  rw [List.length_append, List.length_singleton] at this
  omega
theorem fill_tree {ps : List (Int × Int)} {n : Nat} (hF : Full ps n) : ∀ {m : Nat} {row : List Int}, VRow ps n row → row.length + m = n →
    treeT ps n m row ++ rest ps n row = fillF ps n (m + 1) row :: rest ps n (fillF ps n (m + 1) row) ∧ (∃ t, treeT ps n m row = fillF ps n (m + 1) row :: t) ∧ (fillF ps n (m + 1) row).length = n ∧ VRow ps n (fillF ps n (m + 1) row)
  | 0, row, hv, hm => by
    have e : fillF ps n (0 + 1) row = row := by
      show (match cand ps n row 0 with
        | none => row
        | some i => fillF ps n 0 (row ++ [(i : Int)])) = _
      rw [cand_head, hv.full_none (by omega)]; rfl
    rw [e]
    exact ⟨rfl, ⟨[], rfl⟩, by omega, hv⟩
  | m + 1, row, hv, hm => by
    cases hc : candTo ps row 0 n with
    | nil => exact absurd hc (hF row hv (by omega))
    | cons a tl =>
      obtain ⟨h1, _, h3⟩ := mem_candTo.1 (show a ∈ candTo ps row 0 n by rw [hc]; simp)
      have hv2 := VRow.snoc hv h1 h3
      obtain ⟨i1, ⟨t, i2⟩, i3, i4⟩ := fill_tree hF (m := m) hv2 (by rw [List.length_append, List.length_singleton]; omega)
      rw [fillF_step hc]
      have e : treeT ps n (m + 1) row = treeT ps n m (row ++ [(a : Int)]) ++ tl.flatMap fun i : Nat => treeT ps n m (row ++ [(i : Int)]) := by
        show (candTo ps row 0 n).flatMap _ = _
        rw [hc, List.flatMap_cons]
      refine ⟨?_, ⟨_, by rw [e, i2]; rfl⟩, i3, i4⟩
      rw [e, List.append_assoc, ← i1, rest_snoc, candTo_tail hc, show n - row.length - 1 = m by omega]
/-- what is behind a row is what Next tells, and what is behind that -/
theorem next_rest {ps : List (Int × Int)} {n : Nat} (hF : Full ps n) {q : List Int} (hv : VRow ps n q) :
    (nextP ps n q = none ∧ rest ps n q = []) ∨ ∃ q', nextP ps n q = some q' ∧ rest ps n q = q' :: rest ps n q' ∧ VRow ps n q' ∧ q'.length = n := by
  induction hv with
  | nil => exact .inl ⟨rfl, rfl⟩
  | @snoc row i hv hi hm ih =>
    rw [nextP_snoc, rest_snoc, cand_head]
    cases hc : candTo ps row (i + 1) n with
    | nil => simpa using ih
    | cons a tl =>
      right
      obtain ⟨h1, _, h3⟩ := mem_candTo.1 (show a ∈ candTo ps row (i + 1) n by rw [hc]; simp)
      have hv2 := VRow.snoc hv h1 h3
      have hl := (VRow.snoc hv hi hm).le
      rw [List.length_append, List.length_singleton] at hl
      obtain ⟨i1, ⟨t, i2⟩, i3, i4⟩ := fill_tree hF (m := n - row.length - 1) hv2 (by rw [List.length_append, List.length_singleton]; omega)
      have ef : fillP ps n (row ++ [(a : Int)]) = fillF ps n (n - row.length - 1 + 1) (row ++ [(a : Int)]) := by
        unfold fillP
        rw [List.length_append, List.length_singleton, show n - (row.length + 1) = n - row.length - 1 by omega]
      refine ⟨fillP ps n (row ++ [(a : Int)]), rfl, ?_, by rw [ef]; exact i4, by rw [ef]; exact i3⟩
      rw [List.flatMap_cons, List.append_assoc, ef, ← i1, rest_snoc, candTo_tail hc]
/-- the first row, and what is behind it -/
theorem first_rest {ps : List (Int × Int)} {n : Nat} (hF : Full ps n) :
    treeT ps n n [] = fillP ps n [] :: rest ps n (fillP ps n []) ∧ (fillP ps n []).length = n ∧ VRow ps n (fillP ps n []) := by
  obtain ⟨i1, _, i3, i4⟩ := fill_tree hF (m := n) (VRow.nil) (by simp)
  rw [rest_nil, List.append_nil] at i1
  have ef : fillP ps n [] = fillF ps n (n + 1) [] := rfl
  rw [ef]
  exact ⟨i1, i3, i4⟩
/-- fill leads along rows of the walk, with or without closed walks -/
theorem fillF_v {ps : List (Int × Int)} {n : Nat} : ∀ {m : Nat} {row : List Int}, VRow ps n row → VRow ps n (fillF ps n m row)
  | 0, _, h => h
  | m + 1, row, h => by
    show VRow ps n (match cand ps n row 0 with
      | none => row
      | some i => fillF ps n m (row ++ [(i : Int)]))
    cases hc : cand ps n row 0 with
    | none => exact h
    | some i =>
      obtain ⟨_, h2, h3, h4, _⟩ := cand_spec hc
      exact fillF_v (VRow.snoc h h2 (mayI_iff.2 ⟨h3, h4⟩))
/-- all rows of the tree are rows of the walk, of full length -/
theorem treeT_v {ps : List (Int × Int)} {n : Nat} : ∀ {m : Nat} {row : List Int}, VRow ps n row → row.length + m = n → ∀ q ∈ treeT ps n m row, VRow ps n q ∧ q.length = n
  | 0, row, h, hm, q, hq => by
    obtain rfl : q = row := by simpa [treeT] using hq
    exact ⟨h, by omega⟩
  | m + 1, row, h, hm, q, hq => by
    obtain ⟨i, hi, hq⟩ := List.mem_flatMap.1 hq
    obtain ⟨h1, _, h3⟩ := mem_candTo.1 hi
    exact treeT_v (VRow.snoc h h1 h3) (by rw [List.length_append, List.length_singleton]; omega) q hq
/-- a full row of the walk is in the tree -/
theorem treeT_mem {ps : List (Int × Int)} {n : Nat} {q : List Int} (hq : VRow ps n q) : ∀ {m : Nat}, q.length + m = n → ∀ r ∈ treeT ps n m q, r ∈ treeT ps n n [] := by
  induction hq with
  | nil => intro m hm r hr; obtain rfl : m = n := by simpa using hm
           exact hr
  | @snoc row i hv hi hm ih =>
    intro m hl r hr
    rw [List.length_append, List.length_singleton] at hl
    exact ih (m := m + 1) (by omega) r (List.mem_flatMap.2 ⟨i, mem_candTo.2 ⟨hi, Nat.zero_le _, hm⟩, hr⟩)
theorem treeT_full {ps : List (Int × Int)} {n : Nat} {q : List Int} (hq : VRow ps n q) (hl : q.length = n) : q ∈ treeT ps n n [] := treeT_mem hq (m := 0) hl q (by simp [treeT])
#print axioms next_rest
end Go.Proofs.Ytddpdjbgidmdlaa
