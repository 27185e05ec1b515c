/- Plain: the full rows of a walk respect the pairs; all orders, tried one by one, leave the same rows. -/
import Derived.Test.YtddpdjbgidmdlaaTree
namespace Go.Proofs.Ytddpdjbgidmdlaa
open Go.RowKit
set_option linter.unusedVariables false

theorem ahN_zero {ps : List (Int × Int)} {row : List Int} {k : Int} : ahN ps row k = 0 ↔ ∀ q ∈ ps, q.2 = k → q.1 ∈ row := by
  unfold ahN
  rw [List.countP_eq_zero]
  constructor
  · intro h q hq e
    have := h q hq
    simp only [Bool.and_eq_true, beq_iff_eq, Bool.not_eq_true', decide_eq_false_iff_not, not_and, Decidable.not_not] at this
    exact this e
  · intro h q hq
    simp only [Bool.and_eq_true, beq_iff_eq, Bool.not_eq_true', decide_eq_false_iff_not, not_and, Decidable.not_not]
    exact h q hq
/-- who must stand ahead stands ahead -/
theorem VRow.before {ps : List (Int × Int)} {n : Nat} {row : List Int} (h : VRow ps n row) {q : Int × Int} (hq : q ∈ ps) (hb : q.2 ∈ row) : ∃ r1 r2, row = r1 ++ q.2 :: r2 ∧ q.1 ∈ r1 ∧ q.2 ∉ r1 := by
  induction h with
  | nil => simp at hb
  | @snoc row i hv hi hm ih =>
    obtain ⟨m1, m2⟩ := mayI_iff.1 hm
    by_cases h1 : q.2 ∈ row
    · obtain ⟨r1, r2, e, h2, h3⟩ := ih h1
      exact ⟨r1, r2 ++ [(i : Int)], by rw [e]; simp, h2, h3⟩
    · have e : q.2 = (i : Int) := by
        rcases List.mem_append.1 hb with h | h
        · exact absurd h h1
        · exact List.mem_singleton.1 h
      exact ⟨row, [], by rw [e], ahN_zero.1 m2 q hq e, h1⟩
theorem placeI_split {r1 r2 : List Int} {b : Int} (hb : b ∉ r1) : placeI (r1 ++ b :: r2) b = (r1.length : Int) := by
  unfold placeI
  have e : (r1 ++ b :: r2).idxOf b = r1.length := by
    rw [List.idxOf_append, if_neg hb, List.idxOf_cons_self, Nat.zero_add]
  rw [e, if_pos (by simp)]
theorem placeI_left {r1 r2 : List Int} {a : Int} (ha : a ∈ r1) : 0 ≤ placeI (r1 ++ r2) a ∧ placeI (r1 ++ r2) a < (r1.length : Int) := by
  have h1 : r1.idxOf a < r1.length := List.idxOf_lt_length_iff.2 ha
  have e : (r1 ++ r2).idxOf a = r1.idxOf a := by rw [List.idxOf_append, if_pos ha]
  unfold placeI
  rw [e, if_pos (by rw [List.length_append]; omega)]
  omega
theorem placeI_right {r1 r2 : List Int} {a : Int} (ha : a ∉ r1) : placeI (r1 ++ r2) a < 0 ∨ (r1.length : Int) ≤ placeI (r1 ++ r2) a := by
  have e : (r1 ++ r2).idxOf a = r2.idxOf a + r1.length := by rw [List.idxOf_append, if_neg ha]
  unfold placeI
  split
  · right; rw [e]; omega
  · left; omega
theorem VRow.mem_all {ps : List (Int × Int)} {n : Nat} {row : List Int} (h : VRow ps n row) (hl : row.length = n) {k : Nat} (hk : k < n) : (k : Int) ∈ row := by
  have hg : goodP row := ⟨fun x hx => by rw [hl]; exact h.rg.2 x hx, h.rg.1⟩
  have := (good_iff row).1 hg k (by omega)
  exact List.count_pos_iff.1 (by omega)
theorem VRow.ok {ps : List (Int × Int)} {n : Nat} {row : List Int} (h : VRow ps n row) (hl : row.length = n) : okP row :=
  (good_iff row).1 ⟨fun x hx => by rw [hl]; exact h.rg.2 x hx, h.rg.1⟩
theorem VRow.resp {ps : List (Int × Int)} {n : Nat} {row : List Int} (h : VRow ps n row) (hl : row.length = n) (hok : PsOk ps n) : respB row ps = true := by
  unfold respB
  rw [Bool.and_eq_true, List.all_eq_true]
  refine ⟨fun q hq => ?_, (okB_iff _).2 (h.ok hl)⟩
  obtain ⟨p1, p2, p3, p4⟩ := hok q hq
  obtain ⟨y, hy⟩ := Int.eq_ofNat_of_zero_le p3
  have hm : q.2 ∈ row := by rw [hy]; exact h.mem_all hl (by omega)
  obtain ⟨r1, r2, e, h1, h2⟩ := h.before hq hm
  rw [pairB_iff, e, placeI_split h2]
  have := placeI_left (r2 := q.2 :: r2) h1
  omega
/-! all orders, tried one by one -/
def allL (ps : List (Int × Int)) (n : Nat) : Nat → List Int → List (List Int)
  | 0, row => if respB row ps then [row] else []
  | m + 1, row => ((List.range n).filter fun i : Nat => decide (placeI row (i : Int) < 0)).flatMap fun i : Nat => allL ps n m (row ++ [(i : Int)])
theorem placeI_neg {p : List Int} {x : Int} : placeI p x < 0 ↔ x ∉ p := by
  unfold placeI
  constructor
  · intro h hx
    rw [if_pos (List.idxOf_lt_length_iff.2 hx)] at h
    omega
  · intro h
    rw [if_neg fun h1 => h (List.idxOf_lt_length_iff.1 h1)]
    omega
theorem allL_dead {ps : List (Int × Int)} {n : Nat} {r : List Int} {q : Int × Int} (hq : q ∈ ps) (h1 : q.2 ∉ r) (h2 : q.1 ∉ r) : ∀ {m : Nat} {s : List Int}, allL ps n m (r ++ q.2 :: s) = []
  | 0, s => by
    have hp : pairB (r ++ q.2 :: s) q = false := by
      rw [← Bool.not_eq_true, pairB_iff, placeI_split h1]
      have := placeI_right (r2 := q.2 :: s) h2
      omega
    have : respB (r ++ q.2 :: s) ps = false := by
      unfold respB
      have h3 : ps.all (pairB (r ++ q.2 :: s)) = false := List.all_eq_false.2 ⟨q, hq, by simp [hp]⟩
      rw [h3]; rfl
    show (if respB (r ++ q.2 :: s) ps then [r ++ q.2 :: s] else []) = []
    rw [this]; rfl
  | m + 1, s => by
    show List.flatMap _ _ = []
    rw [List.flatMap_eq_nil_iff]
    intro i hi
    have := allL_dead (n := n) hq h1 h2 (m := m) (s := s ++ [(i : Int)])
    simpa using this
theorem flatMap_drop {l : List Nat} {p p' : Nat → Bool} {f g : Nat → List (List Int)} (h1 : ∀ i ∈ l, p' i = true → p i = true ∧ f i = g i) (h2 : ∀ i ∈ l, p i = true → p' i = false → f i = []) : (l.filter p).flatMap f = (l.filter p').flatMap g := by
  induction l with
  | nil => rfl
  | cons a l ih =>
    have ih' := ih (fun i hi => h1 i (List.mem_cons_of_mem _ hi)) fun i hi => h2 i (List.mem_cons_of_mem _ hi)
    rw [List.filter_cons, List.filter_cons]
    cases hp' : p' a with
    | true =>
      obtain ⟨e1, e2⟩ := h1 a (by simp) hp'
      rw [e1, if_pos rfl, if_pos rfl, List.flatMap_cons, List.flatMap_cons, ih', e2]
    | false =>
      cases hp : p a with
      | true => rw [if_pos rfl, if_neg (by simp), List.flatMap_cons, h2 a (by simp) hp hp', List.nil_append, ih']
      | false => rw [if_neg (by simp), if_neg (by simp), ih']
theorem allL_tree {ps : List (Int × Int)} {n : Nat} (hok : PsOk ps n) : ∀ {m : Nat} {row : List Int}, VRow ps n row → row.length + m = n → allL ps n m row = treeT ps n m row
  | 0, row, h, hm => by
    show (if respB row ps then [row] else []) = [row]
    rw [h.resp (by omega) hok]; rfl
  | m + 1, row, h, hm => by
    show ((List.range n).filter fun i : Nat => decide (placeI row (i : Int) < 0)).flatMap (fun i : Nat => allL ps n m (row ++ [(i : Int)])) = ((List.range n).filter fun i => decide (0 ≤ i) && mayI ps row i).flatMap fun i : Nat => treeT ps n m (row ++ [(i : Int)])
    refine flatMap_drop (fun i hi hp => ?_) fun i hi hp hp' => ?_
    · have hm1 : mayI ps row i = true := by simpa using hp
      have hin : i < n := by simpa using hi
      exact ⟨decide_eq_true (placeI_neg.2 (mayI_iff.1 hm1).1), allL_tree hok (VRow.snoc h hin hm1) (by rw [List.length_append, List.length_singleton]; omega)⟩
    · have h1 : (i : Int) ∉ row := placeI_neg.1 (of_decide_eq_true hp)
      have h2 : ¬ ahN ps row (i : Int) = 0 := fun h3 => by
        have : mayI ps row i = true := mayI_iff.2 ⟨h1, h3⟩
        rw [this] at hp'
        simp at hp'
      rw [ahN_zero] at h2
      have h3 : ∃ q ∈ ps, q.2 = (i : Int) ∧ q.1 ∉ row := by
        apply Classical.byContradiction
        intro hc
        exact h2 fun q hq e => Classical.byContradiction fun h4 => hc ⟨q, hq, e, h4⟩
      obtain ⟨q, hq, e, h4⟩ := h3
      have := allL_dead hq (n := n) (by rw [e]; exact h1) h4 (m := m) (s := [])
      rw [e] at this
      exact this
#print axioms allL_tree
end Go.Proofs.Ytddpdjbgidmdlaa
