/- Plain: who is taken away, again and again, with nobody ahead: it leaves some just if the pairs have a closed walk. -/
import Derived.Test.YtddpdjbgidmdlaaTree2
namespace Go.Proofs.Ytddpdjbgidmdlaa
open Go.RowKit
set_option linter.unusedVariables false

def freeB (ps : List (Int × Int)) (g : Nat → Bool) (i : Nat) : Bool := ps.all fun q => q.2 != (i : Int) || g q.1.toNat
def stp (ps : List (Int × Int)) (g : Nat → Bool) (i : Nat) : Nat → Bool := fun j => if j = i then g i || freeB ps g i else g j
def stps (ps : List (Int × Int)) (g : Nat → Bool) : Nat → Nat → Bool
  | 0 => g
  | i + 1 => stp ps (stps ps g i) i
def pss (ps : List (Int × Int)) (n : Nat) : Nat → Nat → Bool
  | 0 => fun _ => false
  | t + 1 => stps ps (pss ps n t) n
def closedB (ps : List (Int × Int)) (n : Nat) : Bool := (List.range n).any fun i => !pss ps n n i
theorem freeB_iff {ps : List (Int × Int)} {g : Nat → Bool} {i : Nat} : freeB ps g i = true ↔ ∀ q ∈ ps, q.2 = (i : Int) → g q.1.toNat = true := by
  unfold freeB
  rw [List.all_eq_true]
  constructor
  · intro h q hq e
    have := h q hq
    simpa [e] using this
  · intro h q hq
    by_cases e : q.2 = (i : Int)
    · simp [h q hq e]
    · have : (q.2 != (i : Int)) = true := by simpa using e
      rw [this]; rfl
theorem stp_mono {ps : List (Int × Int)} {g : Nat → Bool} {i j : Nat} (h : g j = true) : stp ps g i j = true := by
  unfold stp
  split
  · rename_i e; subst e; rw [h]; rfl
  · exact h
theorem stps_mono {ps : List (Int × Int)} {g : Nat → Bool} {j : Nat} (h : g j = true) : ∀ i, stps ps g i j = true
  | 0 => h
  | i + 1 => stp_mono (stps_mono h i)
/-- a state that rows of the walk reach -/
def Reach (ps : List (Int × Int)) (n : Nat) (g : Nat → Bool) : Prop := ∃ row, VRow ps n row ∧ ∀ j, j < n → (g j = true ↔ (j : Int) ∈ row)
theorem Reach.stp {ps : List (Int × Int)} {n : Nat} {g : Nat → Bool} (hok : PsOk ps n) (h : Reach ps n g) {i : Nat} (hi : i < n) : Reach ps n (stp ps g i) := by
  obtain ⟨row, hv, hr⟩ := h
  by_cases h1 : g i = false ∧ freeB ps g i = true
  · have hn : (i : Int) ∉ row := fun hm => by
      have := (hr i hi).2 hm
      rw [h1.1] at this; cases this
    have ha : ahN ps row (i : Int) = 0 := ahN_zero.2 fun q hq e => by
      have h2 := freeB_iff.1 h1.2 q hq e
      obtain ⟨p1, p2, _, _⟩ := hok q hq
      obtain ⟨x, hx⟩ := Int.eq_ofNat_of_zero_le p1
      rw [hx, Int.toNat_natCast] at h2
      rw [hx]
      exact (hr x (by omega)).1 h2
    refine ⟨row ++ [(i : Int)], VRow.snoc hv hi (mayI_iff.2 ⟨hn, ha⟩), fun j hj => ?_⟩
    unfold Proofs.Ytddpdjbgidmdlaa.stp
    by_cases e : j = i
    · subst e
      simp [h1.2]
    · rw [if_neg e, hr j hj, List.mem_append, List.mem_singleton]
      exact ⟨.inl, fun h => h.resolve_right (by omega)⟩
  · have e : ∀ j, Proofs.Ytddpdjbgidmdlaa.stp ps g i j = g j := fun j => by
      unfold Proofs.Ytddpdjbgidmdlaa.stp
      by_cases e : j = i
      · subst e
        rw [if_pos rfl]
        cases hg : g j with
        | true => rfl
        | false =>
          cases hf : freeB ps g j with
          | true => exact absurd ⟨hg, hf⟩ h1
          | false => rfl
      · rw [if_neg e]
    exact ⟨row, hv, fun j hj => by rw [e]; exact hr j hj⟩
theorem Reach.stps {ps : List (Int × Int)} {n : Nat} {g : Nat → Bool} (hok : PsOk ps n) (h : Reach ps n g) : ∀ {i : Nat}, i ≤ n → Reach ps n (stps ps g i)
  | 0, _ => h
  | i + 1, hi => (h.stps hok (i := i) (by omega)).stp hok (by omega)
theorem reach_pss {ps : List (Int × Int)} {n : Nat} (hok : PsOk ps n) : ∀ t, Reach ps n (pss ps n t)
  | 0 => ⟨[], VRow.nil, fun j hj => by simp [pss]⟩
  | t + 1 => (reach_pss hok t).stps hok (Nat.le_refl n)
theorem exists_first {q r : List Int} (h : ∃ x ∈ q, x ∉ r) : ∃ q1 x q2, q = q1 ++ x :: q2 ∧ (∀ y ∈ q1, y ∈ r) ∧ x ∉ r := by
  induction q with
  | nil => obtain ⟨x, hx, _⟩ := h; simp at hx
  | cons a q ih =>
    by_cases ha : a ∈ r
    · obtain ⟨x, hx, hn⟩ := h
      rcases List.mem_cons.1 hx with e | e
      · exact absurd ha (by rw [← e]; exact hn)
      · obtain ⟨q1, y, q2, e1, h2, h3⟩ := ih ⟨x, e, hn⟩
        refine ⟨a :: q1, y, q2, by rw [e1]; rfl, fun z hz => ?_, h3⟩
        rcases List.mem_cons.1 hz with e | e
        · rw [e]; exact ha
        · exact h2 z e
    · exact ⟨[], a, q, rfl, fun y hy => by simp at hy, ha⟩
theorem nodup_full {n : Nat} {r : List Int} (h : r.Nodup) (h2 : ∀ k : Nat, k < n → (k : Int) ∈ r) : n ≤ r.length := by
  have h3 := sumC_ones (p := r) n fun i hi => by rw [List.Nodup.count h, if_pos (h2 i hi)]
  rw [sumC_eq] at h3
  have h4 : r.countP (fun x : Int => decide (0 ≤ x ∧ x < (n : Int))) ≤ r.length := List.countP_le_length
  omega
/-- one full row: then no row is a dead end -/
theorem full_of {ps : List (Int × Int)} {n : Nat} (hok : PsOk ps n) {q : List Int} (hq : VRow ps n q) (hl : ∀ k : Nat, k < n → (k : Int) ∈ q) : Full ps n := by
  intro r hr hlt hc
  have h1 : ∃ x ∈ q, x ∉ r := by
    apply Classical.byContradiction
    intro hno
    have : n ≤ r.length := nodup_full hr.rg.1 fun k hk => Classical.byContradiction fun h => hno ⟨_, hl k hk, h⟩
    omega
  obtain ⟨q1, x, q2, e, h2, h3⟩ := exists_first h1
  obtain ⟨b1, b2⟩ := hq.rg.2 x (by rw [e]; simp)
  obtain ⟨y, rfl⟩ := Int.eq_ofNat_of_zero_le b1
  have hm : mayI ps r y = true := mayI_iff.2 ⟨h3, ahN_zero.2 fun p hp ep => by
    obtain ⟨r1, r2, e1, h4, h5⟩ := hq.before hp (by rw [ep, e]; simp)
    rw [ep] at e1 h5
    have hnd := hq.rg.1
    have h6 : q1 = r1 := by
      have hq1 : (y : Int) ∉ q1 := by
        rw [e, List.nodup_append] at hnd
        exact fun hy => hnd.2.2 _ hy _ (by simp) rfl
      have i1 : q.idxOf (y : Int) = q1.length := by rw [e, List.idxOf_append, if_neg hq1, List.idxOf_cons_self, Nat.zero_add]
      have i2 : q.idxOf (y : Int) = r1.length := by rw [e1, List.idxOf_append, if_neg h5, List.idxOf_cons_self, Nat.zero_add]
      have h7 : q.take q1.length = q1 := by rw [e]; simp
      have h8 : q.take r1.length = r1 := by rw [e1]; simp
      rw [← h7, ← h8, ← i1, ← i2]
    exact h2 _ (by rw [h6]; exact h4)⟩
  have : y ∈ candTo ps r 0 n := mem_candTo.2 ⟨by omega, Nat.zero_le _, hm⟩
  rw [hc] at this
  simp at this
theorem full_of_open {ps : List (Int × Int)} {n : Nat} (hok : PsOk ps n) (h : closedB ps n = false) : Full ps n := by
  obtain ⟨q, hv, hr⟩ := reach_pss hok n
  refine full_of hok hv fun k hk => (hr k hk).1 ?_
  unfold closedB at h
  rw [List.any_eq_false] at h
  have := h k (by simpa using hk)
  simpa using this
/-! the passes come to an end -/
def same (n : Nat) (g h : Nat → Bool) : Prop := ∀ j, j < n → g j = h j
/-- a pass that changes nothing: nobody who is left is free -/
theorem stall {ps : List (Int × Int)} {n : Nat} {g : Nat → Bool} (h : same n (stps ps g n) g) : ∀ {i : Nat}, i ≤ n → same n (stps ps g i) g
  | i, hi => by
    intro j hj
    cases hg : g j with
    | true => exact stps_mono hg i
    | false =>
      cases hc : stps ps g i j with
      | false => rfl
      | true =>
        have : ∀ k, stps ps g (i + k) j = true := fun k => by
          induction k with
          | zero => exact hc
          | succ k ih => exact stp_mono ih
        have h2 := this (n - i)
        rw [show i + (n - i) = n by omega, h j hj, hg] at h2
        cases h2
theorem free_congr {ps : List (Int × Int)} {n : Nat} (hok : PsOk ps n) {g h : Nat → Bool} (e : same n g h) (i : Nat) : freeB ps g i = freeB ps h i := by
  rw [Bool.eq_iff_iff, freeB_iff, freeB_iff]
  have : ∀ q ∈ ps, g q.1.toNat = h q.1.toNat := fun q hq => e _ (by have := hok q hq; omega)
  constructor
  · intro h1 q hq e1; rw [← this q hq]; exact h1 q hq e1
  · intro h1 q hq e1; rw [this q hq]; exact h1 q hq e1
theorem stall_free {ps : List (Int × Int)} {n : Nat} (hok : PsOk ps n) {g : Nat → Bool} (h : same n (stps ps g n) g) {i : Nat} (hi : i < n) (hg : g i = false) : freeB ps g i = false := by
  have h1 := stall h (i := i + 1) (by omega) i hi
  have h2 : stps ps g (i + 1) i = (stps ps g i i || freeB ps (stps ps g i) i) := if_pos rfl
  rw [h2, stall h (i := i) (by omega) i hi, free_congr hok (stall h (i := i) (by omega)) i, hg] at h1
  simpa using h1
theorem stps_congr {ps : List (Int × Int)} {n : Nat} (hok : PsOk ps n) {g h : Nat → Bool} (e : same n g h) : ∀ {i : Nat}, i ≤ n → same n (stps ps g i) (stps ps h i)
  | 0, _ => e
  | i + 1, hi => by
    have ih := stps_congr hok e (i := i) (by omega)
    intro j hj
    show stp ps (stps ps g i) i j = stp ps (stps ps h i) i j
    unfold stp
    rw [ih i (by omega), free_congr hok ih i, ih j hj]
/-- how many are gone -/
def goneN (n : Nat) (g : Nat → Bool) : Nat := (List.range n).countP g
theorem goneN_mono {n : Nat} {g h : Nat → Bool} (hm : ∀ j, j < n → g j = true → h j = true) : goneN n g ≤ goneN n h := by
  unfold goneN
  exact List.countP_mono_left fun j hj => hm j (by simpa using hj)
theorem goneN_less {n : Nat} {g h : Nat → Bool} (hm : ∀ j, j < n → g j = true → h j = true) (hne : ¬ same n h g) : goneN n g < goneN n h := by
  have h1 : ∃ j, j < n ∧ g j = false ∧ h j = true := by
    apply Classical.byContradiction
    intro hno
    refine hne fun j hj => ?_
    cases hg : g j with
    | true => exact hm j hj hg
    | false =>
      cases hh : h j with
      | false => rfl
      | true => exact absurd ⟨j, hj, hg, hh⟩ hno
  obtain ⟨j, hj, hg, hh⟩ := h1
  unfold goneN
  induction n with
  | zero => omega
  | succ n ih =>
    rw [List.range_succ, List.countP_append, List.countP_append, List.countP_singleton, List.countP_singleton]
    have hle : (List.range n).countP g ≤ (List.range n).countP h := List.countP_mono_left fun k hk => hm k (Nat.lt_succ_of_lt (by simpa using hk))
    by_cases e : j = n
    · subst e
      rw [hg, hh]; simp; omega
    · have hj' : j < n := by omega
      have := ih (fun j hj => hm j (by omega)) (fun hs => by have := hs j hj'; rw [hg, hh] at this; cases this) hj'
      have h3 : (if g n = true then 1 else 0) ≤ (if h n = true then 1 else 0) := by
        by_cases hgn : g n = true
        · rw [if_pos hgn, if_pos (hm n (by omega) hgn)]; omega
        · rw [if_neg hgn]; exact Nat.zero_le _
      omega
theorem passes {ps : List (Int × Int)} {n : Nat} : ∀ t, t ≤ goneN n (pss ps n t) ∨ ∃ s, s < t ∧ same n (pss ps n (s + 1)) (pss ps n s)
  | 0 => .inl (Nat.zero_le _)
  | t + 1 => by
    rcases passes (ps := ps) (n := n) t with h | ⟨s, h1, h2⟩
    · by_cases e : same n (pss ps n (t + 1)) (pss ps n t)
      · exact .inr ⟨t, by omega, e⟩
      · have := goneN_less (g := pss ps n t) (h := pss ps n (t + 1)) (fun j hj hg => stps_mono hg n) e
        exact .inl (by omega)
    · exact .inr ⟨s, by omega, h2⟩
theorem same_on {ps : List (Int × Int)} {n : Nat} (hok : PsOk ps n) {s : Nat} (h : same n (pss ps n (s + 1)) (pss ps n s)) : ∀ k, same n (pss ps n (s + k)) (pss ps n s)
  | 0 => fun j hj => rfl
  | k + 1 => fun j hj => by
    have ih := same_on hok h k
    have := stps_congr hok ih (Nat.le_refl n) j hj
    rw [show s + (k + 1) = s + k + 1 by omega]
    exact this.trans (h j hj)
theorem goneN_full {n : Nat} {g : Nat → Bool} (h : n ≤ goneN n g) : ∀ j, j < n → g j = true := by
  have h1 : (List.range n).countP g = (List.range n).length := by
    have h2 : (List.range n).countP g ≤ (List.range n).length := List.countP_le_length
    have h3 : (List.range n).length = n := by simp
    unfold goneN at h
    omega
  rw [List.countP_eq_length] at h1
  exact fun j hj => h1 j (by simpa using hj)
/-- a closed walk: no row is full -/
theorem none_of_closed {ps : List (Int × Int)} {n : Nat} (hok : PsOk ps n) (h : closedB ps n = true) {q : List Int} (hq : VRow ps n q) : q.length ≠ n := by
  intro hl
  unfold closedB at h
  rw [List.any_eq_true] at h
  obtain ⟨i, hi, hg⟩ := h
  have hin : i < n := by simpa using hi
  have hgi : pss ps n n i = false := by simpa using hg
  rcases passes (ps := ps) (n := n) n with h1 | ⟨s, h1, h2⟩
  · rw [goneN_full h1 i hin] at hgi; cases hgi
  · have h3 := same_on hok h2 (n - s)
    rw [show s + (n - s) = n by omega] at h3
    rw [h3 i hin] at hgi
    have key : ∀ {r : List Int}, VRow ps n r → ∀ k : Nat, k < n → (k : Int) ∈ r → pss ps n s k = true := by
      intro r hr
      induction hr with
      | nil => intro k _ hk; simp at hk
      | @snoc row j hv hj hm ih =>
        intro k hk hmem
        rcases List.mem_append.1 hmem with h4 | h4
        · exact ih k hk h4
        · rw [List.mem_singleton] at h4
          obtain rfl : k = j := by omega
          cases hgk : pss ps n s k with
          | true => rfl
          | false =>
            have h5 := stall_free hok h2 hk hgk
            have h6 : freeB ps (pss ps n s) k = true := freeB_iff.2 fun q hq e => by
              have h7 := ahN_zero.1 (mayI_iff.1 hm).2 q hq e
              obtain ⟨p1, p2, _, _⟩ := hok q hq
              obtain ⟨x, hx⟩ := Int.eq_ofNat_of_zero_le p1
              rw [hx] at h7 p2
              rw [hx, Int.toNat_natCast]
              exact ih x (by omega) h7
            rw [h6] at h5; cases h5
    rw [key hq i hin (hq.mem_all hl hin)] at hgi
    cases hgi
/-- is there an order that respects the pairs? -/
theorem any_iff {ps : List (Int × Int)} {n : Nat} (hok : PsOk ps n) : (closedB ps n = false → Full ps n ∧ (fillP ps n []).length = n ∧ treeT ps n n [] ≠ []) ∧ (closedB ps n = true → (fillP ps n []).length ≠ n ∧ treeT ps n n [] = []) := by
  constructor
  · intro h
    have hF := full_of_open hok h
    obtain ⟨h1, h2, _⟩ := first_rest hF
    exact ⟨hF, h2, by rw [h1]; simp⟩
  · intro h
    refine ⟨none_of_closed hok h (fillF_v VRow.nil), ?_⟩
    rw [List.eq_nil_iff_forall_not_mem]
    intro q hq
    obtain ⟨h1, h2⟩ := treeT_v (m := n) VRow.nil (by simp) q hq
    exact none_of_closed hok h h1 h2
#print axioms any_iff
end Go.Proofs.Ytddpdjbgidmdlaa
