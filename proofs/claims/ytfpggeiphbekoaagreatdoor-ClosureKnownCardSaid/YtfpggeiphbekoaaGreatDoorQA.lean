/- Plain: edges put one by one into the sets of a closure: in whatever order, the same; the needed edges lead to the same, and none of them is spare. -/
import Derived.Test.YtfpggeiphbekoaaGreatDoorA6
namespace Go.Proofs.YtfpggeiphbekoaaGreatDoor
set_option linter.unusedVariables false

/-- the sets of a closure: to whom nodes lead, who leads to them, the edges -/
structure S3 where
  dn : Nat → Nat
  up : Nat → Nat
  ed : Nat → Nat
def zS : S3 := ⟨fun _ => 0, fun _ => 0, fun _ => 0⟩
def addS (n : Nat) (s : S3) (q : Nat × Nat) : S3 := ⟨addDn n s.dn s.up s.ed q.1 q.2, addUp n s.dn s.up s.ed q.1 q.2, addEd n s.ed q.1 q.2⟩
def allS (n : Nat) (s : S3) (l : List (Nat × Nat)) : S3 := l.foldl (addS n) s
theorem allS_snoc (n : Nat) (s : S3) (l : List (Nat × Nat)) (q : Nat × Nat) : allS n s (l ++ [q]) = addS n (allS n s l) q := by simp [allS]
def InN (n : Nat) (l : List (Nat × Nat)) : Prop := ∀ q ∈ l, q.1 < n ∧ q.2 < n
/-- the sets are those of the edges that a row has -/
structure Is (n : Nat) (s : S3) (E : Nat → Nat → Prop) : Prop where
  ok : CloOk n s.dn s.up s.ed
  ed : ∀ i j, edgeP (edgesTo n s.ed n) i j ↔ E i j
theorem Is.start (n : Nat) : Is n zS fun _ _ => False := ⟨CloOk.start n, fun i j => ⟨fun h => by have := (edgeP_iff.1 h).2.2; simp [zS] at this, False.elim⟩⟩
theorem Is.congr {n : Nat} {s : S3} {E E' : Nat → Nat → Prop} (h : Is n s E) (he : ∀ i j, E i j ↔ E' i j) : Is n s E' := ⟨h.ok, fun i j => (h.ed i j).trans (he i j)⟩
theorem addEd_iff {n f t : Nat} {ed : Nat → Nat} (hf : f < n) (ht : t < n) (i j : Nat) : edgeP (edgesTo n (addEd n ed f t) n) i j ↔ addE (edgeP (edgesTo n ed n)) f t i j := by
  rw [edgeP_iff]
  unfold addE
  rw [edgeP_iff]
  unfold addEd
  constructor
  · rintro ⟨h1, h2, h3⟩
    by_cases e : i = f
    · subst e
      rw [if_pos rfl, addX_testBit ht] at h3
      simp only [Bool.or_eq_true, decide_eq_true_eq] at h3
      rcases h3 with h3 | h3
      · exact .inl ⟨h1, h2, h3⟩
      · exact .inr ⟨rfl, h3.symm⟩
    · rw [if_neg e] at h3; exact .inl ⟨h1, h2, h3⟩
  · rintro (⟨h1, h2, h3⟩ | ⟨rfl, rfl⟩)
    · refine ⟨h1, h2, ?_⟩
      by_cases e : i = f
      · subst e; rw [if_pos rfl, addX_testBit ht, h3]; rfl
      · rw [if_neg e]; exact h3
    · exact ⟨hf, ht, by rw [if_pos rfl, addX_testBit ht]; simp⟩
theorem Is.add {n : Nat} {s : S3} {E : Nat → Nat → Prop} (h : Is n s E) {q : Nat × Nat} (hq : q.1 < n ∧ q.2 < n) : Is n (addS n s q) (addE E q.1 q.2) :=
  ⟨h.ok.add hq.1 hq.2, fun i j => by
    show edgeP (edgesTo n (addEd n s.ed q.1 q.2) n) i j ↔ _
    rw [addEd_iff hq.1 hq.2]
    unfold addE
    rw [h.ed]⟩
theorem Is.all {n : Nat} : ∀ {l : List (Nat × Nat)} {s : S3} {E : Nat → Nat → Prop}, Is n s E → InN n l → Is n (allS n s l) fun i j => E i j ∨ (i, j) ∈ l
  | [], s, E, h, _ => h.congr fun i j => by simp
  | q :: l, s, E, h, hl => by
    have h1 := Is.all (h.add (hl q (by simp))) fun x hx => hl x (List.mem_cons_of_mem _ hx)
    refine (show Is n (allS n s (q :: l)) _ from h1).congr fun i j => ?_
    unfold addE
    obtain ⟨a, b⟩ := q
    simp only [List.mem_cons, Prod.mk.injEq]
    constructor
    · rintro ((h | h) | h)
      · exact .inl h
      · exact .inr (.inl h)
      · exact .inr (.inr h)
    · rintro (h | h | h)
      · exact .inl (.inl h)
      · exact .inl (.inr h)
      · exact .inr h
theorem allX_congr {n X Y : Nat} (h : ∀ i, i < n → X.testBit i = Y.testBit i) : allX n X = allX n Y := by
  unfold allX
  rw [List.filter_congr fun i hi => h i (List.mem_range.1 hi)]
section
variable {n : Nat} {s s' : S3} {E : Nat → Nat → Prop}
theorem Is.lt (h : Is n s E) (i j : Nat) (he : E i j) : i < n ∧ j < n := edgeP_lt i j ((h.ed i j).2 he)
theorem Is.dn (h : Is n s E) {i j : Nat} (hi : i < n) (hj : j < n) : (s.dn i).testBit j = true ↔ Way E i j := by rw [h.ok.dn i j hi hj, Way.congr h.ed]
theorem Is.up (h : Is n s E) {i j : Nat} (hi : i < n) (hj : j < n) : (s.up j).testBit i = true ↔ Way E i j := by rw [h.ok.up i j hi hj, Way.congr h.ed]
/-- the ways alone count -/
theorem Is.same {E' : Nat → Nat → Prop} (h : Is n s E) (h' : Is n s' E') (hw : ∀ i j, Way E i j ↔ Way E' i j) : ∀ i, i < n → allX n (s.dn i) = allX n (s'.dn i) ∧ allX n (s.up i) = allX n (s'.up i) := fun i hi =>
  ⟨allX_congr fun j hj => by rw [Bool.eq_iff_iff, h.dn hi hj, h'.dn hi hj, hw], allX_congr fun j hj => by rw [Bool.eq_iff_iff, h.up hj hi, h'.up hj hi, hw]⟩
theorem Is.edges {E' : Nat → Nat → Prop} (h : Is n s E) (h' : Is n s' E') (hw : ∀ i j, E i j ↔ E' i j) : edgesTo n s.ed n = edgesTo n s'.ed n := by
  refine srt_ext (srt_edgesTo _ _ _) (srt_edgesTo _ _ _) fun ⟨a, b⟩ => ?_
  have key : ∀ (ed : Nat → Nat), (a, b) ∈ edgesTo n ed n ↔ 0 ≤ a ∧ 0 ≤ b ∧ edgeP (edgesTo n ed n) a.toNat b.toNat := fun ed => by
    constructor
    · intro h
      obtain ⟨i, j, rfl, rfl, _⟩ := mem_edgesTo.1 h
      exact ⟨by omega, by omega, h⟩
    · rintro ⟨h1, h2, h3⟩
      unfold edgeP at h3
      rw [Int.toNat_of_nonneg h1, Int.toNat_of_nonneg h2] at h3
      exact h3
  rw [key, key, h.ed, h'.ed, hw]
theorem Is.leads (h : Is n s E) {i j : Nat} (hi : i < n) (hj : j < n) : leadsB n s.dn (i : Int) (j : Int) = true ↔ Way E i j := by rw [leadsB_nat hi, h.dn hi hj]
theorem Is.cyc (h : Is n s E) : cycB n s.dn = true ↔ ∃ i, Way E i i := by
  unfold cycB
  rw [decide_eq_true_eq]
  constructor
  · intro hc
    obtain ⟨x, hx⟩ := List.exists_mem_of_length_pos hc
    unfold loopsTo at hx
    obtain ⟨i, hi, _⟩ := List.mem_map.1 hx
    obtain ⟨h1, h2⟩ := List.mem_filter.1 hi
    have hi' := List.mem_range.1 h1
    exact ⟨i, (h.dn hi' hi').1 h2⟩
  · rintro ⟨i, hw⟩
    have hi := (hw.lt h.lt).1
    have hm : (i : Int) ∈ loopsTo s.dn n := by
      unfold loopsTo
      exact List.mem_map.2 ⟨i, List.mem_filter.2 ⟨List.mem_range.2 hi, (h.dn hi hi).2 hw⟩, rfl⟩
    exact List.length_pos_of_mem hm
/-- the rows as Nats -/
def natsP (l : List (Int × Int)) : List (Nat × Nat) := l.map fun q => (q.1.toNat, q.2.toNat)
/-- the edges that are needed -/
theorem Is.least (h : Is n s E) (hc : cycB n s.dn = false) {i j : Nat} : ((i : Int), (j : Int)) ∈ leastL n s.dn s.ed ↔ needE E i j := by
  unfold leastL
  rw [if_neg (by simp [hc]), List.mem_filter]
  unfold needE
  have he : ((i : Int), (j : Int)) ∈ edgesTo n s.ed n ↔ E i j := h.ed i j
  rw [he]
  constructor
  · rintro ⟨h1, h2⟩
    refine ⟨h1, ?_⟩
    rintro ⟨k, h3, h4, h5⟩
    obtain ⟨hi, hk⟩ := h.lt _ _ h3
    have hj := (h.lt _ _ h1).2
    unfold neededB at h2
    rw [List.all_eq_true] at h2
    have hN : ofN n (i : Int) = n := by unfold ofN; rw [if_pos (by omega)]
    have hM : ofM n s.ed (i : Int) = s.ed i := by unfold ofM; rw [if_pos (by omega)]; rfl
    have := h2 (k : Int) (by rw [hN, hM]; exact mem_allX.2 ⟨k, rfl, hk, (edgeP_iff.1 ((h.ed i k).2 h3)).2.2⟩)
    rw [(h.leads hk hj).2 h5] at this
    simp at this
    exact h4 (by omega)
  · rintro ⟨h1, h2⟩
    refine ⟨h1, ?_⟩
    obtain ⟨hi, hj⟩ := h.lt _ _ h1
    show neededB n s.dn s.ed (i : Int) (j : Int) = true
    unfold neededB
    have hN : ofN n (i : Int) = n := by unfold ofN; rw [if_pos (by omega)]
    have hM : ofM n s.ed (i : Int) = s.ed i := by unfold ofM; rw [if_pos (by omega)]; rfl
    rw [hN, hM, List.all_eq_true]
    intro z hz
    obtain ⟨x, rfl, hx, hxb⟩ := mem_allX.1 hz
    by_cases e : x = j
    · subst e; simp
    · cases ht : leadsB n s.dn (x : Int) (j : Int)
      · simp
      · exact absurd ⟨x, (h.ed i x).1 (edgeP_iff.2 ⟨hi, hx, hxb⟩), e, (h.leads hx hj).1 ht⟩ h2
theorem least_sub {dn ed : Nat → Nat} {q : Int × Int} (h : q ∈ leastL n dn ed) : q ∈ edgesTo n ed n := by
  unfold leastL at h
  split at h
  · simp at h
  · exact (List.mem_filter.1 h).1
theorem least_srt (dn ed : Nat → Nat) : Srt (leastL n dn ed) := by
  unfold leastL
  split
  · exact List.Pairwise.nil
  · exact List.Pairwise.filter _ (srt_edgesTo n ed n)
theorem edges_nat {ed : Nat → Nat} {q : Int × Int} (h : q ∈ edgesTo n ed n) : ∃ i j : Nat, q = ((i : Int), (j : Int)) ∧ i < n ∧ j < n := by
  obtain ⟨a, b⟩ := q
  obtain ⟨i, j, rfl, rfl, h1, h2, _⟩ := mem_edgesTo.1 h
  exact ⟨i, j, rfl, h1, h2⟩
theorem mem_natsP {l : List (Int × Int)} (hl : ∀ q ∈ l, 0 ≤ q.1 ∧ 0 ≤ q.2) {i j : Nat} : (i, j) ∈ natsP l ↔ ((i : Int), (j : Int)) ∈ l := by
  unfold natsP
  rw [List.mem_map]
  constructor
  · rintro ⟨⟨a, b⟩, h1, h2⟩
    obtain ⟨h3, h4⟩ := hl _ h1
    simp only [Prod.mk.injEq] at h2
    obtain ⟨rfl, rfl⟩ := h2
    simp only at h3 h4
    rw [Int.toNat_of_nonneg h3, Int.toNat_of_nonneg h4]; exact h1
  · intro h
    exact ⟨_, h, by simp⟩
/-- of no closed way: no needed edge means no edge -/
theorem Is.none (h : Is n s E) (hc : cycB n s.dn = false) (h0 : leastL n s.dn s.ed = []) : edgesTo n s.ed n = [] := by
  apply List.eq_nil_iff_forall_not_mem.2
  intro q hq
  obtain ⟨i, j, rfl, hi, hj⟩ := edges_nat hq
  have he : E i j := (h.ed i j).1 hq
  have hcyc : ∀ i, ¬ Way E i i := fun i hw => by have := h.cyc.2 ⟨i, hw⟩; rw [hc] at this; cases this
  obtain ⟨k, h1, _⟩ := ((way_need h.lt hcyc).2 (.one he)).first
  have := (h.least hc).2 h1
  rw [h0] at this
  simp at this
theorem srt_ne {l : List (Int × Int)} (hs : Srt l) {i j : Nat} (hi : i < l.length) (hj : j < l.length) (h : l[i] = l[j]) : i = j := by
  rcases Nat.lt_trichotomy i j with c | c | c
  · have := List.pairwise_iff_getElem.1 hs i j hi hj c
    rw [h, lessP_irr] at this; cases this
  · exact c
  · have := List.pairwise_iff_getElem.1 hs j i hj hi c
    rw [h, lessP_irr] at this; cases this
/-- a sorted row without one of its edges -/
theorem srt_skip {l : List (Int × Int)} (hs : Srt l) {o : Nat} (ho : o < l.length) {x : Int × Int} : x ∈ l.eraseIdx o ↔ x ∈ l ∧ x ≠ l[o] := by
  rw [List.mem_eraseIdx_iff_getElem]
  constructor
  · rintro ⟨k, hk, h1, rfl⟩
    exact ⟨List.getElem_mem _, fun e => h1 (srt_ne hs _ _ e)⟩
  · rintro ⟨h1, h2⟩
    obtain ⟨k, hk, rfl⟩ := List.getElem_of_mem h1
    exact ⟨k, hk, fun e => h2 (by subst e; rfl), rfl⟩
end
#print axioms Is.least
#print axioms Is.none
#print axioms srt_skip
end Go.Proofs.YtfpggeiphbekoaaGreatDoor
