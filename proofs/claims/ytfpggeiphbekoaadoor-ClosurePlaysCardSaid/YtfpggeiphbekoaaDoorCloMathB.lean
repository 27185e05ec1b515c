/- Plain: rows of edges in order; what adding an edge does to them and to the sets; loops; the edges that are needed. -/
import Derived.Test.YtfpggeiphbekoaaDoorCloF
namespace Go.Proofs.YtfpggeiphbekoaaDoor
set_option linter.unusedVariables false

/-! the order of edges -/
def lessP (a b : Int × Int) : Bool := decide (a.1 < b.1) || (a.1 == b.1 && decide (a.2 < b.2))
theorem lessP_iff {a b : Int × Int} : lessP a b = true ↔ a.1 < b.1 ∨ (a.1 = b.1 ∧ a.2 < b.2) := by simp [lessP]
theorem lessP_irr (a : Int × Int) : lessP a a = false := by
  rw [Bool.eq_false_iff]; intro h; rw [lessP_iff] at h; omega
theorem lessP_trans {a b c : Int × Int} (h : lessP a b = true) (h' : lessP b c = true) : lessP a c = true := by
  rw [lessP_iff] at *; omega
theorem lessP_total {a b : Int × Int} (h : lessP a b = false) (hne : a ≠ b) : lessP b a = true := by
  rw [Bool.eq_false_iff] at h
  rw [Ne, lessP_iff] at h
  rw [lessP_iff]
  have : ¬ (a.1 = b.1 ∧ a.2 = b.2) := fun e => hne (Prod.ext e.1 e.2)
  omega
def Srt (L : List (Int × Int)) : Prop := L.Pairwise fun a b => lessP a b = true
theorem srt_ext : ∀ {a b : List (Int × Int)}, Srt a → Srt b → (∀ x, x ∈ a ↔ x ∈ b) → a = b
  | [], [], _, _, _ => rfl
  | [], y :: ys, _, _, h => by have := (h y).2 (by simp); simp at this
  | x :: xs, [], _, _, h => by have := (h x).1 (by simp); simp at this
  | x :: xs, y :: ys, hx, hy, h => by
    obtain ⟨hx1, hx2⟩ := List.pairwise_cons.1 hx
    obtain ⟨hy1, hy2⟩ := List.pairwise_cons.1 hy
    have e : x = y := by
      apply Classical.byContradiction
      intro hne
      have h1 : y ∈ xs := by
        rcases List.mem_cons.1 ((h y).2 (by simp)) with e | e
        · exact absurd e.symm hne
        · exact e
      have h2 : x ∈ ys := by
        rcases List.mem_cons.1 ((h x).1 (by simp)) with e | e
        · exact absurd e hne
        · exact e
      have := lessP_trans (hx1 y h1) (hy1 x h2)
      rw [lessP_irr] at this; cases this
    subst e
    have nx : x ∉ xs := fun hm => by have := hx1 x hm; rw [lessP_irr] at this; cases this
    have ny : x ∉ ys := fun hm => by have := hy1 x hm; rw [lessP_irr] at this; cases this
    rw [srt_ext hx2 hy2 fun z => ?_]
    have := h z
    simp only [List.mem_cons] at this
    constructor
    · intro hz
      rcases this.1 (.inr hz) with e | e
      · subst e; exact absurd hz nx
      · exact e
    · intro hz
      rcases this.2 (.inr hz) with e | e
      · subst e; exact absurd hz ny
      · exact e
/-- put into its place -/
def insR (q : Int × Int) : List (Int × Int) → List (Int × Int)
  | [] => [q]
  | x :: xs => if lessP q x = true then q :: x :: xs else x :: insR q xs
theorem mem_insR {q z : Int × Int} : ∀ {L : List (Int × Int)}, z ∈ insR q L ↔ z = q ∨ z ∈ L
  | [] => by simp [insR]
  | x :: xs => by
    unfold insR
    split
    · simp
    · simp only [List.mem_cons, mem_insR (L := xs)]
      constructor
      · rintro (h | h | h) <;> simp [h]
      · rintro (h | h | h) <;> simp [h]
theorem srt_insR {q : Int × Int} : ∀ {L : List (Int × Int)}, Srt L → q ∉ L → Srt (insR q L)
  | [], _, _ => by simp [insR, Srt]
  | x :: xs, h, hq => by
    obtain ⟨h1, h2⟩ := List.pairwise_cons.1 h
    unfold insR
    split
    · rename_i hl
      refine List.pairwise_cons.2 ⟨fun z hz => ?_, h⟩
      rcases List.mem_cons.1 hz with e | e
      · subst e; exact hl
      · exact lessP_trans hl (h1 z e)
    · rename_i hl
      refine List.pairwise_cons.2 ⟨fun z hz => ?_, srt_insR h2 (fun e => hq (List.mem_cons_of_mem _ e))⟩
      rcases mem_insR.1 hz with e | e
      · subst e
        exact lessP_total (by simpa using hl) (fun e => hq (by simp [e]))
      · exact h1 z e
/-- the reference's loop: what has been put out, and whether the edge is among it -/
def insStep (q : Int × Int) (s : List (Int × Int) × Bool) (x : Int × Int) : List (Int × Int) × Bool := if (!s.2 && lessP q x) = true then (s.1 ++ [q, x], true) else (s.1 ++ [x], s.2)
def insSt (q : Int × Int) (L : List (Int × Int)) : List (Int × Int) × Bool := L.foldl (insStep q) ([], false)
theorem insSt_take {q : Int × Int} {L : List (Int × Int)} {k : Nat} (h : k < L.length) : insSt q (L.take (k + 1)) = insStep q (insSt q (L.take k)) (gt L k) := by
  unfold insSt; rw [take_gt h, List.foldl_append]; rfl
theorem insSt_true (q : Int × Int) : ∀ (L acc : List (Int × Int)), L.foldl (insStep q) (acc, true) = (acc ++ L, true)
  | [], acc => by simp
  | x :: xs, acc => by
    rw [List.foldl_cons, show insStep q (acc, true) x = (acc ++ [x], true) from rfl, insSt_true q xs]
    simp
theorem insSt_false (q : Int × Int) : ∀ (L acc : List (Int × Int)), (let s := L.foldl (insStep q) (acc, false); if s.2 = true then s.1 else s.1 ++ [q]) = acc ++ insR q L
  | [], acc => by simp [insR]
  | x :: xs, acc => by
    rw [List.foldl_cons]
    unfold insR
    by_cases h : lessP q x = true
    · rw [show insStep q (acc, false) x = (acc ++ [q, x], true) by simp [insStep, h], insSt_true]
      simp [h]
    · rw [show insStep q (acc, false) x = (acc ++ [x], false) by simp [insStep, h], insSt_false q xs]
      simp [h]
theorem insSt_all (q : Int × Int) (L : List (Int × Int)) : (if (insSt q L).2 = true then (insSt q L).1 else (insSt q L).1 ++ [q]) = insR q L := by
  have := insSt_false q L []
  simp only [List.nil_append] at this
  exact this
theorem insSt_len (q : Int × Int) : ∀ (L acc : List (Int × Int)) (d : Bool), (L.foldl (insStep q) (acc, d)).1.length ≤ acc.length + L.length + (if d = true then 0 else 1)
  | [], acc, d => by simp
  | x :: xs, acc, d => by
    rw [List.foldl_cons]
    unfold insStep
    split
    · rename_i h
      have hd : d = false := by cases d <;> simp_all
      subst hd
      refine Nat.le_trans (insSt_len q xs _ _) ?_
      simp; omega
    · refine Nat.le_trans (insSt_len q xs _ _) ?_
      simp; omega
def refAddL (L : List (Int × Int)) (q : Int × Int) : List (Int × Int) := if q ∈ L then L else insR q L
theorem refAddL_len (L : List (Int × Int)) (q : Int × Int) : (refAddL L q).length ≤ L.length + 1 := by
  unfold refAddL
  split
  · omega
  · rw [← insSt_all]
    have := insSt_len q L [] false
    unfold insSt
    cases hd : (L.foldl (insStep q) ([], false)).2
    · have h2 : insR q L = _ := (insSt_all q L).symm
      have h3 : (insR q L).length = L.length + 1 := by
        clear h2 hd this
        induction L with
        | nil => rfl
        | cons x xs ih => unfold insR; split <;> simp_all
      have h4 := insSt_all q L
      unfold insSt at h4
      rw [hd] at h4
      rw [h4]; omega
    · simp only [if_true]; simp at this; omega

/-! the edges of the sets, in order -/
theorem mem_edgesTo {n m : Nat} {ed : Nat → Nat} {a b : Int} : (a, b) ∈ edgesTo n ed m ↔ ∃ i j : Nat, a = i ∧ b = j ∧ i < m ∧ j < n ∧ (ed i).testBit j = true := by
  unfold edgesTo
  simp only [List.mem_flatMap, List.mem_range, List.mem_map, Prod.mk.injEq]
  constructor
  · rintro ⟨i, hi, x, hx, rfl, rfl⟩
    obtain ⟨j, rfl, h1, h2⟩ := mem_allX.1 hx
    exact ⟨i, j, rfl, rfl, hi, h1, h2⟩
  · rintro ⟨i, j, rfl, rfl, h1, h2, h3⟩
    exact ⟨i, h1, _, mem_allX.2 ⟨j, rfl, h2, h3⟩, rfl, rfl⟩
theorem allX_sorted (n X : Nat) : (allX n X).Pairwise fun a b => a < b := by
  unfold allX
  rw [List.pairwise_map]
  refine (List.Pairwise.filter _ List.pairwise_lt_range).imp fun h => by omega
theorem srt_edgesTo (n : Nat) (ed : Nat → Nat) : ∀ m, Srt (edgesTo n ed m)
  | 0 => by simp [edgesTo, Srt]
  | m + 1 => by
    rw [edgesTo_succ]
    refine List.pairwise_append.2 ⟨srt_edgesTo n ed m, ?_, ?_⟩
    · rw [List.pairwise_map]
      exact (allX_sorted n (ed m)).imp fun {a b} h => (lessP_iff (a := ((m : Int), a)) (b := ((m : Int), b))).2 (.inr ⟨rfl, h⟩)
    · rintro ⟨a, b⟩ ha y hy
      obtain ⟨i, j, rfl, rfl, h1, _⟩ := mem_edgesTo.1 ha
      obtain ⟨z, _, rfl⟩ := List.mem_map.1 hy
      exact lessP_iff.2 (.inl (by show (i : Int) < (m : Int); omega))
theorem addX_testBit {n X t j : Nat} (ht : t < n) : (addX n X (t : Int)).testBit j = (X.testBit j || decide (t = j)) := by
  unfold addX
  rw [if_pos (by simp [mayB, ht]), Int.toNat_natCast, ins_testBit]
theorem edges_add {n f t : Nat} {ed : Nat → Nat} (hf : f < n) (ht : t < n) : refAddL (edgesTo n ed n) ((f : Int), (t : Int)) = edgesTo n (addEd n ed f t) n := by
  have hm : ∀ a b : Int, (a, b) ∈ edgesTo n (addEd n ed f t) n ↔ (a, b) = ((f : Int), (t : Int)) ∨ (a, b) ∈ edgesTo n ed n := by
    intro a b
    rw [mem_edgesTo, mem_edgesTo]
    constructor
    · rintro ⟨i, j, rfl, rfl, h1, h2, h3⟩
      unfold addEd at h3
      by_cases e : i = f
      · subst e
        rw [if_pos rfl, addX_testBit ht] at h3
        simp only [Bool.or_eq_true, decide_eq_true_eq] at h3
        rcases h3 with h3 | h3
        · exact .inr ⟨i, j, rfl, rfl, h1, h2, h3⟩
        · subst h3; exact .inl rfl
      · rw [if_neg e] at h3
        exact .inr ⟨i, j, rfl, rfl, h1, h2, h3⟩
    · rintro (h | ⟨i, j, rfl, rfl, h1, h2, h3⟩)
      · simp only [Prod.mk.injEq] at h
        obtain ⟨rfl, rfl⟩ := h
        exact ⟨f, t, rfl, rfl, hf, ht, by unfold addEd; rw [if_pos rfl, addX_testBit ht]; simp⟩
      · refine ⟨i, j, rfl, rfl, h1, h2, ?_⟩
        unfold addEd
        by_cases e : i = f
        · subst e; rw [if_pos rfl, addX_testBit ht, h3]; rfl
        · rw [if_neg e]; exact h3
  unfold refAddL
  split
  · rename_i hin
    refine srt_ext (srt_edgesTo _ _ _) (srt_edgesTo _ _ _) fun ⟨a, b⟩ => ?_
    rw [hm]
    constructor
    · exact .inr
    · rintro (h | h)
      · rw [h]; exact hin
      · exact h
  · rename_i hin
    refine srt_ext (srt_insR (srt_edgesTo _ _ _) hin) (srt_edgesTo _ _ _) fun ⟨a, b⟩ => ?_
    rw [hm, mem_insR]

/-! the sets hold what they should -/
def edgeP (L : List (Int × Int)) : Nat → Nat → Prop := fun i j => ((i : Int), (j : Int)) ∈ L
structure CloOk (n : Nat) (dn up ed : Nat → Nat) : Prop where
  dn : ∀ i j, i < n → j < n → ((dn i).testBit j = true ↔ Way (edgeP (edgesTo n ed n)) i j)
  up : ∀ i j, i < n → j < n → ((up j).testBit i = true ↔ Way (edgeP (edgesTo n ed n)) i j)
theorem edgeP_lt {n : Nat} {ed : Nat → Nat} (i j : Nat) (h : edgeP (edgesTo n ed n) i j) : i < n ∧ j < n := by
  obtain ⟨a, b, h1, h2, h3, h4, _⟩ := mem_edgesTo.1 h
  omega
theorem edgeP_iff {n i j : Nat} {ed : Nat → Nat} : edgeP (edgesTo n ed n) i j ↔ i < n ∧ j < n ∧ (ed i).testBit j = true := by
  unfold edgeP
  rw [mem_edgesTo]
  constructor
  · rintro ⟨a, b, h1, h2, h3, h4, h5⟩
    obtain rfl : i = a := by omega
    obtain rfl : j = b := by omega
    exact ⟨h3, h4, h5⟩
  · rintro ⟨h3, h4, h5⟩
    exact ⟨i, j, rfl, rfl, h3, h4, h5⟩
theorem CloOk.start (n : Nat) : CloOk n (fun _ => 0) (fun _ => 0) (fun _ => 0) := by
  have e : ∀ i j, ¬ edgeP (edgesTo n (fun _ => 0) n) i j := fun i j h => by
    have := (edgeP_iff.1 h).2.2
    simp at this
  have hw : ∀ i j, ¬ Way (edgeP (edgesTo n (fun _ => 0) n)) i j := fun i j h => by
    obtain ⟨k, h1, _⟩ := h.first
    exact e _ _ h1
  exact ⟨fun i j _ _ => ⟨fun h => by simp at h, fun h => absurd h (hw i j)⟩, fun i j _ _ => ⟨fun h => by simp at h, fun h => absurd h (hw i j)⟩⟩
theorem ofX_one {n f : Nat} (hf : f < n) (j : Nat) : (ofX n [(f : Int)]).testBit j = decide (f = j) := by
  show (addX n 0 (f : Int)).testBit j = _
  rw [addX_testBit hf]; simp
theorem nearX_testBit {n f j : Nat} {m : Nat → Nat} (hf : f < n) (hj : j < n) : (nearX n m f).testBit j = true ↔ j = f ∨ (m f).testBit j = true := by
  unfold nearX
  rw [rawX_one, Nat.testBit_mod_two_pow, Nat.testBit_or, ofX_one hf]
  simp only [hj, decide_true, Bool.true_and, Bool.or_eq_true, decide_eq_true_eq]
  constructor
  · rintro (h | h)
    · exact .inl h.symm
    · exact .inr h
  · rintro (h | h)
    · exact .inl h.symm
    · exact .inr h
theorem joinM_testBit {n X Y i j : Nat} {M : Nat → Nat} (hi : i < n) (hj : j < n) : (joinM n Y (allX n X) M i).testBit j = true ↔ (M i).testBit j = true ∨ (X.testBit i = true ∧ Y.testBit j = true) := by
  unfold joinM
  by_cases h : (i : Int) ∈ allX n X
  · rw [if_pos h, Nat.testBit_mod_two_pow, Nat.testBit_or]
    obtain ⟨k, e, _, hk⟩ := mem_allX.1 h
    obtain rfl : i = k := by omega
    simp [hj, hk]
  · rw [if_neg h]
    have hx : ¬ X.testBit i = true := fun hb => h (mem_allX.2 ⟨i, rfl, hi, hb⟩)
    simp [hx]
theorem CloOk.add {n f t : Nat} {dn up ed : Nat → Nat} (h : CloOk n dn up ed) (hf : f < n) (ht : t < n) : CloOk n (addDn n dn up ed f t) (addUp n dn up ed f t) (addEd n ed f t) := by
  have he : ∀ i j, edgeP (edgesTo n (addEd n ed f t) n) i j ↔ addE (edgeP (edgesTo n ed n)) f t i j := by
    intro i j
    rw [edgeP_iff]
    unfold addE
    rw [edgeP_iff]
    unfold addEd
    constructor
    · rintro ⟨h1, h2, h3⟩
      by_cases e : i = f
      · subst e
        rw [if_pos rfl, addX_testBit ht] at h3
        simp only [Bool.or_eq_true, decide_eq_true_eq] at h3
        rcases h3 with h3 | h3
        · exact .inl ⟨h1, h2, h3⟩
        · exact .inr ⟨rfl, h3.symm⟩
      · rw [if_neg e] at h3; exact .inl ⟨h1, h2, h3⟩
    · rintro (⟨h1, h2, h3⟩ | ⟨rfl, rfl⟩)
      · refine ⟨h1, h2, ?_⟩
        by_cases e : i = f
        · subst e; rw [if_pos rfl, addX_testBit ht, h3]; rfl
        · rw [if_neg e]; exact h3
      · exact ⟨hf, ht, by rw [if_pos rfl, addX_testBit ht]; simp⟩
  have hw : ∀ i j, Way (edgeP (edgesTo n (addEd n ed f t) n)) i j ↔ Way (addE (edgeP (edgesTo n ed n)) f t) i j := fun i j => Way.congr he
  by_cases hc : ((ed f).testBit t || (dn f).testBit t) = true
  · have hway : Way (edgeP (edgesTo n ed n)) f t := by
      simp only [Bool.or_eq_true] at hc
      rcases hc with hc | hc
      · exact .one (edgeP_iff.2 ⟨hf, ht, hc⟩)
      · exact (h.dn f t hf ht).1 hc
    unfold addDn addUp
    rw [if_pos hc, if_pos hc]
    exact ⟨fun i j hi hj => by rw [hw, way_add_same hway]; exact h.dn i j hi hj, fun i j hi hj => by rw [hw, way_add_same hway]; exact h.up i j hi hj⟩
  · unfold addDn addUp
    rw [if_neg hc, if_neg hc]
    refine ⟨fun i j hi hj => ?_, fun i j hi hj => ?_⟩
    · rw [hw, way_add, joinM_testBit hi hj, nearX_testBit hf hi, nearX_testBit ht hj, h.dn i j hi hj, h.up i f hi hf, h.dn t j ht hj]
    · rw [hw, way_add, joinM_testBit hj hi, nearX_testBit hf hi, nearX_testBit ht hj, h.up i j hi hj, h.up i f hi hf, h.dn t j ht hj]
      constructor
      · rintro (h | ⟨h1, h2⟩)
        · exact .inl h
        · exact .inr ⟨h2, h1⟩
      · rintro (h | ⟨h1, h2⟩)
        · exact .inl h
        · exact .inr ⟨h2, h1⟩
#print axioms CloOk.add
#print axioms edges_add
end Go.Proofs.YtfpggeiphbekoaaDoor
