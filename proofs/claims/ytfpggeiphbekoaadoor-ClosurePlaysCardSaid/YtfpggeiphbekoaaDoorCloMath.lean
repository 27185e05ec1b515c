/- Plain: ways over edges; an edge more; pairs joined until nothing is new; which edges are needed. -/
namespace Go.Proofs.YtfpggeiphbekoaaDoor
set_option linter.unusedVariables false

/-- there is a way of at least one edge -/
inductive Way (e : Nat → Nat → Prop) : Nat → Nat → Prop
  | one {i j : Nat} : e i j → Way e i j
  | more {i j k : Nat} : e i j → Way e j k → Way e i k
theorem Way.trans {e : Nat → Nat → Prop} {i j k : Nat} (h : Way e i j) (h' : Way e j k) : Way e i k := by
  induction h with
  | one h => exact .more h h'
  | more h _ ih => exact .more h (ih h')
theorem Way.mono {e e' : Nat → Nat → Prop} (hs : ∀ i j, e i j → e' i j) {i j : Nat} (h : Way e i j) : Way e' i j := by
  induction h with
  | one h => exact .one (hs _ _ h)
  | more h _ ih => exact .more (hs _ _ h) ih
theorem Way.congr {e e' : Nat → Nat → Prop} (hs : ∀ i j, e i j ↔ e' i j) {i j : Nat} : Way e i j ↔ Way e' i j :=
  ⟨fun h => h.mono fun i j => (hs i j).1, fun h => h.mono fun i j => (hs i j).2⟩
theorem Way.lt {e : Nat → Nat → Prop} {n : Nat} (hn : ∀ i j, e i j → i < n ∧ j < n) {i j : Nat} (h : Way e i j) : i < n ∧ j < n := by
  induction h with
  | one h => exact hn _ _ h
  | more h _ ih => exact ⟨(hn _ _ h).1, ih.2⟩
/-- the first edge of a way -/
theorem Way.first {e : Nat → Nat → Prop} {i j : Nat} (h : Way e i j) : ∃ k, e i k ∧ (k = j ∨ Way e k j) := by
  cases h with
  | one h => exact ⟨_, h, .inl rfl⟩
  | more h h' => exact ⟨_, h, .inr h'⟩

/-- an edge more -/
def addE (e : Nat → Nat → Prop) (f t : Nat) : Nat → Nat → Prop := fun i j => e i j ∨ (i = f ∧ j = t)
theorem way_add {e : Nat → Nat → Prop} {f t i j : Nat} : Way (addE e f t) i j ↔ Way e i j ∨ ((i = f ∨ Way e i f) ∧ (j = t ∨ Way e t j)) := by
  constructor
  · intro h
    induction h with
    | one h =>
      rcases h with h | ⟨rfl, rfl⟩
      · exact .inl (.one h)
      · exact .inr ⟨.inl rfl, .inl rfl⟩
    | more h _ ih =>
      rcases h with h | ⟨rfl, rfl⟩
      · rcases ih with ih | ⟨ih1, ih2⟩
        · exact .inl (.more h ih)
        · refine .inr ⟨.inr ?_, ih2⟩
          rcases ih1 with rfl | ih1
          · exact .one h
          · exact .more h ih1
      · rcases ih with ih | ⟨ih1, ih2⟩
        · exact .inr ⟨.inl rfl, .inr ih⟩
        · exact .inr ⟨.inl rfl, ih2⟩
  · intro h
    have m : ∀ {a b}, Way e a b → Way (addE e f t) a b := fun h => h.mono fun _ _ h => .inl h
    have o : Way (addE e f t) f t := .one (.inr ⟨rfl, rfl⟩)
    rcases h with h | ⟨h1, h2⟩
    · exact m h
    · have h3 : Way (addE e f t) i t := by
        rcases h1 with rfl | h1
        · exact o
        · exact (m h1).trans o
      rcases h2 with rfl | h2
      · exact h3
      · exact h3.trans (m h2)
theorem way_add_same {e : Nat → Nat → Prop} {f t i j : Nat} (h : Way e f t) : Way (addE e f t) i j ↔ Way e i j := by
  rw [way_add]
  constructor
  · rintro (h' | ⟨h1, h2⟩)
    · exact h'
    · have h3 : Way e i t := by
        rcases h1 with rfl | h1
        · exact h
        · exact h1.trans h
      rcases h2 with rfl | h2
      · exact h3
      · exact h3.trans h2
  · exact .inl

/-- pairs, joined by the nodes below k -/
def WK (e : Nat → Nat → Prop) : Nat → Nat → Nat → Prop
  | 0 => e
  | k + 1 => fun i j => WK e k i j ∨ (WK e k i k ∧ WK e k k j)
theorem WK.le {e : Nat → Nat → Prop} {k : Nat} : ∀ {m : Nat} {i j : Nat}, k ≤ m → WK e k i j → WK e m i j := by
  intro m
  induction m with
  | zero => intro i j hk h; obtain rfl : k = 0 := by omega
            exact h
  | succ m ih =>
    intro i j hk h
    by_cases e : k = m + 1
    · subst e; exact h
    · exact .inl (ih (by omega) h)
theorem WK.trans {e : Nat → Nat → Prop} : ∀ {k m i j : Nat}, m < k → WK e k i m → WK e k m j → WK e k i j := by
  intro k
  induction k with
  | zero => intro m i j h; omega
  | succ k ih =>
    intro m i j hm h h'
    by_cases e : m = k
    · subst e
      have h1 : WK e m i m := by rcases h with h | ⟨h, _⟩ <;> exact h
      have h2 : WK e m m j := by rcases h' with h' | ⟨_, h'⟩ <;> exact h'
      exact .inr ⟨h1, h2⟩
    · have hm' : m < k := by omega
      rcases h with h | ⟨h1, h2⟩
      · rcases h' with h' | ⟨h3, h4⟩
        · exact .inl (ih hm' h h')
        · exact .inr ⟨ih hm' h h3, h4⟩
      · rcases h' with h' | ⟨h3, h4⟩
        · exact .inr ⟨h1, ih hm' h2 h'⟩
        · exact .inr ⟨h1, h4⟩
theorem WK.way {e : Nat → Nat → Prop} : ∀ {k i j : Nat}, WK e k i j → Way e i j := by
  intro k
  induction k with
  | zero => intro i j h; exact .one h
  | succ k ih =>
    intro i j h
    rcases h with h | ⟨h1, h2⟩
    · exact ih h
    · exact (ih h1).trans (ih h2)
theorem way_WK {e : Nat → Nat → Prop} {n : Nat} (hn : ∀ i j, e i j → i < n ∧ j < n) {i j : Nat} : Way e i j ↔ WK e n i j := by
  refine ⟨fun h => ?_, WK.way⟩
  induction h with
  | one h => exact WK.le (k := 0) (Nat.zero_le _) h
  | more h h' ih => exact WK.trans (hn _ _ h).2 (WK.le (k := 0) (Nat.zero_le _) h) ih

/-! An edge that is needed -/
/-- edges but one -/
def subE (e : Nat → Nat → Prop) (f t : Nat) : Nat → Nat → Prop := fun i j => e i j ∧ ¬ (i = f ∧ j = t)
/-- of edges without a closed walk: there is a way about one just if some other edge from where it begins leads to where it ends -/
theorem way_about {e : Nat → Nat → Prop} {f t : Nat} (hc : ∀ i, ¬ Way e i i) (h : e f t) : Way (subE e f t) f t ↔ ∃ k, e f k ∧ k ≠ t ∧ Way e k t := by
  constructor
  · intro h
    obtain ⟨k, ⟨h1, h2⟩, h3⟩ := h.first
    refine ⟨k, h1, fun e => h2 ⟨rfl, e⟩, ?_⟩
    rcases h3 with rfl | h3
    · exact absurd ⟨rfl, rfl⟩ h2
    · exact h3.mono fun _ _ h => h.1
  · rintro ⟨k, h1, h2, h3⟩
    -- no way from k goes over the edge: else f would lead to itself
    have key : ∀ i j, Way e i j → (∀ x, (i = x ∨ Way e i x) → x ≠ f) → Way (subE e f t) i j := by
      intro i j hw
      induction hw with
      | one h => intro hx; exact .one ⟨h, fun e => hx _ (.inl rfl) e.1⟩
      | more h h' ih =>
        intro hx
        refine .more ⟨h, fun e => hx _ (.inl rfl) e.1⟩ (ih fun x hx' => hx x (.inr ?_))
        rcases hx' with rfl | hx'
        · exact .one h
        · exact .more h hx'
    refine .more ⟨h1, fun e => h2 e.2⟩ (key k t h3 fun x hx => ?_)
    rintro rfl
    rcases hx with rfl | hx
    · exact hc _ (.one h1)
    · exact hc _ (.more h1 hx)
end Go.Proofs.YtfpggeiphbekoaaDoor
