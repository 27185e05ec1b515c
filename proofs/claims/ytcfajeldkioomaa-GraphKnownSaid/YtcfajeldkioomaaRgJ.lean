/- The laws of graphs: Add, whatever comes; what the loop keeps, once more. -/
import Derived.Test.YtcfajeldkioomaaRgI
namespace Go.Proofs.Ytcfajeldkioomaa
open Go.RowKit
set_option linter.unusedVariables false

/-- the edges behind an Add -/
def addG (N : Nat) (L xs : List Ed) : List Ed := if xs.any (badE N) = true then L else addL L xs
def cntG (N : Nat) (L xs : List Ed) : Nat := (addG N L xs).length - L.length
def codeG (N : Nat) (xs : List Ed) : Int := if xs.any (badE N) = true then 130 else 0
theorem addG_len (N : Nat) (L xs : List Ed) : (addG N L xs).length ≤ L.length + xs.length := by
  unfold addG; split
  · omega
  · exact (addL_len L xs).2
section
variable {w w' : World} {D S E : Nat → Prop} {L xs : List Ed} {v u : Value} {b n : Nat}
theorem refAdd_both (h : EdsV w D v L) (ha : Asc L) (hx : EdsV w E u xs) (N : Nat) (hl : L.length + xs.length ≤ 1000000) : Calls Try.prog 25 #[.agg #[.int .i64 (N : Nat), v], u] w fun e w' => ∃ v', e = .returned (.tuple #[.agg #[.int .i64 (N : Nat), v'], .int .i64 (cntG N L xs : Nat), .int .i64 (codeG N xs)]) ∧ Fx No w w' ∧ EdsV w' (fun k => (D k ∨ w.heap.size ≤ k) ∧ k < w'.heap.size) v' (addG N L xs) := by
  by_cases hb : xs.any (badE N) = true
  · refine (refAdd_no h hx N hb).mono ?_
    rintro e w' ⟨rfl, hf⟩
    refine ⟨v, by rw [cntG, codeG, addG, if_pos hb, if_pos hb, Nat.sub_self]; rfl, hf, ?_⟩
    rw [addG, if_pos hb]
    exact ((RowV.bound h).no hf).mono fun k hk => ⟨.inl hk.1, Nat.lt_of_lt_of_le hk.2 hf.size⟩
  · refine (refAdd_any h ha hx N (by simpa using hb) hl).mono ?_
    rintro e w' ⟨v', c, rfl, hc, hf, hr⟩
    refine ⟨v', by rw [cntG, codeG, addG, if_neg hb, if_neg hb, show (addL L xs).length - L.length = c by omega], hf, ?_⟩
    rw [addG, if_neg hb]
    exact hr
theorem gAdd_both (h : GraphV w D b n L) (hx : EdsV w E v xs) (hE : ∀ k, E k → ¬ D k) (hok : ∀ x ∈ xs, x.ok) (hlen : L.length + xs.length ≤ 1000000) :
    Calls Try.prog 19 #[.pointer (some ⟨b, 0, none⟩), v] w fun r w' => r = .returned (.tuple #[.int .i64 (cntG n L xs : Nat), .int .i64 (codeG n xs)]) ∧ Fx D w w' ∧ GraphV w' (DU D w w') b n (addG n L xs) := by
  by_cases hb : xs.any (badE n) = true
  · refine (gAdd_no h hx hb).mono ?_
    rintro e w' ⟨rfl, hf⟩
    refine ⟨by rw [cntG, codeG, addG, if_pos hb, if_pos hb, Nat.sub_self]; rfl, hf.weaken, ?_⟩
    rw [addG, if_pos hb]
    exact h.du hf
  · refine (gAdd_any h hx hE hok (by simpa using hb) hlen).mono ?_
    rintro e w' ⟨rfl, hf, hg⟩
    refine ⟨by rw [cntG, codeG, addG, if_neg hb, if_neg hb], hf, ?_⟩
    rw [addG, if_neg hb]
    exact hg
end
/-- cells of integers that may be written -/
def CellsZ (w : World) (v : Value) (len : Nat) : Prop := ∀ g j, v.ownBlock = some g → j < len → ∃ z, w.cell? ⟨g, j, none⟩ = some (.int .i64 z) ∧ w.frozen? ⟨g, j, none⟩ = false
theorem CellsZ.of {w : World} {base : Nat} {e : TypeId} {size : Nat} {v : Value} {n : Nat} {xs : List Int} (h : w.ownsRow base e size v n (ints xs)) : CellsZ w v xs.length := by
  intro g j hg hj
  have hl : (ints xs).length = xs.length := by simp [ints]
  have hc := h.cells hg j ((ints xs)[j]'(by omega)) (by simp [hl, hj])
  rw [Addr.add_lit, Nat.zero_add] at hc
  rcases h.2 with ⟨e1, e2⟩ | ⟨g', cap, cur, e1, hb, hh, _⟩
  · subst e1; simp [Value.ownBlock] at hg
  · subst e1
    obtain rfl : g' = g := by simpa [Value.ownBlock] using hg
    exact ⟨xs[j], by rw [hc]; simp [ints], frozen_of_row _ _ _ _ _ hh⟩
theorem CellsZ.put {w : World} {v : Value} {len g x : Nat} (h : CellsZ w v len) (hg : v.ownBlock = some g) (z : Int) : CellsZ (w.setCell ⟨g, x, none⟩ (.int .i64 z)) v len := fun g' j hg' hj => by
  obtain rfl : g = g' := Option.some.inj (hg.symm.trans hg')
  obtain ⟨u, h1, h2⟩ := h g j hg hj
  by_cases e : j = x
  · subst e; exact ⟨z, World.cell?_setCell_same _ _ _ h1, by simpa using h2⟩
  · exact ⟨u, by rw [World.cell?_setCell_other _ _ _ _ (by intro e2; injection e2; omega)]; exact h1, by simpa using h2⟩
theorem CellsZ.fx {w w' : World} {S : Nat → Prop} {v : Value} {len : Nat} (h : CellsZ w v len) (hf : Fx S w w') (hn : ∀ g, v.ownBlock = some g → ¬ S g) : CellsZ w' v len := fun g j hg hj => by
  obtain ⟨u, h1, h2⟩ := h g j hg hj
  exact ⟨u, hf.cellF h1 h2 (hn g hg)⟩
theorem icells_ints {α : Type} (enc : α → List Int) (xs : List α) : icells enc xs = ints (xs.flatMap enc) := by
  unfold icells ints
  induction xs with
  | nil => rfl
  | cons x xs ih => simp [List.flatMap_cons, ih]
section
variable {w0 ws w' : World} {b rb N : Nat} {L L' : List Ed} {rv rv' : Value} {D E E' S : Nat → Prop}
theorem PG.fxS (h : PG w0 ws b rb N L rv D E) (hf : Fx S ws w') (hs : ∀ j, S j → w0.heap.size ≤ j ∧ ¬ D j ∧ ¬ E j ∧ j ≠ rb) : PG w0 w' b rb N L rv D E :=
  ⟨h.fx.trans' hf fun j hj hl => by have := (hs j hj).1; omega, h.g.keep hf fun j hj h1 => (hs j h1).2.1 hj, h.lo, hf.cellF h.r0.1 h.r0.2 (fun h1 => (hs _ h1).2.2.2 rfl), hf.cellF h.r1.1 h.r1.2 (fun h1 => (hs _ h1).2.2.2 rfl), h.row.keep hf fun j hj h1 => (hs j h1).2.2.1 hj, h.ap, fun j hj => Nat.lt_of_lt_of_le (h.eb j hj) hf.size, h.rD⟩
end
#print axioms refAdd_both
#print axioms gAdd_both
#print axioms PG.fxS
end Go.Proofs.Ytcfajeldkioomaa
