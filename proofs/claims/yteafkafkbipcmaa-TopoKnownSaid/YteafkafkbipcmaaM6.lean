/- The laws of graphs: acts; few; Pick; a region in which two operations may come up. | The laws of graphs: is. | The laws of graphs: the reference's New; what the law's loop keeps. | The laws of graphs: Add, whatever comes; what the loop keeps, once more. | A region that draws its order and ends with a store into a cell that it has loaded: two operations that may come up; the world by another name. For every seat. No program in sight. | A region that draws its order, once for all orders: a condition on which operations have come up, on what each of them has left, and on the world; each operation is walked once. For every seat. No program in sight. | The reference of graphs: Back, in, Only. -/
import Derived.Test.YteafkafkbipcmaaM5
import Derived.Deep.CutRange
import Derived.Test.YteafkafkbipcmaaM1
import Derived.Test.YteafkafkbipcmaaM4

namespace Go.Proofs.Yteafkafkbipcmaa
open Go.RowKit
set_option linter.unusedVariables false

/-- a call of the law -/
structure ActG where
  d : Int
  l : List Ed
instance : Inhabited ActG := ⟨⟨0, []⟩⟩
def ActsG (w : World) (D : Nat → Prop) (v : Value) (xs : List ActG) : Prop :=
  ∃ ao cap, v = .slice ao xs.length cap ∧ xs.length ≤ 9223372036854775807 ∧ ∀ k, k < xs.length → ∃ b o lv, ao = some ⟨b, o, none⟩ ∧ w.cell? ⟨b, o + k * 2, none⟩ = some (.int .i64 (gt xs k).d) ∧ w.cell? ⟨b, o + k * 2 + 1, none⟩ = some lv ∧ EdsV w D lv (gt xs k).l ∧ ∀ x ∈ (gt xs k).l, x.ok
theorem ActsG.no {w w1 : World} {D : Nat → Prop} {v : Value} {xs : List ActG} (h : ActsG w D v xs) (hf : Fx No w w1) : ActsG w1 D v xs := by
  obtain ⟨ao, cap, h1, h2, h3⟩ := h
  refine ⟨ao, cap, h1, h2, fun k hk => ?_⟩
  obtain ⟨b, o, lv, h4, h5, h6, h7, h8⟩ := h3 k hk
  exact ⟨b, o, lv, h4, hf.cell' h5 (fun h => h), hf.cell' h6 (fun h => h), h7.no hf, h8⟩
def FewG (xs : List ActG) (e : Ending) : Prop := ∃ z, e = .returned (.bool z) ∧ (z = true → xs.length ≤ 20 ∧ ∀ k, k < xs.length → (gt xs k).l.length ≤ 12)
section
variable {P : Program} {ops : Array Oper} {Q : Exit → Act → World → Prop} {md : Region.Mode} {S : World → Prop}
theorem wpH_two {i j : Nat} {oi oj : Oper} {f : Nat} {L : Array Bool} {a : Act} {w : World} (hr : Region.ready md ops L = [i, j]) (hoi : ops[i]? = some oi) (hoj : ops[j]? = some oj)
    (h1 : ∀ K' : Act → World → Prop, Shut (∀ a w, S w → (S w → wpAnyH P md ops Q S f (L.setIfInBounds i true) a w) → K' a w) → if Region.wanted oi (yielded ops a.tmps) = true then Oper.wp P oi a w K' Q else K' (a.put oi.dst undef) w)
    (h2 : ∀ K' : Act → World → Prop, Shut (∀ a w, S w → (S w → wpAnyH P md ops Q S f (L.setIfInBounds j true) a w) → K' a w) → if Region.wanted oj (yielded ops a.tmps) = true then Oper.wp P oj a w K' Q else K' (a.put oj.dst undef) w) :
    wpAnyH P md ops Q S (f + 1) L a w :=
  wpAnyH_all hr (by simp) fun k hk => by
    rw [List.mem_cons, List.mem_singleton] at hk
    rcases hk with rfl | rfl
    · exact wpOp_step hoi (fun K' hK => h1 K' (fun a w hS hW => hK a w ⟨hS, hW hS⟩))
    · exact wpOp_step hoj (fun K' hK => h2 K' (fun a w hS hW => hK a w ⟨hS, hW hS⟩))
end
#print axioms wpH_two
end Go.Proofs.Yteafkafkbipcmaa

namespace Go.Proofs.Yteafkafkbipcmaa
open Go.RowKit
set_option linter.unusedVariables false

/-- cells that may be written -/
def CellsW (w : World) (v : Value) (len : Nat) : Prop := ∀ g j, v.ownBlock = some g → j < len → ∃ u, w.cell? ⟨g, j, none⟩ = some u ∧ w.frozen? ⟨g, j, none⟩ = false
theorem CellsW.of {w : World} {base : Nat} {e : TypeId} {size : Nat} {v : Value} {n : Nat} {xs : List Value} (h : w.ownsRow base e size v n xs) : CellsW w v xs.length := by
  intro g j hg hj
  have hc := h.cells hg j (xs[j]) (by simp [hj])
  rw [Addr.add_lit, Nat.zero_add] at hc
  rcases h.2 with ⟨e1, e2⟩ | ⟨g', cap, cur, e1, hb, hh, _⟩
  · subst e1; simp [Value.ownBlock] at hg
  · subst e1
    obtain rfl : g' = g := by simpa [Value.ownBlock] using hg
    exact ⟨_, hc, frozen_of_row _ _ _ _ _ hh⟩
theorem CellsW.fx {w w' : World} {S : Nat → Prop} {v : Value} {len : Nat} (h : CellsW w v len) (hf : Fx S w w') (hn : ∀ g, v.ownBlock = some g → ¬ S g) : CellsW w' v len := fun g j hg hj => by
  obtain ⟨u, h1, h2⟩ := h g j hg hj
  exact ⟨u, hf.cellF h1 h2 (hn g hg)⟩
theorem CellsW.put {w : World} {v : Value} {len g x : Nat} (h : CellsW w v len) (hg : v.ownBlock = some g) (a : Value) : CellsW (w.setCell ⟨g, x, none⟩ a) v len := fun g' j hg' hj => by
  obtain rfl : g = g' := Option.some.inj (hg.symm.trans hg')
  obtain ⟨u, h1, h2⟩ := h g j hg hj
  by_cases e : j = x
  · subst e; exact ⟨a, World.cell?_setCell_same _ _ _ h1, by simpa using h2⟩
  · exact ⟨u, by rw [World.cell?_setCell_other _ _ _ _ (by intro e2; injection e2; omega)]; exact h1, by simpa using h2⟩
theorem CellsW.ofI {w : World} {B : Nat} {v : Value} {l : List Int} (h : RowI w B v l) : CellsW w v l.length := by
  obtain ⟨ao, cap, rfl, h2, h3, h4, h5⟩ := h
  intro g j hg hj
  rcases h5 with rfl | ⟨g', rfl, h6, h7, h8⟩
  · simp at hj
  · obtain rfl : g' = g := by simpa [Value.ownBlock] using hg
    obtain ⟨c1, c2⟩ := h8 j hj
    simp only [Nat.zero_add] at c1 c2
    exact ⟨_, c1, c2⟩
theorem some_from {L : List Ed} {n : Nat} (hb : ∀ x ∈ L, (0 ≤ x.f ∧ x.f < (n : Int)) ∧ 0 ≤ x.t ∧ x.t < (n : Int)) {m : Int} (h0 : 0 ≤ m) : L.filter (someE m (-1)) = rowI (outE L) n m := by
  unfold rowI
  split
  · unfold outE someE
    refine List.filter_congr fun x hx => ?_
    have : ¬ m = -1 := by omega
    simp [this]
    rw [show (max m 0) = m by omega]
  · rw [List.filter_eq_nil_iff]
    intro x hx
    have h1 := hb x hx
    have : ¬ m = -1 := by omega
    have h2 : ¬ x.f = m := by omega
    simp [someE, this, h2]
theorem some_to {L : List Ed} {n : Nat} (hb : ∀ x ∈ L, (0 ≤ x.f ∧ x.f < (n : Int)) ∧ 0 ≤ x.t ∧ x.t < (n : Int)) {m : Int} (h0 : 0 ≤ m) : L.filter (someE (-1) m) = rowI (inE L) n m := by
  unfold rowI
  split
  · unfold inE someE
    refine List.filter_congr fun x hx => ?_
    have : ¬ m = -1 := by omega
    simp [this]
    rw [show (max m 0) = m by omega]
  · rw [List.filter_eq_nil_iff]
    intro x hx
    have h1 := hb x hx
    have : ¬ m = -1 := by omega
    have h2 : ¬ x.t = m := by omega
    simp [someE, this, h2]
theorem some_both {L : List Ed} {n : Nat} (hb : ∀ x ∈ L, (0 ≤ x.f ∧ x.f < (n : Int)) ∧ 0 ≤ x.t ∧ x.t < (n : Int)) {m k : Int} (h0 : 0 ≤ m) (hk : k ≠ -1) : L.filter (someE m k) = (rowI (outE L) n m).filter fun x => decide (x.t = k) := by
  rw [← some_from hb h0, List.filter_filter]
  refine List.filter_congr fun x hx => ?_
  have : ¬ m = -1 := by omega
  simp [someE, this, hk, Bool.and_comm]
theorem rowI_neg {rr : Nat → List Ed} {n : Nat} {m : Int} (h : m < 0) : rowI rr n m = [] := by unfold rowI; rw [if_neg (by omega)]
/-- one step of the other way to tell it -/
def cpStep (out : List Int) (t : Int) : List Int := if out = [] ∨ gi out (out.length - 1) ≠ t then out ++ [t] else out
theorem cpStep_fold (l : List Int) : ∀ a, a ≤ l.length → (l.take a).foldl cpStep [] = compTo l a ∧ (0 < a → gi (compTo l a) ((compTo l a).length - 1) = gi l (a - 1)) := by
  intro a
  induction a with
  | zero => intro _; simp [compTo]
  | succ a ih =>
    intro ha
    obtain ⟨h1, h2⟩ := ih (by omega)
    have ht : l.take (a + 1) = l.take a ++ [gi l a] := by
      have : a < l.length := by omega
      rw [List.take_add_one, List.getElem?_eq_getElem this]; simp [gi, List.getD, this]
    rw [ht, List.foldl_append, h1]
    show cpStep (compTo l a) (gi l a) = _ ∧ _
    by_cases h0 : a = 0
    · subst h0
      refine ⟨by simp [cpStep, compTo], fun _ => by simp [compTo, gi]⟩
    · have hp : 0 < (compTo l a).length := by
        obtain ⟨b, rfl⟩ : ∃ b, a = b + 1 := ⟨a - 1, by omega⟩
        exact compTo_pos l b
      have hne : compTo l a ≠ [] := fun e => by rw [e] at hp; simp at hp
      have h2 := h2 (by omega)
      by_cases he : gi l a = gi l (a - 1)
      · rw [compTo_old (by omega) he]
        refine ⟨?_, fun _ => ?_⟩
        · unfold cpStep; rw [if_neg]; rw [h2, he]; simp [hne]
        · rw [h2, Nat.add_sub_cancel, he]
      · rw [compTo_new he]
        refine ⟨?_, fun _ => ?_⟩
        · unfold cpStep; rw [if_pos (.inr (by rw [h2]; exact fun e => he e.symm))]
        · rw [List.length_append, List.length_cons, List.length_nil, Nat.add_sub_cancel, Nat.add_sub_cancel, gi_append_one]
theorem cpStep_comp (l : List Int) : l.foldl cpStep [] = comp l := by
  have := (cpStep_fold l l.length (Nat.le_refl _)).1
  rwa [List.take_length] at this
theorem nextL_comp {L : List Ed} {n : Nat} (hb : ∀ x ∈ L, (0 ≤ x.f ∧ x.f < (n : Int)) ∧ 0 ≤ x.t ∧ x.t < (n : Int)) (m : Int) : nextL m L = comp ((rowI (outE L) n m).map (·.t)) := by
  have key : ∀ (L : List Ed) (a : List Int), L.foldl (nxStep m) a = ((L.filter fun x => decide (x.f = m)).map (·.t)).foldl cpStep a := by
    intro L
    induction L with
    | nil => intro a; rfl
    | cons x xs ih =>
      intro a
      rw [List.foldl_cons, List.filter_cons]
      by_cases h : x.f = m
      · rw [if_pos (by simp [h]), List.map_cons, List.foldl_cons, ih]
        congr 1
        unfold nxStep cpStep
        simp [h]
      · rw [if_neg (by simp [h]), ih]
        congr 1
        unfold nxStep
        simp [h]
  unfold nextL
  rw [key, cpStep_comp]
  congr 2
  unfold rowI
  split
  · unfold outE
    refine List.filter_congr fun x hx => ?_
    rw [show ((m.toNat : Nat) : Int) = m by omega]
  · rw [List.filter_eq_nil_iff]
    intro x hx
    have h1 := hb x hx
    have h2 : ¬ x.f = m := by omega
    simp [h2]
section
variable {w w' : World} {D E : Nat → Prop} {b n : Nat} {L : List Ed} {rv : Value}
end
#print axioms nextL_comp
end Go.Proofs.Yteafkafkbipcmaa

namespace Go.Proofs.Yteafkafkbipcmaa
open Go.RowKit
set_option linter.unusedVariables false

theorem wpAnyH_hold {P : Program} {md : Region.Mode} {ops : Array Oper} {Q : Exit → Act → World → Prop} {S : World → Prop} {f : Nat} {L : Array Bool} {a : Act} {W : World} (R : World → Prop) (hR : R W) (h : ∀ W', R W' → wpAnyH P md ops Q S f L a W') : wpAnyH P md ops Q S f L a W := h W hR
section
variable {w w' : World}
end
/-- a graph and its reference in the variable rb -/
structure PG (w0 ws : World) (b rb N : Nat) (L : List Ed) (rv : Value) (D E : Nat → Prop) : Prop where
  fx : Fx No w0 ws
  g : GraphV ws D b N L
  lo : ∀ j, D j → w0.heap.size ≤ j
  r0 : ws.cell? ⟨rb, 0, none⟩ = some (.int .i64 (N : Nat)) ∧ ws.frozen? ⟨rb, 0, none⟩ = false
  r1 : ws.cell? ⟨rb, 1, none⟩ = some rv ∧ ws.frozen? ⟨rb, 1, none⟩ = false
  row : EdsV ws E rv L
  ap : ∀ j, E j → ¬ D j ∧ j ≠ rb
  eb : ∀ j, E j → j < ws.heap.size
  rD : ¬ D rb ∧ w0.heap.size ≤ rb
section
variable {w0 ws w' : World} {b rb N : Nat} {L L' : List Ed} {rv rv' : Value} {D E E' : Nat → Prop}
theorem PG.no (h : PG w0 ws b rb N L rv D E) (hf : Fx No ws w') : PG w0 w' b rb N L rv D E :=
  ⟨h.fx.trans hf, h.g.no hf, h.lo, hf.cellF h.r0.1 h.r0.2 (fun h => h), hf.cellF h.r1.1 h.r1.2 (fun h => h), h.row.no hf, h.ap, fun j hj => Nat.lt_of_lt_of_le (h.eb j hj) hf.size, h.rD⟩
/-- the graph has been written; the reference has another row -/
theorem PG.step (h : PG w0 ws b rb N L rv D E) {wx : World} (hf : Fx No ws wx) (hrow : EdsV wx E' rv' L') (hap : ∀ j, E' j → ¬ D j ∧ j ≠ rb) (heb : ∀ j, E' j → j < wx.heap.size)
    {wy : World} (hwy : wy = (wx.setCell ⟨rb, 0, none⟩ (.int .i64 (N : Nat))).setCell ⟨rb, 1, none⟩ rv') {wz : World} (hD : Fx D wy wz) (hg : GraphV wz (DU D wy wz) b N L') : PG w0 wz b rb N L' rv' (DU D wy wz) E' := by
  have hx := h.no hf
  obtain ⟨g1, g2, g3, g4⟩ := put_two wx (qb := rb) (.int .i64 (N : Nat)) rv' hx.r0.1 hx.r1.1
  rw [← hwy] at g1 g2 g3 g4
  have f0 : wy.frozen? ⟨rb, 0, none⟩ = false := by rw [hwy]; simpa using hx.r0.2
  have f1 : wy.frozen? ⟨rb, 1, none⟩ = false := by rw [hwy]; simpa using hx.r1.2
  have hsz := hx.fx.size
  have hrb : rb < wx.heap.size := World.block_lt_of_cell? wx _ hx.r0.1
  refine ⟨?_, hg, ?_, hD.cellF g1 f0 hx.rD.1, hD.cellF g2 f1 hx.rD.1, ?_, ?_, ?_, ?_, hx.rD.2⟩
  · refine Fx.trans' (hx.fx.trans' g3 fun j e hl => ?_) hD fun j hj hl => ?_
    · have e : j = rb := e; have := hx.rD.2; omega
    · have := hx.lo j hj; omega
  · rintro j (hj | hj)
    · exact hx.lo j hj
    · have := hj.1; omega
  · exact (hrow.keep g3 fun j hj e => (hap j hj).2 e).keep hD fun j hj => (hap j hj).1
  · intro j hj
    refine ⟨?_, (hap j hj).2⟩
    rintro (h1 | h1)
    · exact (hap j hj).1 h1
    · have := heb j hj; have := h1.1; omega
  · intro j hj; have := heb j hj; have := hD.size; omega
  · rintro (h1 | h1)
    · exact hx.rD.1 h1
    · have := h1.1; omega
end
#print axioms PG.step
end Go.Proofs.Yteafkafkbipcmaa

namespace Go.Proofs.Yteafkafkbipcmaa
open Go.RowKit
set_option linter.unusedVariables false

/-- the edges behind an Add -/
def addG (N : Nat) (L xs : List Ed) : List Ed := if xs.any (badE N) = true then L else addL L xs
def cntG (N : Nat) (L xs : List Ed) : Nat := (addG N L xs).length - L.length
def codeG (N : Nat) (xs : List Ed) : Int := if xs.any (badE N) = true then 130 else 0
theorem addG_len (N : Nat) (L xs : List Ed) : (addG N L xs).length ≤ L.length + xs.length := by
  unfold addG; split
  · omega
  · exact (addL_len L xs).2
section
variable {w w' : World} {D S E : Nat → Prop} {L xs : List Ed} {v u : Value} {b n : Nat}
theorem refAdd_both (h : EdsV w D v L) (ha : Asc L) (hx : EdsV w E u xs) (N : Nat) (hl : L.length + xs.length ≤ 1000000) : Calls Try.prog 29 #[.agg #[.int .i64 (N : Nat), v], u] w fun e w' => ∃ v', e = .returned (.tuple #[.agg #[.int .i64 (N : Nat), v'], .int .i64 (cntG N L xs : Nat), .int .i64 (codeG N xs)]) ∧ Fx No w w' ∧ EdsV w' (fun k => (D k ∨ w.heap.size ≤ k) ∧ k < w'.heap.size) v' (addG N L xs) := by
  by_cases hb : xs.any (badE N) = true
  · refine (refAdd_no h hx N hb).mono ?_
    rintro e w' ⟨rfl, hf⟩
    refine ⟨v, by rw [cntG, codeG, addG, if_pos hb, if_pos hb, Nat.sub_self]; rfl, hf, ?_⟩
    rw [addG, if_pos hb]
    exact ((RowV.bound h).no hf).mono fun k hk => ⟨.inl hk.1, Nat.lt_of_lt_of_le hk.2 hf.size⟩
  · refine (refAdd_any h ha hx N (by simpa using hb) hl).mono ?_
    rintro e w' ⟨v', c, rfl, hc, hf, hr⟩
    refine ⟨v', by rw [cntG, codeG, addG, if_neg hb, if_neg hb, show (addL L xs).length - L.length = c by omega], hf, ?_⟩
    rw [addG, if_neg hb]
    exact hr
theorem gAdd_both (h : GraphV w D b n L) (hx : EdsV w E v xs) (hE : ∀ k, E k → ¬ D k) (hok : ∀ x ∈ xs, x.ok) (hlen : L.length + xs.length ≤ 1000000) :
    Calls Try.prog 28 #[.pointer (some ⟨b, 0, none⟩), v] w fun r w' => r = .returned (.tuple #[.int .i64 (cntG n L xs : Nat), .int .i64 (codeG n xs)]) ∧ Fx D w w' ∧ GraphV w' (DU D w w') b n (addG n L xs) := by
  by_cases hb : xs.any (badE n) = true
  · refine (gAdd_no h hx hb).mono ?_
    rintro e w' ⟨rfl, hf⟩
    refine ⟨by rw [cntG, codeG, addG, if_pos hb, if_pos hb, Nat.sub_self]; rfl, hf.weaken, ?_⟩
    rw [addG, if_pos hb]
    exact h.du hf
  · refine (gAdd_any h hx hE hok (by simpa using hb) hlen).mono ?_
    rintro e w' ⟨rfl, hf, hg⟩
    refine ⟨by rw [cntG, codeG, addG, if_neg hb, if_neg hb], hf, ?_⟩
    rw [addG, if_neg hb]
    exact hg
end
/-- cells of integers that may be written -/
def CellsZ (w : World) (v : Value) (len : Nat) : Prop := ∀ g j, v.ownBlock = some g → j < len → ∃ z, w.cell? ⟨g, j, none⟩ = some (.int .i64 z) ∧ w.frozen? ⟨g, j, none⟩ = false
theorem CellsZ.of {w : World} {base : Nat} {e : TypeId} {size : Nat} {v : Value} {n : Nat} {xs : List Int} (h : w.ownsRow base e size v n (ints xs)) : CellsZ w v xs.length := by
  intro g j hg hj
  have hl : (ints xs).length = xs.length := by simp [ints]
  have hc := h.cells hg j ((ints xs)[j]'(by omega)) (by simp [hl, hj])
  rw [Addr.add_lit, Nat.zero_add] at hc
  rcases h.2 with ⟨e1, e2⟩ | ⟨g', cap, cur, e1, hb, hh, _⟩
  · subst e1; simp [Value.ownBlock] at hg
  · subst e1
    obtain rfl : g' = g := by simpa [Value.ownBlock] using hg
    exact ⟨xs[j], by rw [hc]; simp [ints], frozen_of_row _ _ _ _ _ hh⟩
theorem CellsZ.put {w : World} {v : Value} {len g x : Nat} (h : CellsZ w v len) (hg : v.ownBlock = some g) (z : Int) : CellsZ (w.setCell ⟨g, x, none⟩ (.int .i64 z)) v len := fun g' j hg' hj => by
  obtain rfl : g = g' := Option.some.inj (hg.symm.trans hg')
  obtain ⟨u, h1, h2⟩ := h g j hg hj
  by_cases e : j = x
  · subst e; exact ⟨z, World.cell?_setCell_same _ _ _ h1, by simpa using h2⟩
  · exact ⟨u, by rw [World.cell?_setCell_other _ _ _ _ (by intro e2; injection e2; omega)]; exact h1, by simpa using h2⟩
theorem CellsZ.fx {w w' : World} {S : Nat → Prop} {v : Value} {len : Nat} (h : CellsZ w v len) (hf : Fx S w w') (hn : ∀ g, v.ownBlock = some g → ¬ S g) : CellsZ w' v len := fun g j hg hj => by
  obtain ⟨u, h1, h2⟩ := h g j hg hj
  exact ⟨u, hf.cellF h1 h2 (hn g hg)⟩
theorem icells_ints {α : Type} (enc : α → List Int) (xs : List α) : icells enc xs = ints (xs.flatMap enc) := by
  unfold icells ints
  induction xs with
  | nil => rfl
  | cons x xs ih => simp [List.flatMap_cons, ih]
section
variable {w0 ws w' : World} {b rb N : Nat} {L L' : List Ed} {rv rv' : Value} {D E E' S : Nat → Prop}
theorem PG.fxS (h : PG w0 ws b rb N L rv D E) (hf : Fx S ws w') (hs : ∀ j, S j → w0.heap.size ≤ j ∧ ¬ D j ∧ ¬ E j ∧ j ≠ rb) : PG w0 w' b rb N L rv D E :=
  ⟨h.fx.trans' hf fun j hj hl => by have := (hs j hj).1; omega, h.g.keep hf fun j hj h1 => (hs j h1).2.1 hj, h.lo, hf.cellF h.r0.1 h.r0.2 (fun h1 => (hs _ h1).2.2.2 rfl), hf.cellF h.r1.1 h.r1.2 (fun h1 => (hs _ h1).2.2.2 rfl), h.row.keep hf fun j hj h1 => (hs j h1).2.2.1 hj, h.ap, fun j hj => Nat.lt_of_lt_of_le (h.eb j hj) hf.size, h.rD⟩
end
#print axioms refAdd_both
#print axioms gAdd_both
#print axioms PG.fxS
end Go.Proofs.Yteafkafkbipcmaa

namespace Go.Proofs.Yteafkafkbipcmaa
open Go.RowKit
set_option linter.unusedVariables false
section
variable {P : Program} {ops : Array Oper} {Q : Exit → Act → World → Prop} {md : Region.Mode} {s : Nat} {S : Bool → World → Prop}
theorem wpG_hold {f : Nat} {L : Array Bool} {a : Act} {W : World} (R : World → Prop) (hR : R W) (h : ∀ W', R W' → wpG P md ops Q s S f L a W') : wpG P md ops Q s S f L a W := h W hR
theorem wpG_two {i j : Nat} {oi oj : Oper} {f : Nat} {L : Array Bool} {a : Act} {w : World} (hr : Region.ready md ops L = [i, j]) (hi : ops[i]? = some oi) (hj : ops[j]? = some oj) (hc : Cl md ops s L)
    (h1 : ∀ K' : Act → World → Prop, Shut (∀ a w, S ((L.setIfInBounds i true).getD s false) w → (S ((L.setIfInBounds i true).getD s false) w → Cl md ops s (L.setIfInBounds i true) → wpG P md ops Q s S f (L.setIfInBounds i true) a w) → K' a w) → if Region.wanted oi (yielded ops a.tmps) = true then Oper.wp P oi a w K' Q else K' (a.put oi.dst undef) w)
    (h2 : ∀ K' : Act → World → Prop, Shut (∀ a w, S ((L.setIfInBounds j true).getD s false) w → (S ((L.setIfInBounds j true).getD s false) w → Cl md ops s (L.setIfInBounds j true) → wpG P md ops Q s S f (L.setIfInBounds j true) a w) → K' a w) → if Region.wanted oj (yielded ops a.tmps) = true then Oper.wp P oj a w K' Q else K' (a.put oj.dst undef) w) :
    wpG P md ops Q s S (f + 1) L a w :=
  ⟨fun h0 => (by rw [hr] at h0; cases h0), fun k hk => by
    have hk' := hk
    rw [hr, List.mem_cons, List.mem_singleton] at hk
    rcases hk with rfl | rfl
    · exact wpOp_step hi (fun K' hK => h1 K' (fun a w hS hW => hK a w ⟨hS, hW hS (cl_ready hc hk')⟩))
    · exact wpOp_step hj (fun K' hK => h2 K' (fun a w hS hW => hK a w ⟨hS, hW hS (cl_ready hc hk')⟩))⟩
end
#print axioms wpG_two
end Go.Proofs.Yteafkafkbipcmaa

namespace Go.Proofs.Yteafkafkbipcmaa
open Go.RowKit
set_option linter.unusedVariables false

/-- a function turned at one place -/
def upd' {α : Type} (f : Nat → α) (i : Nat) (v : α) : Nat → α := fun j => if j = i then v else f j
theorem upd'_same {α : Type} (f : Nat → α) (i : Nat) (v : α) : upd' f i v i = v := by simp [upd']
theorem upd'_ne {α : Type} (f : Nat → α) {i j : Nat} (v : α) (h : j ≠ i) : upd' f i v j = f j := by simp [upd', h]
/-- the temporaries, each operation's laid into its own -/
def setAll (t : Array Value) (x : Nat → Value) : Nat → List Oper → Array Value
  | _, [] => t
  | k, o :: r => match o.dst with
    | some d => (setAll t x (k + 1) r).setIfInBounds d (x k)
    | none => setAll t x (k + 1) r
theorem size_setAll (t : Array Value) (x : Nat → Value) : ∀ (l : List Oper) (k : Nat), (setAll t x k l).size = t.size
  | [], _ => rfl
  | o :: r, k => by
    unfold setAll
    cases o.dst with
    | none => exact size_setAll t x r (k + 1)
    | some d => rw [Array.size_setIfInBounds]; exact size_setAll t x r (k + 1)
theorem setAll_later (t : Array Value) (x : Nat → Value) (i : Nat) (v : Value) : ∀ (l : List Oper) (k : Nat), i < k → setAll t (upd' x i v) k l = setAll t x k l
  | [], _, _ => rfl
  | o :: r, k, h => by
    unfold setAll
    rw [setAll_later t x i v r (k + 1) (by omega), upd'_ne _ _ (by omega : k ≠ i)]
/-- the temporaries that operations write are written by one each -/
def dstsApart : List Oper → Bool
  | [] => true
  | o :: r => (match o.dst with
    | some d => r.all fun p => p.dst != some d
    | none => true) && dstsApart r
theorem setAll_put (t : Array Value) (x : Nat → Value) (i : Nat) (v : Value) : ∀ (l : List Oper) (k : Nat) (o : Oper) (d : Nat), dstsApart l = true → k ≤ i → l[i - k]? = some o → o.dst = some d →
    setAll t (upd' x i v) k l = (setAll t x k l).setIfInBounds d v
  | [], k, o, d, _, _, h, _ => by simp at h
  | p :: r, k, o, d, hd, hk, ho, he => by
    unfold dstsApart at hd
    rw [Bool.and_eq_true] at hd
    unfold setAll
    by_cases hik : i = k
    · subst hik
      rw [Nat.sub_self, List.getElem?_cons_zero, Option.some.injEq] at ho
      subst ho
      rw [he]
      simp only
      rw [setAll_later t x i v r (i + 1) (by omega), upd'_same, Array.setIfInBounds_setIfInBounds]
    · have h1 : r[i - (k + 1)]? = some o := by
        rw [show i - k = (i - (k + 1)) + 1 by omega, List.getElem?_cons_succ] at ho
        exact ho
      have ih := setAll_put t x i v r (k + 1) o d hd.2 (by omega) h1 he
      cases hp : p.dst with
      | none => exact ih
      | some d' =>
        simp only
        rw [ih, upd'_ne _ _ (by omega : k ≠ i)]
        have hne : d' ≠ d := by
          have h2 := hd.1
          rw [hp] at h2
          simp only [List.all_eq_true] at h2
          have h3 := h2 o (List.mem_of_getElem? h1)
          rw [he] at h3
          intro e
          subst e
          simp at h3
        exact Array.setIfInBounds_comm _ _ (Ne.symm hne)
theorem setAll_skip (t : Array Value) (x : Nat → Value) (i : Nat) (v : Value) : ∀ (l : List Oper) (k : Nat) (o : Oper), k ≤ i → l[i - k]? = some o → o.dst = none → setAll t (upd' x i v) k l = setAll t x k l
  | [], k, o, _, h, _ => by simp at h
  | p :: r, k, o, hk, ho, he => by
    unfold setAll
    by_cases hik : i = k
    · subst hik
      rw [Nat.sub_self, List.getElem?_cons_zero, Option.some.injEq] at ho
      subst ho
      rw [he]
      simp only
      exact setAll_later t x i v r (i + 1) (by omega)
    · have h1 : r[i - (k + 1)]? = some o := by
        rw [show i - k = (i - (k + 1)) + 1 by omega, List.getElem?_cons_succ] at ho
        exact ho
      rw [setAll_skip t x i v r (k + 1) o (by omega) h1 he, upd'_ne _ _ (by omega : k ≠ i)]
/-- what the temporaries hold at the start -/
def startX (t : Array Value) (ops : Array Oper) (i : Nat) : Value := match (ops[i]?).bind (·.dst) with
  | some d => t.getD d undef
  | none => undef
theorem setAll_start (t : Array Value) (x : Nat → Value) : ∀ (l : List Oper) (k : Nat), (∀ j o d, l[j]? = some o → o.dst = some d → x (k + j) = t.getD d undef) → setAll t x k l = t
  | [], _, _ => rfl
  | o :: r, k, h => by
    have ih := setAll_start t x r (k + 1) fun j o' d h1 h2 => by
      have := h (j + 1) o' d (by rw [List.getElem?_cons_succ]; exact h1) h2
      rw [show k + 1 + j = k + (j + 1) by omega]; exact this
    unfold setAll
    rw [ih]
    cases hd : o.dst with
    | none => rfl
    | some d =>
      simp only
      have h0 := h 0 o d rfl hd
      rw [Nat.add_zero] at h0
      rw [h0]
      apply Array.ext (by simp)
      intro i h1 h2
      rw [Array.getElem_setIfInBounds]
      split
      · rename_i e; subst e; simp [h2]
      · rfl
section
variable {P : Program} {ops : Array Oper} {Q : Exit → Act → World → Prop} {md : Region.Mode}
/-- the state: what came in, with what has come up laid into it -/
def actX (a0 : Act) (ops : Array Oper) (x : Nat → Value) : Act := { tmps := setAll a0.tmps x 0 ops.toList, defers := a0.defers }
theorem actX_put {a0 : Act} {x : Nat → Value} {i : Nat} {o : Oper} (hd : dstsApart ops.toList = true) (ho : ops[i]? = some o) (v : Value) : actX a0 ops (upd' x i v) = (actX a0 ops x).put o.dst v := by
  have h1 : ops.toList[i - 0]? = some o := by rw [Nat.sub_zero, Array.getElem?_toList]; exact ho
  unfold actX Act.put
  cases he : o.dst with
  | none => simp only; rw [setAll_skip _ _ _ _ _ _ _ (Nat.zero_le _) h1 he]
  | some d => simp only; rw [setAll_put _ _ _ _ _ _ _ _ hd (Nat.zero_le _) h1 he]
theorem actX_start (a0 : Act) (ops : Array Oper) : actX a0 ops (startX a0.tmps ops) = a0 := by
  unfold actX
  rw [setAll_start]
  intro j o d h1 h2
  rw [Nat.zero_add]
  unfold startX
  rw [Array.getElem?_toList] at h1
  rw [h1]
  simp [h2]
/-- what has come up has all that it waits for behind it -/
def Closed (md : Region.Mode) (ops : Array Oper) (L : Nat → Bool) : Prop := ∀ j o, ops[j]? = some o → L j = true → ∀ e ∈ o.after, Region.binds md e = true → L e.on = true
theorem off_of {L : Nat → Bool} (hC : Closed md ops L) {i : Nat} (hi : L i = false) (j : Nat) (h : (match ops[j]? with | some o => o.after.any fun e => Region.binds md e && e.on == i | none => false) = true) : L j = false := by
  cases hv : L j with
  | false => rfl
  | true =>
    exfalso
    cases ho : ops[j]? with
    | none => rw [ho] at h; cases h
    | some o =>
      rw [ho] at h
      obtain ⟨e, he, hb⟩ := Array.any_eq_true'.1 h
      simp only [Bool.and_eq_true, beq_iff_eq] at hb
      have := hC j o ho hv e he hb.1
      rw [hb.2, hi] at this
      cases this
/-- one operation's step -/
def StepOk (P : Program) (md : Region.Mode) (ops : Array Oper) (Q : Exit → Act → World → Prop) (act : (Nat → Value) → Act) (Inv : (Nat → Bool) → (Nat → Value) → World → Prop) (i : Nat) (o : Oper) : Prop :=
  ∀ (L : Nat → Bool) (x : Nat → Value) (w : World), Inv L x w → L i = false → (∀ e ∈ o.after, Region.binds md e = true → L e.on = true) → Closed md ops L → ∀ K : Act → World → Prop,
    Shut (∀ (v : Value) (w' : World) (a' : Act), a' = (act x).put o.dst v → Inv (upd' L i true) (upd' x i v) w' → K a' w') →
    if Region.wanted o (yielded ops (act x).tmps) = true then Oper.wp P o (act x) w K Q else K ((act x).put o.dst undef) w
def StepsOk (P : Program) (md : Region.Mode) (ops : Array Oper) (Q : Exit → Act → World → Prop) (act : (Nat → Value) → Act) (Inv : (Nat → Bool) → (Nat → Value) → World → Prop) : Nat → List Oper → Prop
  | _, [] => True
  | k, o :: r => StepOk P md ops Q act Inv k o ∧ StepsOk P md ops Q act Inv (k + 1) r
theorem StepsOk.at_ {act : (Nat → Value) → Act} {Inv : (Nat → Bool) → (Nat → Value) → World → Prop} : ∀ (l : List Oper) (k j : Nat) (o : Oper), StepsOk P md ops Q act Inv k l → l[j]? = some o → StepOk P md ops Q act Inv (k + j) o
  | [], _, _, _, _, h => by simp at h
  | p :: r, k, 0, o, h, ho => by
    rw [List.getElem?_cons_zero, Option.some.injEq] at ho
    subst ho
    exact h.1
  | p :: r, k, j + 1, o, h, ho => by
    rw [List.getElem?_cons_succ] at ho
    have := StepsOk.at_ r (k + 1) j o h.2 ho
    rwa [show k + 1 + j = k + (j + 1) by omega] at this
theorem dep_of {o : Oper} {L : Nat → Bool} (hD : ∀ e ∈ o.after, Region.binds md e = true → L e.on = true) (j : Nat) (h : (o.after.any fun e => Region.binds md e && e.on == j) = true) : L j = true := by
  obtain ⟨e, he, hb⟩ := Array.any_eq_true'.1 h
  simp only [Bool.and_eq_true, beq_iff_eq] at hb
  rw [← hb.2]
  exact hD e he hb.1
theorem countF_set {L : Array Bool} {i : Nat} (h : L.getD i true = false) : (L.setIfInBounds i true).toList.count false + 1 = L.toList.count false := by
  have hi : i < L.size := by
    rcases Nat.lt_or_ge i L.size with h' | h'
    · exact h'
    · simp [Array.getElem?_eq_none h'] at h
  have hL : L.toList[i]'(by simpa using hi) = false := by simpa [hi] using h
  rw [Array.toList_setIfInBounds, List.count_set (by simpa using hi), hL]
  have h2 : 0 < L.toList.count false := List.count_pos_iff.2 (by rw [← hL]; exact List.getElem_mem _)
  rw [if_pos (by rfl), if_neg (by decide)]
  omega
theorem getD_repl (n i : Nat) : (Array.replicate n false).getD i false = false := by
  rcases Nat.lt_or_ge i n with h | h
  · simp [h]
  · simp [Array.getElem?_eq_none (show (Array.replicate n false).size ≤ i by simpa using h)]
theorem least_false (p : Nat → Bool) : ∀ n : Nat, (∃ i, i < n ∧ p i = false) → ∃ i, i < n ∧ p i = false ∧ ∀ j, j < i → p j = true
  | 0, ⟨i, h, _⟩ => absurd h (by omega)
  | n + 1, ⟨i, h, hp⟩ => by
    by_cases hex : ∃ j, j < n ∧ p j = false
    · obtain ⟨k, h1, h2, h3⟩ := least_false p n hex
      exact ⟨k, by omega, h2, h3⟩
    · have hall : ∀ j, j < n → p j = true := fun j hj => by
        cases hv : p j with
        | true => rfl
        | false => exact absurd ⟨j, hj, hv⟩ hex
      have e : i = n := by
        rcases Nat.lt_or_ge i n with h1 | h1
        · rw [hall i h1] at hp; cases hp
        · omega
      subst e
      exact ⟨i, by omega, hp, hall⟩
theorem wpAny_inv {a0 : Act} {w0 : World} {act : (Nat → Value) → Act} (Inv : (Nat → Bool) → (Nat → Value) → World → Prop) (hd : dstsApart ops.toList = true) (hact : ∀ x, actX a0 ops x = act x)
    (h0 : Inv (fun _ => false) (startX a0.tmps ops) w0) (hs : StepsOk P md ops Q act Inv 0 ops.toList)
    (hdone : ∀ L x w, Inv L x w → (∀ i, i < ops.size → L i = true) → Q .normal (act x) w)
    (hback : ∀ o ∈ ops.toList.zipIdx, (o.1.after.all fun e => !Region.binds md e || decide (e.on < o.2)) = true) :
    wpAny P md ops Q ops.size (Array.replicate ops.size false) a0 w0 := by
  have main : ∀ (f : Nat) (La : Array Bool) (L : Nat → Bool) (x : Nat → Value) (w : World), La.size = ops.size → La.toList.count false = f → (∀ i, La.getD i false = true → L i = true) → (∀ i, i < ops.size → La.getD i false = L i) → Closed md ops L → Inv L x w →
      wpAny P md ops Q f La (act x) w := by
    intro f
    induction f with
    | zero =>
      intro La L x w hsz hc hLa hLe hcl hI
      have hall : ∀ i, i < ops.size → L i = true := fun i hi => by
        rw [← hLe i hi]
        cases hv : La.getD i false with
        | true => rfl
        | false =>
          exfalso
          have : 0 < La.toList.count false := List.count_pos_iff.2 (by
            have hi' : i < La.size := by omega
            have hv' : La[i] = false := by simpa [hi'] using hv
            rw [← hv']; simp)
          omega
      refine ⟨?_, hdone L x w hI hall⟩
      rw [List.eq_nil_iff_forall_not_mem]
      intro i hi
      obtain ⟨h1, o, ho, _⟩ := mem_ready.1 hi
      have hlt : i < ops.size := (Array.getElem?_eq_some_iff.1 ho).1
      have h2 := hLe i hlt
      rw [hall i hlt] at h2
      have hi' : i < La.size := by omega
      simp [hi'] at h1 h2
      rw [h1] at h2; cases h2
    | succ f ih =>
      intro La L x w hsz hc hLa hLe hcl hI
      refine ⟨fun hr => ?_, fun i hi => ?_⟩
      · -- the least that has not come up may come up
        exfalso
        obtain ⟨i, hi, hmin⟩ : ∃ i, (i < ops.size ∧ La.getD i false = false) ∧ ∀ j, j < i → La.getD j false = true := by
          have hex : ∃ i, i < ops.size ∧ La.getD i false = false := by
            have : 0 < La.toList.count false := by omega
            obtain ⟨i, hi, e⟩ := List.getElem_of_mem (List.count_pos_iff.1 this)
            have hi' : i < La.size := by simpa using hi
            exact ⟨i, by omega, by simpa [hi'] using e⟩
          obtain ⟨i, h1, h2, h3⟩ := least_false (fun i => La.getD i false) ops.size hex
          exact ⟨i, ⟨h1, h2⟩, h3⟩
        have hmem : i ∈ Region.ready md ops La := by
          have hi' : i < La.size := by omega
          refine mem_ready.2 ⟨by have := hi.2; simpa [hi'] using this, ops[i], Array.getElem?_eq_getElem hi.1, fun e he hb => ?_⟩
          have h1 := hback (ops[i], i) (by rw [List.mem_zipIdx_iff_getElem?]; simp [hi.1])
          rw [Array.all_eq_true_iff_forall_mem] at h1
          have h2 := h1 e he
          rw [hb] at h2
          exact hmin e.on (of_decide_eq_true (by simpa using h2))
        rw [hr] at hmem; cases hmem
      · obtain ⟨h1, o, ho, hall⟩ := mem_ready.1 hi
        have hlt : i < ops.size := (Array.getElem?_eq_some_iff.1 ho).1
        have hi' : i < La.size := by omega
        have hLi : L i = false := by
          rw [← hLe i hlt]
          simpa [hi'] using h1
        have hst := StepsOk.at_ ops.toList 0 i o hs (by rw [Array.getElem?_toList]; exact ho)
        rw [Nat.zero_add] at hst
        refine wpOp_step ho fun K' hK' => hst L x w hI hLi (fun e he hb => hLa _ (hall e he hb)) hcl K' fun v w' a' ha' hI' => hK' a' w' ?_
        subst ha'
        rw [← hact, ← actX_put hd ho v, hact]
        refine ih (La.setIfInBounds i true) (upd' L i true) (upd' x i v) w' (by rw [Array.size_setIfInBounds]; exact hsz) (by have := countF_set h1; omega) (fun j hj => ?_) (fun j hj => ?_) (fun j p hp hj e he hb => ?_) hI'
        · by_cases e : j = i
          · subst e; exact upd'_same _ _ _
          · rw [upd'_ne _ _ e]
            rw [getD_set_ne false (Ne.symm e)] at hj
            exact hLa j hj
        · by_cases e : j = i
          · subst e; rw [upd'_same]; simp [hi']
          · rw [upd'_ne _ _ e, getD_set_ne false (Ne.symm e)]; exact hLe j hj
        · have h5 : L e.on = true := by
            by_cases h6 : j = i
            · subst h6
              obtain rfl : p = o := Option.some.inj (hp.symm.trans ho)
              exact hLa _ (hall e he hb)
            · rw [upd'_ne _ _ h6] at hj
              exact hcl j p hp hj e he hb
          by_cases h6 : e.on = i
          · rw [h6, upd'_same]
          · rw [upd'_ne _ _ h6]; exact h5
  have := main ops.size (Array.replicate ops.size false) (fun _ => false) (startX a0.tmps ops) w0 (by simp) (by simp) (fun i hi => by rw [getD_repl] at hi; cases hi) (fun i _ => getD_repl _ _) (fun j o _ h => by cases h) h0
  rwa [← hact, actX_start] at this
theorem wp_region_inv {id : Nat} {a0 : Act} {w0 : World} {act : (Nat → Value) → Act} (Inv : (Nat → Bool) → (Nat → Value) → World → Prop) (hm : P.follows .mixedOrders = true) (hd : dstsApart ops.toList = true)
    (hback : (ops.toList.zipIdx.all fun o => o.1.after.all fun e => !Region.binds .any e || decide (e.on < o.2)) = true) (hact : ∀ x, actX a0 ops x = act x)
    (h0 : Inv (fun _ => false) (startX a0.tmps ops) w0.drew) (hs : StepsOk P .any ops Q act Inv 0 ops.toList)
    (hdone : ∀ L x w, Inv L x w → (∀ i, i < ops.size → L i = true) → Q .normal (act x) w) : (Code.region id ops true).wp P Q a0 w0 :=
  wp_region_any hm (wpAny_inv Inv hd hact h0 hs hdone (List.all_eq_true.1 hback))
end
#print axioms wp_region_inv
end Go.Proofs.Yteafkafkbipcmaa

namespace Go.Proofs.Yteafkafkbipcmaa
open Go.RowKit
set_option linter.unusedVariables false

def turnE (x : Ed) : Ed := ⟨x.t, x.f, x.l⟩
theorem turnE_inj {a b : Ed} (h : turnE a = turnE b) : a = b := by
  unfold turnE at h
  simp only [Ed.mk.injEq] at h
  exact Ed.ext' h.2.1 h.1 h.2.2
theorem turnE_turn (a : Ed) : turnE (turnE a) = a := rfl
/-- a graph turned about -/
def backL (L : List Ed) : List Ed := addL [] (L.map turnE)
theorem mem_backL {L : List Ed} {x : Ed} : x ∈ backL L ↔ turnE x ∈ L := by
  unfold backL
  rw [mem_addL, List.mem_map]
  constructor
  · rintro (h | ⟨y, hy, rfl⟩)
    · simp at h
    · exact hy
  · intro h; exact .inr ⟨_, h, rfl⟩
theorem backL_asc (L : List Ed) : Asc (backL L) := addL_asc Asc.nil _
theorem backL_back {L : List Ed} (h : Asc L) : backL (backL L) = L := Asc.same (backL_asc _) h fun x => by rw [mem_backL, mem_backL]; rfl
theorem backL_len (L : List Ed) : (backL L).length ≤ L.length := by have := (addL_len [] (L.map turnE)).2; simpa [backL] using this
theorem backL_take {L : List Ed} {k : Nat} (h : k < L.length) : addL [] ((L.take (k + 1)).map turnE) = insE (turnE (gt L k)) (addL [] ((L.take k).map turnE)) := by
  rw [take_gt h, List.map_append, List.map_singleton, addL_snoc]
theorem backL_new {L : List Ed} (ha : Asc L) {k : Nat} (h : k < L.length) : turnE (gt L k) ∉ addL [] ((L.take k).map turnE) := by
  rw [mem_addL]
  rintro (h1 | h1)
  · simp at h1
  · obtain ⟨y, hy, e⟩ := List.mem_map.1 h1
    have e := turnE_inj e
    subst e
    obtain ⟨i, hi, e⟩ := List.getElem_of_mem hy
    rw [List.length_take] at hi
    rw [List.getElem_take] at e
    have h2 : i < k := by omega
    have h3 : gt L k = L[k] := by simp [gt, h]
    have h4 := (List.pairwise_iff_getElem.1 ha) i k (by omega) h h2
    rw [e, h3] at h4
    exact Ed.lt_irrefl _ h4
/-- what the reference builds, whoever owns its row -/
structure StB (w1 ws : World) (ob : Nat) (N : Int) (vs : Value) (acc : List Ed) : Prop where
  fx : Fx No w1 ws
  o0 : ws.cell? ⟨ob, 0, none⟩ = some (.int .i64 N) ∧ ws.frozen? ⟨ob, 0, none⟩ = false
  o1 : ws.cell? ⟨ob, 1, none⟩ = some vs ∧ ws.frozen? ⟨ob, 1, none⟩ = false
  row : EdsV ws (fun j => ob < j ∧ j < ws.heap.size) vs acc
  lo : w1.heap.size ≤ ob ∧ ob < ws.heap.size
section
variable {w w' : World} {D S E : Nat → Prop} {L : List Ed} {v u : Value} {zs : List Int}
theorem namedE_eq (zs : List Int) (f t l : Int) : namedE zs ⟨f, t, l⟩ = (decide (f ∈ zs) && decide (t ∈ zs)) := rfl
end
end Go.Proofs.Yteafkafkbipcmaa
