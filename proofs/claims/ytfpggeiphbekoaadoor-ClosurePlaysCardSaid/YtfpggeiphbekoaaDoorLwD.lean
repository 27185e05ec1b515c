/- The laws of closures: is. -/
import Derived.Test.YtfpggeiphbekoaaDoorLwC
namespace Go.Proofs.YtfpggeiphbekoaaDoor
open Go.RowKit
set_option linter.unusedVariables false

/-- cells that may be written -/
def CellsW (w : World) (v : Value) (len : Nat) : Prop := ∀ g j, v.ownBlock = some g → j < len → ∃ u, w.cell? ⟨g, j, none⟩ = some u ∧ w.frozen? ⟨g, j, none⟩ = false
theorem CellsW.of {w : World} {base : Nat} {e : TypeId} {size : Nat} {v : Value} {n : Nat} {xs : List Value} (h : w.ownsRow base e size v n xs) : CellsW w v xs.length := by
  intro g j hg hj
  have hc := h.cells hg j (xs[j]) (by simp [hj])
  rw [Addr.add_lit, Nat.zero_add] at hc
  rcases h.2 with ⟨e1, e2⟩ | ⟨g', cap, cur, e1, hb, hh, _⟩
  · subst e1; simp [Value.ownBlock] at hg
  · subst e1
    obtain rfl : g' = g := by simpa [Value.ownBlock] using hg
    exact ⟨_, hc, frozen_of_row _ _ _ _ _ hh⟩
theorem CellsW.fx {w w' : World} {S : Nat → Prop} {v : Value} {len : Nat} (h : CellsW w v len) (hf : Fx S w w') (hn : ∀ g, v.ownBlock = some g → ¬ S g) : CellsW w' v len := fun g j hg hj => by
  obtain ⟨u, h1, h2⟩ := h g j hg hj
  exact ⟨u, hf.cellF h1 h2 (hn g hg)⟩
theorem CellsW.put {w : World} {v : Value} {len g x : Nat} (h : CellsW w v len) (hg : v.ownBlock = some g) (a : Value) : CellsW (w.setCell ⟨g, x, none⟩ a) v len := fun g' j hg' hj => by
  obtain rfl : g = g' := Option.some.inj (hg.symm.trans hg')
  obtain ⟨u, h1, h2⟩ := h g j hg hj
  by_cases e : j = x
  · subst e; exact ⟨a, World.cell?_setCell_same _ _ _ h1, by simpa using h2⟩
  · exact ⟨u, by rw [World.cell?_setCell_other _ _ _ _ (by intro e2; injection e2; omega)]; exact h1, by simpa using h2⟩
theorem filter_lt_allX {n X I : Nat} : allX (I + 1) X = allX I X ++ if X.testBit I then [(I : Int)] else [] := allX_succ I X
theorem loopsG_dn (dn : Nat → Nat) (n : Nat) : loopsG (fun i j => (dn i).testBit j) n = loopsTo dn n := rfl
theorem leads_neg (n : Nat) (dn : Nat → Nat) (i : Int) : leadsB n dn i (-1) = false := by unfold leadsB hasB; simp
theorem leads_over (n : Nat) (dn : Nat → Nat) (j : Int) : leadsB n dn (n : Int) j = false := by
  unfold leadsB ofM hasB
  rw [if_neg (by omega)]
  simp
theorem refLeast_eq {n : Nat} {dn up ed : Nat → Nat} (h : CloOk n dn up ed) : refLeastL (edgesTo n ed n) n = leastL n dn ed := by
  have hg : ∀ i j, i < n → j < n → wayB (edgeP (edgesTo n ed n)) i j = (dn i).testBit j := fun i j hi hj => by
    rw [Bool.eq_iff_iff, wayB_iff, h.dn i j hi hj]
  unfold refLeastL leastL cycB
  rw [loopsG_congr hg, loopsG_dn]
  by_cases hc : 0 < (loopsTo dn n).length
  · rw [if_pos hc, if_pos (by simpa using hc)]
  · rw [if_neg hc, if_neg (by simpa using hc)]
    have hcyc : ∀ i, ¬ Way (edgeP (edgesTo n ed n)) i i := fun i hw => by
      have hi := (hw.lt edgeP_lt).1
      have := (h.dn i i hi hi).2 hw
      have hm : (i : Int) ∈ loopsTo dn n := by
        unfold loopsTo
        exact List.mem_map.2 ⟨i, List.mem_filter.2 ⟨List.mem_range.2 hi, this⟩, rfl⟩
      exact hc (List.length_pos_of_mem hm)
    refine List.filter_congr fun q hq => ?_
    obtain ⟨a, b⟩ := q
    obtain ⟨i, j, rfl, rfl, hi, hj, hb⟩ := mem_edgesTo.1 hq
    have he : edgeP (edgesTo n ed n) i j := edgeP_iff.2 ⟨hi, hj, hb⟩
    have hsub : ∀ x y, edgeP (withoutL (edgesTo n ed n) ((i : Int), (j : Int))) x y ↔ subE (edgeP (edgesTo n ed n)) i j x y := fun x y => by
      unfold edgeP subE withoutL
      rw [List.mem_filter]
      constructor
      · rintro ⟨h1, h2⟩
        refine ⟨h1, fun e => ?_⟩
        obtain ⟨rfl, rfl⟩ := e
        simp at h2
      · rintro ⟨h1, h2⟩
        refine ⟨h1, ?_⟩
        show (!((x : Int) == (i : Int) && (y : Int) == (j : Int))) = true
        by_cases e1 : x = i
        · by_cases e2 : y = j
          · exact absurd ⟨e1, e2⟩ h2
          · have : ((y : Int) == (j : Int)) = false := by rw [beq_eq_false_iff_ne]; omega
            rw [this]; simp
        · have : ((x : Int) == (i : Int)) = false := by rw [beq_eq_false_iff_ne]; omega
          rw [this]; simp
    have hw := way_about hcyc he
    show (!wayB _ (Int.toNat (i : Int)) (Int.toNat (j : Int))) = neededB n dn ed (i : Int) (j : Int)
    rw [Int.toNat_natCast, Int.toNat_natCast]
    have h1 : wayB (edgeP (withoutL (edgesTo n ed n) ((i : Int), (j : Int)))) i j = true ↔ ∃ x, edgeP (edgesTo n ed n) i x ∧ x ≠ j ∧ Way (edgeP (edgesTo n ed n)) x j := by
      rw [wayB_iff, Way.congr hsub, hw]
    have hN : ofN n (i : Int) = n := by unfold ofN; rw [if_pos (by omega)]
    have hM : ofM n ed (i : Int) = ed i := by unfold ofM; rw [if_pos (by omega)]; rfl
    rw [Bool.eq_iff_iff, Bool.not_eq_true', Bool.eq_false_iff, Ne, h1]
    unfold neededB
    rw [hN, hM, List.all_eq_true]
    constructor
    · intro hno z hz
      obtain ⟨x, rfl, hx, hxb⟩ := mem_allX.1 hz
      rw [leadsB_nat hx]
      by_cases e : x = j
      · subst e; simp
      · cases ht : (dn x).testBit j
        · simp
        · exact absurd ⟨x, edgeP_iff.2 ⟨hi, hx, hxb⟩, e, (h.dn x j hx hj).1 ht⟩ hno
    · rintro hall ⟨x, hx, hne, hway⟩
      obtain ⟨_, hxn, hxb⟩ := edgeP_iff.1 hx
      have := hall (x : Int) (mem_allX.2 ⟨x, rfl, hxn, hxb⟩)
      rw [leadsB_nat hxn, (h.dn x j hxn hj).2 hway] at this
      simp at this
      omega
#print axioms refLeast_eq
end Go.Proofs.YtfpggeiphbekoaaDoor
