/- graph: the rows behind a side; put, drop, of. -/
import Derived.Test.YtcfajeldkioomaaGD
namespace Go.Proofs.Ytcfajeldkioomaa
open Go.RowKit
set_option linter.unusedVariables false

/-- a row of a side: its value, its cell -/
structure RowAt (w : World) (D : Nat → Prop) (sb i : Nat) (v : Value) (xs : List Ed) : Prop where
  cell : w.cell? ⟨sb, i, none⟩ = some v
  live : w.frozen? ⟨sb, i, none⟩ = false
  own : OwnE w v xs
  lie : ∀ g, v.ownBlock = some g → D g ∧ g ≠ sb
/-- the rows of a side, each its own -/
structure RowsV (w : World) (D : Nat → Prop) (sb n : Nat) (row : Nat → List Ed) : Prop where
  at_ : D sb
  ex : ∃ vs : Nat → Value, (∀ i, i < n → RowAt w D sb i (vs i) (row i)) ∧ ∀ i j g, i < n → j < n → (vs i).ownBlock = some g → (vs j).ownBlock = some g → i = j
def upd (row : Nat → List Ed) (i : Nat) (xs : List Ed) : Nat → List Ed := fun j => if j = i then xs else row j
section
variable {w w' : World} {D S T : Nat → Prop} {sb n : Nat} {rr : Nat → List Ed}
theorem OwnE.lt {v : Value} {xs : List Ed} (h : OwnE w v xs) {g : Nat} (hg : v.ownBlock = some g) : g < w.heap.size := (OwnT.lt h hg).2
theorem RowAt.keep {i : Nat} {v : Value} {xs : List Ed} (h : RowAt w D sb i v xs) (hf : Fx S w w') (hs : ¬ S sb) (hg : ∀ g, v.ownBlock = some g → ¬ S g) : RowAt w' D sb i v xs :=
  ⟨hf.cell' h.cell hs, (hf.cellF h.cell h.live hs).2, h.own.fx hf hg, h.lie⟩
theorem RowsV.keep (h : RowsV w D sb n rr) (hf : Fx S w w') (hd : ∀ k, D k → ¬ S k) : RowsV w' D sb n rr := by
  obtain ⟨h1, vs, h2, h3⟩ := h
  exact ⟨h1, vs, fun i hi => (h2 i hi).keep hf (hd _ h1) fun g hg => hd g ((h2 i hi).lie g hg).1, h3⟩
theorem RowsV.no (h : RowsV w D sb n rr) (hf : Fx No w w') : RowsV w' D sb n rr := h.keep hf No.disj
theorem RowsV.mono (h : RowsV w D sb n rr) (hd : ∀ k, D k → T k) : RowsV w T sb n rr := by
  obtain ⟨h1, vs, h2, h3⟩ := h
  exact ⟨hd _ h1, vs, fun i hi => ⟨(h2 i hi).cell, (h2 i hi).live, (h2 i hi).own, fun g hg => ⟨hd _ ((h2 i hi).lie g hg).1, ((h2 i hi).lie g hg).2⟩⟩, h3⟩
theorem RowsV.rowAt (h : RowsV w D sb n rr) {i : Nat} (hi : i < n) : ∃ v, w.cell? ⟨sb, i, none⟩ = some v ∧ EdsV w (fun k => D k ∧ k < w.heap.size) v (rr i) := by
  obtain ⟨h1, vs, h2, h3⟩ := h
  refine ⟨vs i, (h2 i hi).cell, ?_⟩
  have h4 := h2 i hi
  have h5 : SlV w (fun b => (vs i).ownBlock = some b) (vs i) 3 (rr i).length (icells e3 (rr i)) := SlV.own h4.own
  exact (SlV.mono h5 fun k hk => ⟨(h4.lie k hk).1, h4.own.lt hk⟩)
theorem RowsV.congr {row' : Nat → List Ed} (h : RowsV w D sb n rr) (he : ∀ i, i < n → rr i = row' i) : RowsV w D sb n row' := by
  obtain ⟨h1, vs, h2, h3⟩ := h
  exact ⟨h1, vs, fun i hi => by rw [← he i hi]; exact h2 i hi, h3⟩
/-- behind a new row's store -/
theorem rowsV_store {vs : Nat → Value} {i : Nat} {v' : Value} {xs : List Ed} (hs : D sb) (h2 : ∀ i, i < n → RowAt w D sb i (vs i) (rr i)) (h3 : ∀ i j g, i < n → j < n → (vs i).ownBlock = some g → (vs j).ownBlock = some g → i = j) (hi : i < n)
    {w2 : World} (hf : Fx (fun b => (vs i).ownBlock = some b) w w2) (ho : OwnE w2 v' xs) (hb : ∀ g, v'.ownBlock = some g → (vs i).ownBlock = some g ∨ w.heap.size ≤ g) (hsb : sb < w.heap.size) :
    RowsV (w2.setCell ⟨sb, i, none⟩ v') (DU D w w2) sb n (upd rr i xs) ∧ Fx D w (w2.setCell ⟨sb, i, none⟩ v') := by
  have hd : ∀ b, (vs i).ownBlock = some b → D b ∧ b ≠ sb := (h2 i hi).lie
  have hns : ¬ (vs i).ownBlock = some sb := fun e => (hd sb e).2 rfl
  have c2 := hf.cellF (h2 i hi).cell (h2 i hi).live hns
  have hF : Fx D w (w2.setCell ⟨sb, i, none⟩ v') := (hf.mono fun k _ hk => (hd k hk).1).setCell (.inr hs) _
  have hp : Fx (fun j => j = sb) w2 (w2.setCell ⟨sb, i, none⟩ v') := Fx.put w2 sb i v'
  refine ⟨⟨.inl hs, fun j => if j = i then v' else vs j, fun j hj => ?_, fun j k g hj hk e1 e2 => ?_⟩, hF⟩
  · by_cases e : j = i
    · subst e
      simp only [↓reduceIte, upd]
      refine ⟨?_, ?_, ho.fx hp fun g hg e => ?_, fun g hg => ?_⟩
      · exact World.cell?_setCell_same _ _ _ c2.1
      · simpa using c2.2
      · subst e
        rcases hb g hg with h | h
        · exact hns h
        · omega
      · rcases hb g hg with h | h
        · exact ⟨.inl (hd g h).1, (hd g h).2⟩
        · exact ⟨.inr ⟨h, (ho.lt hg)⟩, by omega⟩
    · simp only [if_neg e, upd]
      have h4 := h2 j hj
      have c4 := hf.cellF h4.cell h4.live hns
      have hbs : ∀ g, (vs j).ownBlock = some g → ¬ (vs i).ownBlock = some g := fun g hg hg' => e (h3 j i g hj hi hg hg')
      refine ⟨?_, ?_, (h4.own.fx hf hbs).fx hp fun g hg e' => (h4.lie g hg).2 e', fun g hg => ⟨.inl (h4.lie g hg).1, (h4.lie g hg).2⟩⟩
      · have hne : (⟨sb, i, none⟩ : Addr) ≠ ⟨sb, j, none⟩ := by
          intro q
          exact e (congrArg Addr.off q).symm
        exact (World.cell?_setCell_other _ _ _ _ hne).trans c4.1
      · simpa using c4.2
  · by_cases e3 : j = i
    · by_cases e4 : k = i
      · omega
      · simp only [if_pos e3, if_neg e4] at e1 e2
        rcases hb g e1 with h | h
        · exact absurd (h3 i k g hi hk h e2) (fun q => e4 q.symm)
        · have := (h2 k hk).own.lt e2; omega
    · by_cases e4 : k = i
      · simp only [if_neg e3, if_pos e4] at e1 e2
        rcases hb g e2 with h | h
        · exact absurd (h3 j i g hj hi e1 h) e3
        · have := (h2 j hj).own.lt e1; omega
      · simp only [if_neg e3, if_neg e4] at e1 e2
        exact h3 j k g hj hk e1 e2
end
#print axioms rowsV_store
end Go.Proofs.Ytcfajeldkioomaa
