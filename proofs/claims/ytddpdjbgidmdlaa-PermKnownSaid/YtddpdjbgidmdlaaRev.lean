/- Contracts: slices.Reverse, slices.Clone of ints. -/
import Derived.Test.YtddpdjbgidmdlaaInts
import Derived.RegionTactic
namespace Go.Proofs.Ytddpdjbgidmdlaa
open Go.RowKit
set_option linter.unusedVariables false

/-- cells that may be written read as these numbers -/
def CellsI (w : World) (g o : Nat) (l : List Int) : Prop := ∀ j, j < l.length → w.cell? ⟨g, o + j, none⟩ = some (.int .i64 (gi l j)) ∧ w.frozen? ⟨g, o + j, none⟩ = false
theorem OwnI.cells {w : World} {base g n cap : Nat} {l : List Int} (h : OwnI w base (.slice (some ⟨g, 0, none⟩) n cap) l) : CellsI w g 0 l := by
  intro j hj
  unfold OwnI at h
  refine ⟨?_, ?_⟩
  · have h2 := h.cells (g := g) rfl j (.int .i64 (gi l j)) (by simp [Proofs.Ytddpdjbgidmdlaa.ints, gi, hj])
    rw [Addr.add_lit] at h2
    exact h2
  · rcases h.2 with ⟨h1, _⟩ | ⟨g', c', cur, h1, _⟩
    · simp at h1
    · simp only [Value.slice.injEq] at h1
      obtain ⟨_, e, _⟩ := h1
      rw [← e] at h
      exact World.ownsRow.frozenAt h (0 + j)
/-- read so -/
theorem CellsI.ints {w : World} {D : Nat → Prop} {g o cap : Nat} {l : List Int} (h : CellsI w g o l) (hd : D g) (h1 : l.length ≤ cap) (h2 : cap ≤ 9223372036854775807) : IntsV w D (.slice (some ⟨g, o, none⟩) l.length cap) l := by
  refine ⟨_, cap, rfl, h1, by unfold maxLen; omega, by simp [Proofs.Ytddpdjbgidmdlaa.ints], by simp, .inr ⟨g, o, rfl, hd, fun i hi => ?_⟩⟩
  have hi' : i < l.length := by simpa [Proofs.Ytddpdjbgidmdlaa.ints] using hi
  rw [(h i hi').1]
  simp [Proofs.Ytddpdjbgidmdlaa.ints, gi, hi']
theorem CellsI.fx {S : Nat → Prop} {w w' : World} {g o : Nat} {l : List Int} (h : CellsI w g o l) (hf : Fx S w w') (hn : ¬ S g) : CellsI w' g o l :=
  fun j hj => hf.cellF (h j hj).1 (h j hj).2 hn
/-- k at each end exchanged -/
def revAt (l : List Int) (k j : Nat) : Int := if j < k ∨ l.length ≤ j + k then gi l (l.length - 1 - j) else gi l j
theorem gi_reverse {l : List Int} {j : Nat} (h : j < l.length) : gi l.reverse j = gi l (l.length - 1 - j) := by
  have h1 : j < l.reverse.length := by simpa using h
  have h2 : l.length - 1 - j < l.length := by omega
  simp [gi, h, h2]
theorem cell_set2 {w : World} {g a b : Nat} {x y : Value} (hab : a ≠ b) {u v : Value} (ha : w.cell? ⟨g, a, none⟩ = some u) (hb : w.cell? ⟨g, b, none⟩ = some v) :
    ((w.setCell ⟨g, a, none⟩ x).setCell ⟨g, b, none⟩ y).cell? ⟨g, a, none⟩ = some x ∧ ((w.setCell ⟨g, a, none⟩ x).setCell ⟨g, b, none⟩ y).cell? ⟨g, b, none⟩ = some y := by
  have hne : (⟨g, b, none⟩ : Addr) ≠ ⟨g, a, none⟩ := by intro e; injection e; omega
  have h1 : (w.setCell ⟨g, a, none⟩ x).cell? ⟨g, a, none⟩ = some x := World.cell?_setCell_same w _ x ha
  have h2 : (w.setCell ⟨g, a, none⟩ x).cell? ⟨g, b, none⟩ = some v := (World.cell?_setCell_other w _ _ x hne.symm).trans hb
  exact ⟨(World.cell?_setCell_other _ _ _ y hne).trans h1, World.cell?_setCell_same _ _ y h2⟩
theorem cell_set2_other {w : World} {g a b j : Nat} {x y : Value} (h1 : j ≠ a) (h2 : j ≠ b) : ((w.setCell ⟨g, a, none⟩ x).setCell ⟨g, b, none⟩ y).cell? ⟨g, j, none⟩ = w.cell? ⟨g, j, none⟩ := by
  have e1 : (⟨g, b, none⟩ : Addr) ≠ ⟨g, j, none⟩ := by intro e; injection e; omega
  have e2 : (⟨g, a, none⟩ : Addr) ≠ ⟨g, j, none⟩ := by intro e; injection e; omega
  rw [World.cell?_setCell_other _ _ _ y e1, World.cell?_setCell_other _ _ _ x e2]
theorem revAt_step {l : List Int} {k J : Nat} (h : k + J + 1 = l.length) (hk : k < J) (j : Nat) (hj : j < l.length) :
    revAt l (k + 1) j = if j = k then gi l J else if j = J then gi l k else revAt l k j := by
  unfold revAt
  by_cases e1 : j = k
  · subst e1
    rw [if_pos (by omega), if_pos rfl]; congr 1; omega
  · rw [if_neg e1]
    by_cases e2 : j = J
    · subst e2
      rw [if_pos (by omega), if_pos rfl]; congr 1; omega
    · rw [if_neg e2]
      by_cases e3 : j < k ∨ l.length ≤ j + k
      · rw [if_pos (by omega), if_pos e3]
      · rw [if_neg (by omega), if_neg e3]
def RevInv (w wr : World) (g o : Nat) (l : List Int) (k : Nat) : Prop :=
  (∀ j, j < l.length → wr.cell? ⟨g, o + j, none⟩ = some (.int .i64 (revAt l k j)) ∧ wr.frozen? ⟨g, o + j, none⟩ = false) ∧ Fx (fun k => k = g) w wr ∧ ∀ j u, j < o → w.cell? ⟨g, j, none⟩ = some u → wr.cell? ⟨g, j, none⟩ = some u
theorem RevInv.step {w wr : World} {g o : Nat} {l : List Int} {k J : Nat} (h : RevInv w wr g o l k) (hl : k + J + 1 = l.length) (hk : k < J) :
    RevInv w ((wr.setCell ⟨g, o + k, none⟩ (.int .i64 (gi l J))).setCell ⟨g, o + J, none⟩ (.int .i64 (gi l k))).drew g o l (k + 1) := by
  obtain ⟨h1, h2, h3⟩ := h
  obtain ⟨c1, c2⟩ := cell_set2 (x := .int .i64 (gi l J)) (y := .int .i64 (gi l k)) (show o + k ≠ o + J by omega) (h1 k (by omega)).1 (h1 J (by omega)).1
  refine ⟨fun j hj => ⟨?_, ?_⟩, ((h2.setCell (.inr rfl) _).setCell (.inr rfl) _).drew, fun j u hj hu => ?_⟩
  · show ((wr.setCell _ _).setCell _ _).cell? _ = _
    rw [revAt_step hl hk j hj]
    by_cases e1 : j = k
    · subst e1; rw [if_pos rfl]; exact c1
    · rw [if_neg e1]
      by_cases e2 : j = J
      · subst e2; rw [if_pos rfl]; exact c2
      · rw [if_neg e2, cell_set2_other (by omega) (by omega)]
        exact (h1 j hj).1
  · show ((wr.setCell _ _).setCell _ _).frozen? _ = _
    simpa using (h1 j hj).2
  · show ((wr.setCell _ _).setCell _ _).cell? _ = _
    rw [cell_set2_other (by omega) (by omega)]
    exact h3 j u hj hu
set_option maxHeartbeats 1000000 in
theorem reverse_any {w : World} {g o n cap : Nat} {l : List Int} (h : CellsI w g o l) (hn : n = l.length) (hl : l.length ≤ 1000000) :
    Calls Try.prog 41 #[.slice (some ⟨g, o, none⟩) n cap] w fun e w' => e = .returned (.tuple #[]) ∧ Fx (fun k => k = g) w w' ∧ CellsI w' g o l.reverse ∧ ∀ j u, j < o → w.cell? ⟨g, j, none⟩ = some u → w'.cell? ⟨g, j, none⟩ = some u := by
  subst hn
  obtain ⟨len, hlen⟩ : ∃ k, k = l.length := ⟨_, rfl⟩
  rw [← hlen] at hl ⊢
  have HLen := Lib.hid hlen
  have H := Lib.hid h
  clear h hlen
  go_enter Try.func41, Try.ntmps41
  go_wp2
  go_loopw [2, 3] (fun i j wr => ∃ (k : Nat) (jz : Int), i = .int .i64 k ∧ j = .int .i64 jz ∧ jz + k + 1 = len ∧ RevInv w wr g o l k) (fun _ j _ => (intOf j + 1).toNat)
  case atStart => exact ⟨0, (len : Int) - 1, rfl, rfl, by omega, fun j hj => by
    have : revAt l 0 j = gi l j := by unfold revAt; rw [if_neg (by omega)]
    rw [this]; exact H.out j hj, Fx.refl _ _, fun j u _ hu => hu⟩
  case round =>
    obtain ⟨k, jz, rfl, rfl, hjz, hi⟩ := hrel
    have HJ := Lib.hid hjz
    have HI := Lib.hid hi
    clear hi
    by_cases hlt : (k : Int) < jz
    · obtain ⟨J, rfl⟩ := Int.eq_ofNat_of_zero_le (show 0 ≤ jz by omega)
      have hkJ : k < J := by omega
      have HL : Hid (k + J + 1 = l.length) := by rw [← HLen.out]; show _ = _; omega
      have hJl : J < len := by omega
      have hkl : k < len := by omega
      obtain ⟨a1, a2⟩ := HI.out.1 k (by rw [← HLen.out]; exact hkl)
      obtain ⟨b1, b2⟩ := HI.out.1 J (by rw [← HLen.out]; exact hJl)
      have e1 : revAt l k k = gi l k := by unfold revAt; rw [if_neg (by have := HL.out; omega)]
      have e2 : revAt l k J = gi l J := by unfold revAt; rw [if_neg (by have := HL.out; omega)]
      rw [e1] at a1
      rw [e2] at b1
      have hst := HI.out.step HL.out hkJ
      have HST := Lib.hid hst
      clear e1 e2 hst hjz
      go_wp2
      go_region
      all_goals
        go_wp2
        go_roundw
        case rel => exact ⟨k + 1, (J : Int) - 1, by go_num, rfl, by have := HJ.out; omega, HST.out⟩
        case measure => simp [intOf] <;> omega
    · have hc : jz ≤ (k : Int) := by omega
      clear hlt hjz
      go_wp2
      go_end0
      refine ⟨rfl, HI.out.2.1, fun j hj => ?_, HI.out.2.2⟩
      have hj' : j < l.length := by simpa using hj
      have h1 := HI.out.1 j hj'
      have e : revAt l k j = gi l.reverse j := by
        rw [gi_reverse hj']
        unfold revAt
        by_cases e : j < k ∨ l.length ≤ j + k
        · rw [if_pos e]
        · rw [if_neg e]
          have h2 := HJ.out
          have h3 := HLen.out
          congr 1; omega
      rw [e] at h1
      exact h1
end Go.Proofs.Ytddpdjbgidmdlaa
