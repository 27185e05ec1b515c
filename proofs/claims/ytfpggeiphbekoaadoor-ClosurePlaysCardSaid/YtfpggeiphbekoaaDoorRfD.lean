/- The reference of closures: All: a matrix of truths in memory. -/
import Derived.Test.YtfpggeiphbekoaaDoorRfC
namespace Go.Proofs.YtfpggeiphbekoaaDoor
open Go.RowKit
set_option linter.unusedVariables false

theorem info_bool : (Tryd.prog.info? 4).map (fun i => (i.zero, i.size, i.bytes)) = some (some (.bool false), 1, 1) := by kernel_rfl
theorem info_bools : (Tryd.prog.info? 81).map (fun i => (i.zero, i.size, i.bytes)) = some (some (.slice none 0 0), 1, 24) := by kernel_rfl
def zeroBools (k : Nat) : Array Value := Array.replicate k (.bool false)
theorem makeBools {E : Int} {k : Nat} (h0 : 0 ≤ E) (h1 : E ≤ 1000000) (hk : E.toNat = k) (w : World) :
    (Instr.makeSlice 81 (.int .i64 E) (.int .i64 E)).run Tryd.prog w = .ok (.slice (some ⟨w.heap.size, 0, none⟩) k k) (w.alloc (.cells (zeroBools k) 4)) := by
  obtain ⟨i, hi, hz, hs, hb⟩ := info_parts info_bool
  have := run_make (P := Tryd.prog) w 81 4 i _ Tryd.underlying81 hi hz .i64 .i64 E E h0 (Int.le_refl _) (by rw [hb]; omega) (by omega)
  rw [this, hk, hs]
  have e : madeCells (Value.bool false).cells (k * 1) = zeroBools k := by
    apply Array.ext'
    rw [show (Value.bool false).cells = #[.bool false] from rfl, toList_madeCells_one]
    simp [zeroBools]
  rw [e]
/-- rows behind a slice -/
def rowsL (B : Nat → Nat) (n k : Nat) : List Value := (List.range k).map fun i => .slice (some ⟨B i, 0, none⟩) n n
theorem rowsL_succ (B : Nat → Nat) (n k : Nat) : rowsL B n (k + 1) = rowsL B n k ++ [.slice (some ⟨B k, 0, none⟩) n n] := by simp [rowsL, List.range_succ]
theorem rowsL_at {B : Nat → Nat} {n k i : Nat} (h : i < k) : (rowsL B n k)[i]? = some (.slice (some ⟨B i, 0, none⟩) n n) := by simp [rowsL, h]
theorem rowsL_length (B : Nat → Nat) (n k : Nat) : (rowsL B n k).length = k := by simp [rowsL]
theorem rowsL_congr {B C : Nat → Nat} {n k : Nat} (h : ∀ i, i < k → B i = C i) : rowsL B n k = rowsL C n k := by
  unfold rowsL
  refine List.map_congr_left fun i hi => ?_
  rw [h i (List.mem_range.1 hi)]
/-- the first k rows are made -/
structure MatS (w ws : World) (lo n k : Nat) (vs : Value) (B : Nat → Nat) : Prop where
  fx : Fx No w ws
  own : ws.ownsRow lo 81 1 vs k (rowsL B n k)
  cel : ∀ i j, i < k → j < n → ws.cell? ⟨B i, j, none⟩ = some (.bool false) ∧ ws.frozen? ⟨B i, j, none⟩ = false
  inj : ∀ i j, i < k → j < k → B i = B j → i = j
  ne : ∀ i g, i < k → vs.ownBlock = some g → B i ≠ g
  low : w.heap.size ≤ lo ∧ lo ≤ ws.heap.size ∧ ∀ i, i < k → lo ≤ B i ∧ B i < ws.heap.size
theorem MatS.step {w ws w2 : World} {lo n k : Nat} {vs v' : Value} {B : Nat → Nat} {t : TypeId} {lit : Obj} (h : MatS w ws lo n k vs B) (hfx : Fx (fun g => vs.ownBlock = some g) ((ws.alloc (.cells (zeroBools n) t)).alloc lit) w2)
    (ho : w2.ownsRow lo 81 1 v' (k + 1) (rowsL B n k ++ [.slice (some ⟨ws.heap.size, 0, none⟩) n n])) (hb : ∀ g, v'.ownBlock = some g → vs.ownBlock = some g ∨ ws.heap.size + 2 ≤ g) :
    MatS w w2 lo n (k + 1) v' (fun j => if j = k then ws.heap.size else B j) := by
  obtain ⟨l1, l2, l3⟩ := h.low
  have hvs : ∀ g, vs.ownBlock = some g → lo ≤ g ∧ g < ws.heap.size := fun g e => World.ownsRow.lt h.own g e
  have hz2 := hfx.size
  simp only [World.size_alloc] at hz2
  have hfa : Fx (fun g => vs.ownBlock = some g) ws w2 := (((Fx.refl No ws).alloc _).alloc _).no.trans hfx
  have hb0 := heap_alloc_new ws (.cells (zeroBools n) t)
  have hb1 := hfx.at_ (((Fx.refl No (ws.alloc (.cells (zeroBools n) t))).alloc lit).at_ hb0 (fun h => h)) (fun e => by have := (hvs _ e).2; omega)
  refine ⟨h.fx.trans' hfa fun g e hl => by have := (hvs g e).1; omega, ?_, fun i j hi hj => ?_, fun i j hi hj e => ?_, fun i g hi hg => ?_, l1, by omega, fun i hi => ?_⟩
  · rw [rowsL_succ]
    simp only [if_true]
    rw [rowsL_congr (C := B) fun i hi => by simp [show i ≠ k by omega]]
    exact ho
  · by_cases e : i = k
    · subst e
      simp only [if_true]
      exact ⟨by rw [cell_of_row _ _ _ _ _ _ hb1]; simp [zeroBools, hj], frozen_of_row _ _ _ _ _ hb1⟩
    · simp only [if_neg e]
      obtain ⟨c1, c2⟩ := h.cel i j (by omega) hj
      exact hfa.cellF c1 c2 fun e2 => h.ne i (B i) (by omega) e2 rfl
  · by_cases e1 : i = k
    · by_cases e2 : j = k
      · omega
      · simp only [e1, if_true, if_neg e2] at e
        have := (l3 j (by omega)).2; omega
    · by_cases e2 : j = k
      · simp only [e2, if_true, if_neg e1] at e
        have := (l3 i (by omega)).2; omega
      · simp only [if_neg e1, if_neg e2] at e
        exact h.inj i j (by omega) (by omega) e
  · rcases hb g hg with h1 | h1
    · by_cases e : i = k
      · simp only [e, if_true]; have := (hvs g h1).2; omega
      · simp only [if_neg e]; exact h.ne i g (by omega) h1
    · by_cases e : i = k
      · simp only [e, if_true]; omega
      · simp only [if_neg e]; have := (l3 i (by omega)).2; omega
  · by_cases e : i = k
    · simp only [e, if_true]; omega
    · simp only [if_neg e]; have := l3 i (by omega); omega
/-- a matrix of n rows of n truths, which may be written -/
structure Mat (w : World) (lo n : Nat) (vo : Value) (gO : Nat) (B : Nat → Nat) (g : Nat → Nat → Bool) : Prop where
  shape : ∃ ao cap, vo = .slice ao n cap ∧ (0 < n → ao = some ⟨gO, 0, none⟩) ∧ n ≤ cap ∧ cap ≤ maxLen
  row : ∀ i, i < n → w.cell? ⟨gO, i, none⟩ = some (.slice (some ⟨B i, 0, none⟩) n n)
  cel : ∀ i j, i < n → j < n → w.cell? ⟨B i, j, none⟩ = some (.bool (g i j)) ∧ w.frozen? ⟨B i, j, none⟩ = false
  inj : ∀ i j, i < n → j < n → B i = B j → i = j
  ne : ∀ i, i < n → B i ≠ gO
  low : ∀ i, i < n → lo ≤ gO ∧ lo ≤ B i
theorem Mat.fx {w w' : World} {S : Nat → Prop} {lo n gO : Nat} {vo : Value} {B : Nat → Nat} {g : Nat → Nat → Bool} (h : Mat w lo n vo gO B g) (hf : Fx S w w') (hd : ∀ x, lo ≤ x → ¬ S x) : Mat w' lo n vo gO B g :=
  ⟨h.shape, fun i hi => hf.cell' (h.row i hi) (hd _ (h.low i hi).1), fun i j hi hj => hf.cellF (h.cel i j hi hj).1 (h.cel i j hi hj).2 (hd _ (h.low i hi).2), h.inj, h.ne, h.low⟩
theorem Mat.congr {w : World} {lo n gO : Nat} {vo : Value} {B : Nat → Nat} {g g' : Nat → Nat → Bool} (h : Mat w lo n vo gO B g) (e : ∀ i j, i < n → j < n → g i j = g' i j) : Mat w lo n vo gO B g' :=
  ⟨h.shape, h.row, fun i j hi hj => by rw [← e i j hi hj]; exact h.cel i j hi hj, h.inj, h.ne, h.low⟩
def setG (g : Nat → Nat → Bool) (i j : Nat) (b : Bool) : Nat → Nat → Bool := fun x y => if x = i ∧ y = j then b else g x y
theorem Mat.set {w : World} {lo n gO i j : Nat} {vo : Value} {B : Nat → Nat} {g : Nat → Nat → Bool} (h : Mat w lo n vo gO B g) (hi : i < n) (hj : j < n) (b : Bool) : Mat (w.setCell ⟨B i, j, none⟩ (.bool b)) lo n vo gO B (setG g i j b) := by
  refine ⟨h.shape, fun x hx => ?_, fun x y hx hy => ⟨?_, by simpa using (h.cel x y hx hy).2⟩, h.inj, h.ne, h.low⟩
  · rw [World.cell?_setCell_other _ _ _ _ (by intro e; injection e with e1; exact h.ne i hi e1)]
    exact h.row x hx
  · unfold setG
    by_cases e : x = i ∧ y = j
    · obtain ⟨rfl, rfl⟩ := e
      rw [if_pos ⟨rfl, rfl⟩]
      exact World.cell?_setCell_same _ _ _ (h.cel x y hx hy).1
    · rw [if_neg e, World.cell?_setCell_other _ _ _ _ (by intro e2; injection e2 with e3 e4; exact e ⟨h.inj x i hx hi e3.symm, e4.symm⟩)]
      exact (h.cel x y hx hy).1
theorem MatS.mat {w ws : World} {lo n : Nat} {vs : Value} {B : Nat → Nat} (h : MatS w ws lo n n vs B) : ∃ gO, Mat ws lo n vs gO B (fun _ _ => false) := by
  obtain ⟨l1, l2, l3⟩ := h.low
  rcases h.own.2 with ⟨e1, e2⟩ | ⟨g, cap, cur, e1, hb, hg, r1, r2, _⟩
  · exact ⟨0, ⟨none, 0, by rw [e1, e2], fun h0 => by omega, by omega, Nat.zero_le _⟩, fun i hi => by omega, fun i j hi hj => by omega, fun i j hi hj => by omega, fun i hi => by omega, fun i hi => by omega⟩
  · refine ⟨g, ⟨_, cap, e1, fun _ => rfl, r1, r2⟩, fun i hi => ?_, h.cel, h.inj, fun i hi => h.ne i g hi (by rw [e1]; rfl), fun i hi => ⟨hb, (l3 i hi).1⟩⟩
    have := h.own.cells (g := g) (by rw [e1]; rfl) i _ (rowsL_at hi)
    rw [Addr.add_lit, Nat.zero_add] at this
    exact this
end Go.Proofs.YtfpggeiphbekoaaDoor
