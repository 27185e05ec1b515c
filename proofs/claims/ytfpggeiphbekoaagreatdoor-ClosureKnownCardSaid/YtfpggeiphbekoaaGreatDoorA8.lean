/- The reference of closures: All: a matrix of truths in memory. | The reference of closures: All. | The reference of closures: Loops, Least. -/
import Derived.Test.YtfpggeiphbekoaaGreatDoorA7
import Derived.StillTailTactics
import Derived.Test.YtfpggeiphbekoaaGreatDoorA1

namespace Go.Proofs.YtfpggeiphbekoaaGreatDoor
open Go.RowKit
set_option linter.unusedVariables false

theorem info_bool : (Tryz.prog.info? 4).map (fun i => (i.zero, i.size, i.bytes)) = some (some (.bool false), 1, 1) := by kernel_rfl
theorem info_bools : (Tryz.prog.info? 82).map (fun i => (i.zero, i.size, i.bytes)) = some (some (.slice none 0 0), 1, 24) := by kernel_rfl
def zeroBools (k : Nat) : Array Value := Array.replicate k (.bool false)
theorem makeBools {E : Int} {k : Nat} (h0 : 0 ≤ E) (h1 : E ≤ 1000000) (hk : E.toNat = k) (w : World) :
    (Instr.makeSlice 82 (.int .i64 E) (.int .i64 E)).run Tryz.prog w = .ok (.slice (some ⟨w.heap.size, 0, none⟩) k k) (w.alloc (.cells (zeroBools k) 4)) := by
  obtain ⟨i, hi, hz, hs, hb⟩ := info_parts info_bool
  have := run_make (P := Tryz.prog) w 82 4 i _ Tryz.underlying82 hi hz .i64 .i64 E E h0 (Int.le_refl _) (by rw [hb]; omega) (by omega)
  rw [this, hk, hs]
  have e : madeCells (Value.bool false).cells (k * 1) = zeroBools k := by
    apply Array.ext'
    rw [show (Value.bool false).cells = #[.bool false] from rfl, toList_madeCells_one]
    simp [zeroBools]
  rw [e]
/-- rows behind a slice -/
def rowsL (B : Nat → Nat) (n k : Nat) : List Value := (List.range k).map fun i => .slice (some ⟨B i, 0, none⟩) n n
theorem rowsL_succ (B : Nat → Nat) (n k : Nat) : rowsL B n (k + 1) = rowsL B n k ++ [.slice (some ⟨B k, 0, none⟩) n n] := by simp [rowsL, List.range_succ]
theorem rowsL_at {B : Nat → Nat} {n k i : Nat} (h : i < k) : (rowsL B n k)[i]? = some (.slice (some ⟨B i, 0, none⟩) n n) := by simp [rowsL, h]
theorem rowsL_length (B : Nat → Nat) (n k : Nat) : (rowsL B n k).length = k := by simp [rowsL]
theorem rowsL_congr {B C : Nat → Nat} {n k : Nat} (h : ∀ i, i < k → B i = C i) : rowsL B n k = rowsL C n k := by
  unfold rowsL
  refine List.map_congr_left fun i hi => ?_
  rw [h i (List.mem_range.1 hi)]
/-- the first k rows are made -/
structure MatS (w ws : World) (lo n k : Nat) (vs : Value) (B : Nat → Nat) : Prop where
  fx : Fx No w ws
  own : ws.ownsRow lo 82 1 vs k (rowsL B n k)
  cel : ∀ i j, i < k → j < n → ws.cell? ⟨B i, j, none⟩ = some (.bool false) ∧ ws.frozen? ⟨B i, j, none⟩ = false
  inj : ∀ i j, i < k → j < k → B i = B j → i = j
  ne : ∀ i g, i < k → vs.ownBlock = some g → B i ≠ g
  low : w.heap.size ≤ lo ∧ lo ≤ ws.heap.size ∧ ∀ i, i < k → lo ≤ B i ∧ B i < ws.heap.size
theorem MatS.step {w ws w2 : World} {lo n k : Nat} {vs v' : Value} {B : Nat → Nat} {t : TypeId} {lit : Obj} (h : MatS w ws lo n k vs B) (hfx : Fx (fun g => vs.ownBlock = some g) ((ws.alloc (.cells (zeroBools n) t)).alloc lit) w2)
    (ho : w2.ownsRow lo 82 1 v' (k + 1) (rowsL B n k ++ [.slice (some ⟨ws.heap.size, 0, none⟩) n n])) (hb : ∀ g, v'.ownBlock = some g → vs.ownBlock = some g ∨ ws.heap.size + 2 ≤ g) :
    MatS w w2 lo n (k + 1) v' (fun j => if j = k then ws.heap.size else B j) := by
  obtain ⟨l1, l2, l3⟩ := h.low
  have hvs : ∀ g, vs.ownBlock = some g → lo ≤ g ∧ g < ws.heap.size := fun g e => World.ownsRow.lt h.own g e
  have hz2 := hfx.size
  simp only [World.size_alloc] at hz2
  have hfa : Fx (fun g => vs.ownBlock = some g) ws w2 := (((Fx.refl No ws).alloc _).alloc _).no.trans hfx
  have hb0 := heap_alloc_new ws (.cells (zeroBools n) t)
  have hb1 := hfx.at_ (((Fx.refl No (ws.alloc (.cells (zeroBools n) t))).alloc lit).at_ hb0 (fun h => h)) (fun e => by have := (hvs _ e).2; omega)
  refine ⟨h.fx.trans' hfa fun g e hl => by have := (hvs g e).1; omega, ?_, fun i j hi hj => ?_, fun i j hi hj e => ?_, fun i g hi hg => ?_, l1, by omega, fun i hi => ?_⟩
  · rw [rowsL_succ]
    simp only [if_true]
    rw [rowsL_congr (C := B) fun i hi => by simp [show i ≠ k by omega]]
    exact ho
  · by_cases e : i = k
    · subst e
      simp only [if_true]
      exact ⟨by rw [cell_of_row _ _ _ _ _ _ hb1]; simp [zeroBools, hj], frozen_of_row _ _ _ _ _ hb1⟩
    · simp only [if_neg e]
      obtain ⟨c1, c2⟩ := h.cel i j (by omega) hj
      exact hfa.cellF c1 c2 fun e2 => h.ne i (B i) (by omega) e2 rfl
  · by_cases e1 : i = k
    · by_cases e2 : j = k
      · omega
      · simp only [e1, if_true, if_neg e2] at e
        have := (l3 j (by omega)).2; omega
    · by_cases e2 : j = k
      · simp only [e2, if_true, if_neg e1] at e
        have := (l3 i (by omega)).2; omega
      · simp only [if_neg e1, if_neg e2] at e
        exact h.inj i j (by omega) (by omega) e
  · rcases hb g hg with h1 | h1
    · by_cases e : i = k
      · simp only [e, if_true]; have := (hvs g h1).2; omega
      · simp only [if_neg e]; exact h.ne i g (by omega) h1
    · by_cases e : i = k
      · simp only [e, if_true]; omega
      · simp only [if_neg e]; have := (l3 i (by omega)).2; omega
  · by_cases e : i = k
    · simp only [e, if_true]; omega
    · simp only [if_neg e]; have := l3 i (by omega); omega
/-- a matrix of n rows of n truths, which may be written -/
structure Mat (w : World) (lo n : Nat) (vo : Value) (gO : Nat) (B : Nat → Nat) (g : Nat → Nat → Bool) : Prop where
  shape : ∃ ao cap, vo = .slice ao n cap ∧ (0 < n → ao = some ⟨gO, 0, none⟩) ∧ n ≤ cap ∧ cap ≤ maxLen
  row : ∀ i, i < n → w.cell? ⟨gO, i, none⟩ = some (.slice (some ⟨B i, 0, none⟩) n n)
  cel : ∀ i j, i < n → j < n → w.cell? ⟨B i, j, none⟩ = some (.bool (g i j)) ∧ w.frozen? ⟨B i, j, none⟩ = false
  inj : ∀ i j, i < n → j < n → B i = B j → i = j
  ne : ∀ i, i < n → B i ≠ gO
  low : ∀ i, i < n → lo ≤ gO ∧ lo ≤ B i
theorem Mat.fx {w w' : World} {S : Nat → Prop} {lo n gO : Nat} {vo : Value} {B : Nat → Nat} {g : Nat → Nat → Bool} (h : Mat w lo n vo gO B g) (hf : Fx S w w') (hd : ∀ x, lo ≤ x → ¬ S x) : Mat w' lo n vo gO B g :=
  ⟨h.shape, fun i hi => hf.cell' (h.row i hi) (hd _ (h.low i hi).1), fun i j hi hj => hf.cellF (h.cel i j hi hj).1 (h.cel i j hi hj).2 (hd _ (h.low i hi).2), h.inj, h.ne, h.low⟩
theorem Mat.congr {w : World} {lo n gO : Nat} {vo : Value} {B : Nat → Nat} {g g' : Nat → Nat → Bool} (h : Mat w lo n vo gO B g) (e : ∀ i j, i < n → j < n → g i j = g' i j) : Mat w lo n vo gO B g' :=
  ⟨h.shape, h.row, fun i j hi hj => by rw [← e i j hi hj]; exact h.cel i j hi hj, h.inj, h.ne, h.low⟩
def setG (g : Nat → Nat → Bool) (i j : Nat) (b : Bool) : Nat → Nat → Bool := fun x y => if x = i ∧ y = j then b else g x y
theorem Mat.set {w : World} {lo n gO i j : Nat} {vo : Value} {B : Nat → Nat} {g : Nat → Nat → Bool} (h : Mat w lo n vo gO B g) (hi : i < n) (hj : j < n) (b : Bool) : Mat (w.setCell ⟨B i, j, none⟩ (.bool b)) lo n vo gO B (setG g i j b) := by
  refine ⟨h.shape, fun x hx => ?_, fun x y hx hy => ⟨?_, by simpa using (h.cel x y hx hy).2⟩, h.inj, h.ne, h.low⟩
  · rw [World.cell?_setCell_other _ _ _ _ (by intro e; injection e with e1; exact h.ne i hi e1)]
    exact h.row x hx
  · unfold setG
    by_cases e : x = i ∧ y = j
    · obtain ⟨rfl, rfl⟩ := e
      rw [if_pos ⟨rfl, rfl⟩]
      exact World.cell?_setCell_same _ _ _ (h.cel x y hx hy).1
    · rw [if_neg e, World.cell?_setCell_other _ _ _ _ (by intro e2; injection e2 with e3 e4; exact e ⟨h.inj x i hx hi e3.symm, e4.symm⟩)]
      exact (h.cel x y hx hy).1
theorem MatS.mat {w ws : World} {lo n : Nat} {vs : Value} {B : Nat → Nat} (h : MatS w ws lo n n vs B) : ∃ gO, Mat ws lo n vs gO B (fun _ _ => false) := by
  obtain ⟨l1, l2, l3⟩ := h.low
  rcases h.own.2 with ⟨e1, e2⟩ | ⟨g, cap, cur, e1, hb, hg, r1, r2, _⟩
  · exact ⟨0, ⟨none, 0, by rw [e1, e2], fun h0 => by omega, by omega, Nat.zero_le _⟩, fun i hi => by omega, fun i j hi hj => by omega, fun i j hi hj => by omega, fun i hi => by omega, fun i hi => by omega⟩
  · refine ⟨g, ⟨_, cap, e1, fun _ => rfl, r1, r2⟩, fun i hi => ?_, h.cel, h.inj, fun i hi => h.ne i g hi (by rw [e1]; rfl), fun i hi => ⟨hb, (l3 i hi).1⟩⟩
    have := h.own.cells (g := g) (by rw [e1]; rfl) i _ (rowsL_at hi)
    rw [Addr.add_lit, Nat.zero_add] at this
    exact this
end Go.Proofs.YtfpggeiphbekoaaGreatDoor

namespace Go.Proofs.YtfpggeiphbekoaaGreatDoor
open Go.RowKit
set_option linter.unusedVariables false

/-- what has been joined: all by the nodes below k; by k too up to row i, number m -/
def Inv (e : Nat → Nat → Prop) (n k i m : Nat) (g : Nat → Nat → Bool) : Prop := ∀ a b, a < n → b < n → (g a b = true → Way e a b) ∧ (WK e k a b → g a b = true) ∧ ((a < i ∨ (a = i ∧ b < m)) → WK e (k + 1) a b → g a b = true)
theorem Inv.step {e : Nat → Nat → Prop} {n k i m : Nat} {g : Nat → Nat → Bool} (h : Inv e n k i m g) (hk : k < n) (hi : i < n) (hm : m < n) : Inv e n k i (m + 1) (setG g i m (g i m || (g i k && g k m))) := by
  intro a b ha hb
  obtain ⟨h1, h2, h3⟩ := h a b ha hb
  obtain ⟨p1, p2, _⟩ := h i k hi hk
  obtain ⟨r1, r2, _⟩ := h k m hk hm
  unfold setG
  by_cases hab : a = i ∧ b = m
  · obtain ⟨rfl, rfl⟩ := hab
    rw [if_pos ⟨rfl, rfl⟩]
    refine ⟨fun hg => ?_, fun hw => by rw [h2 hw]; rfl, fun _ hw => ?_⟩
    · simp only [Bool.or_eq_true, Bool.and_eq_true] at hg
      rcases hg with hg | ⟨hg1, hg2⟩
      · exact h1 hg
      · exact (p1 hg1).trans (r1 hg2)
    · rcases hw with hw | ⟨hw1, hw2⟩
      · rw [h2 hw]; rfl
      · rw [p2 hw1, r2 hw2]; simp
  · rw [if_neg hab]
    exact ⟨h1, h2, fun hx hw => h3 (by omega) hw⟩
theorem Inv.row {e : Nat → Nat → Prop} {n k i : Nat} {g : Nat → Nat → Bool} (h : Inv e n k i n g) : Inv e n k (i + 1) 0 g := fun a b ha hb =>
  ⟨(h a b ha hb).1, (h a b ha hb).2.1, fun hx hw => (h a b ha hb).2.2 (by omega) hw⟩
theorem Inv.round {e : Nat → Nat → Prop} {n k : Nat} {g : Nat → Nat → Bool} (h : Inv e n k n 0 g) : Inv e n (k + 1) 0 0 g := fun a b ha hb =>
  ⟨(h a b ha hb).1, fun hw => (h a b ha hb).2.2 (.inl ha) hw, fun hx => by omega⟩
theorem Inv.done {e : Nat → Nat → Prop} {n : Nat} {g : Nat → Nat → Bool} (h : Inv e n n 0 0 g) (he : ∀ i j, e i j → i < n ∧ j < n) : ∀ i j, i < n → j < n → (g i j = true ↔ Way e i j) := fun i j hi hj =>
  ⟨(h i j hi hj).1, fun hw => (h i j hi hj).2.1 ((way_WK he).1 hw)⟩
theorem Mat.lower {w : World} {lo lo' n gO : Nat} {vo : Value} {B : Nat → Nat} {g : Nat → Nat → Bool} (h : Mat w lo n vo gO B g) (hl : lo' ≤ lo) : Mat w lo' n vo gO B g :=
  ⟨h.shape, h.row, h.cel, h.inj, h.ne, fun i hi => by have := h.low i hi; omega⟩
/-- the matrix of which nodes lead to which -/
def AllR (L : List (Int × Int)) (n : Nat) (w : World) (e : Ending) (w' : World) : Prop := ∃ vo gO B g, e = .returned vo ∧ Fx No w w' ∧ Mat w' w.heap.size n vo gO B g ∧ ∀ i j, i < n → j < n → (g i j = true ↔ Way (edgeP L) i j)
section
variable {w w' : World} {D S : Nat → Prop} {L : List (Int × Int)} {v : Value}
set_option maxRecDepth 100000 in
set_option maxHeartbeats 4000000 in
theorem refAll_any (h : PairsV w D v L) {n : Nat} (hn : n ≤ 1000) (hL : ∀ q ∈ L, (0 ≤ q.1 ∧ q.1 < n) ∧ 0 ≤ q.2 ∧ q.2 < n) : Calls Tryz.prog 14 #[.agg #[.int .i64 (n : Int), v]] w (AllR L n w) := by
  obtain ⟨ii, hi, hz, hs, hb⟩ := info_parts info_bools
  have HL := Lib.hid hL
  obtain ⟨ao, cap, rfl, _, _, hc⟩ := h.facts
  have HC := Lib.hid hc
  have hmk := makeBools (E := (n : Int)) (k := n) (by omega) (by omega) (by omega)
  clear h hc hL
  go_enter Tryz.func14, Tryz.ntmps14
  go_wp2_with fail
  refine wp_hold (fun W => Fx No w W ∧ W.heap.size = w.heap.size + 1 ∧ W.cell? ⟨w.heap.size, 0, none⟩ = some (.int .i64 (n : Int)) ∧ W.cell? ⟨w.heap.size, 1, none⟩ = some (.slice ao L.length cap)) ⟨(Fx.refl No w).alloc _, by simp, by simp, by simp⟩ ?_
  rintro w1 ⟨hF, hz1, k0, k1⟩
  obtain ⟨cb, hcb⟩ : ∃ e, e = w.heap.size := ⟨_, rfl⟩
  rw [← hcb] at hz1 k0 k1 ⊢
  have HF := Lib.hid hF
  have HK0 := Lib.hid k0
  have HK1 := Lib.hid k1
  have hcw : w.heap.size ≤ w1.heap.size := hF.size
  have hcb1 : cb < w1.heap.size := by omega
  clear hF hcb k0 k1 hz1
  go_loopw [3, 4] (fun vs i ws => ∃ (k : Nat) (B : Nat → Nat), i = .int .i64 k ∧ k ≤ n ∧ MatS w1 ws w1.heap.size n k vs B) (fun _ i _ => n - (intOf i).toNat)
  case atStart => exact ⟨0, fun _ => 0, rfl, Nat.zero_le _, ⟨Fx.refl _ _, World.ownsRow_nil _ _ _ _, fun i j hi => by omega, fun i j hi => by omega, fun i g hi => by omega, Nat.le_refl _, Nat.le_refl _, fun i hi => by omega⟩⟩
  case round =>
    obtain ⟨k, B, rfl, hk, hM⟩ := hrel
    have HM := Lib.hid hM
    have k0 := hM.fx.cell' HK0.out (fun h => h)
    have k1 := hM.fx.cell' HK1.out (fun h => h)
    have hlow := hM.low.2.1
    clear hM
    by_cases hlt : k < n
    · have hkn : (k : Int) < (n : Int) := by omega
      have hcbr : cb < wr.heap.size := by omega
      have HLit : Hid (SlV ((wr.alloc (.cells (zeroBools n) 4)).alloc (.cells #[.slice (some ⟨wr.heap.size, 0, none⟩) n n] 82)) (fun _ => True) (.slice (some ⟨wr.heap.size + 1, 0, none⟩) 1 1) 1 1 [.slice (some ⟨wr.heap.size, 0, none⟩) n n]) := Lib.hid (by
        have := SlV.lit (wr.alloc (.cells (zeroBools n) 4)) 82 #[.slice (some ⟨wr.heap.size, 0, none⟩) n n] 1 1 rfl (by unfold maxLen; omega)
        rw [World.size_alloc] at this
        exact this)
      go_wp2_with (at_builtin; refine wpList_append_kept rfl _ _ 46 rfl w1.heap.size 82 Tryz.underlying46 hi hz hs hb rfl (by decide) rfl (World.ownsRow.alloc (World.ownsRow.alloc HM.out.own _) _) rfl (HLit.out) (fun u hu => by rw [show u = _ from List.mem_singleton.1 hu]; rfl) (by omega) (by unfold maxLen; omega) (by omega) (by simp; omega) ?_)
      intro v' w2 ho hfx hk3 hb2
      have HM2 := Lib.hid (HM.out.step hfx ho (by simpa using hb2))
      clear ho hfx hk3 hb2
      go_wp2
      go_roundw
      case rel => exact ⟨k + 1, _, by go_num, by omega, HM2.out⟩
      case measure => simp [intOf]; omega
    · obtain rfl : n = k := by omega
      obtain ⟨gO, hm0⟩ := HM.out.mat
      obtain ⟨vO, vcap, rfl, hvO, _⟩ := hm0.shape
      have HM0 := Lib.hid hm0
      have HVO := Lib.hid hvO
      have HFm : Hid (Fx (fun x => w1.heap.size ≤ x) w1 wr) := Lib.hid HM.out.fx.no
      clear hm0 hmk hvO k0 k1
      have k0 := HFm.out.cell' HK0.out (fun h => by have h : w1.heap.size ≤ cb := h; omega)
      have k1 := HFm.out.cell' HK1.out (fun h => by have h : w1.heap.size ≤ cb := h; omega)
      go_wp2
      go_loopw [5] (fun i ws => ∃ (q : Nat) (g : Nat → Nat → Bool), i = .int .i64 q ∧ q ≤ L.length ∧ Fx (fun x => w1.heap.size ≤ x) w1 ws ∧ Mat ws w1.heap.size n (.slice vO n vcap) gO B g ∧ ∀ a b, a < n → b < n → (g a b = true ↔ edgeP (L.take q) a b)) (fun i _ => L.length - (intOf i).toNat)
      case atStart => exact ⟨0, _, rfl, Nat.zero_le _, HFm.out, HM0.out, fun a b _ _ => by simp [edgeP]⟩
      case round =>
        obtain ⟨q, g, rfl, hq, hf, hm, hg⟩ := hrel
        have HFq := Lib.hid hf
        have HMq := Lib.hid hm
        have HG := Lib.hid hg
        clear k0 k1
        have k0 := hf.cell' HK0.out (fun h => by have h : w1.heap.size ≤ cb := h; omega)
        have k1 := hf.cell' HK1.out (fun h => by have h : w1.heap.size ≤ cb := h; omega)
        clear hf hm hg
        by_cases hql : q < L.length
        · obtain ⟨b, o, rfl, _, p1, p2⟩ := HC.out q hql
          have hbw := World.block_lt_of_cell? w _ p1
          have hbw : b < w.heap.size := hbw
          have p1 := HFq.out.cell' (HF.out.cell' p1 (fun h => h)) (fun h => by have h : w1.heap.size ≤ b := h; omega)
          have p2 := HFq.out.cell' (HF.out.cell' p2 (fun h => h)) (fun h => by have h : w1.heap.size ≤ b := h; omega)
          obtain ⟨⟨x0, x1⟩, y0, y1⟩ := HL.out _ (gt_mem hql)
          obtain ⟨x, hx⟩ := Int.eq_ofNat_of_zero_le x0
          obtain ⟨y, hy⟩ := Int.eq_ofNat_of_zero_le y0
          rw [hx] at p1 x1
          rw [hy] at p2 y1
          have HTk : Hid (L.take (q + 1) = L.take q ++ [((x : Int), (y : Int))]) := Lib.hid (by rw [take_gt hql, show gt L q = ((x : Int), (y : Int)) from Prod.ext hx hy])
          have hxn : x < n := by omega
          have hyn : y < n := by omega
          clear hx hy x0 y0
          obtain rfl := HVO.out (by omega)
          have r1 := HMq.out.row x hxn
          obtain ⟨s1, s2⟩ := HMq.out.cel x y hxn hyn
          have HBl : Hid (w1.heap.size ≤ B x) := Lib.hid (HMq.out.low x hxn).2
          have hql2 : (q : Int) < (L.length : Int) := by omega
          have hx0 : (0 : Int) ≤ (x : Int) := by omega
          have hy0 : (0 : Int) ≤ (y : Int) := by omega
          go_wp2_with fail
          go_region
          all_goals
            have HM2 : Hid (Mat (wr.setCell ⟨B x, y, none⟩ (.bool true)).drew w1.heap.size n (.slice (some ⟨gO, 0, none⟩) n vcap) gO B (setG g x y true)) := Lib.hid ((HMq.out.set hxn hyn true).fx (S := No) ((Fx.refl No _).drew) (fun _ _ h => h))
            have HF2 : Hid (Fx (fun x => w1.heap.size ≤ x) w1 (wr.setCell ⟨B x, y, none⟩ (.bool true)).drew) := Lib.hid ((HFq.out.setCell (.inr HBl.out) _).drew)
            generalize (wr.setCell ⟨B x, y, none⟩ (.bool true)).drew = wn at *
            clear k0 k1 p1 p2 r1 s1 s2
            go_wp2
            go_roundw
            case rel => exact ⟨q + 1, _, by go_num, by omega, HF2.out, HM2.out, fun a b ha hb => by
              rw [HTk.out]
              unfold setG edgeP
              rw [List.mem_append, List.mem_singleton, Prod.mk.injEq]
              by_cases e : a = x ∧ b = y
              · obtain ⟨rfl, rfl⟩ := e; simp
              · rw [if_neg e]
                have := HG.out a b ha hb
                unfold edgeP at this
                rw [this]
                constructor
                · exact .inl
                · rintro (h | ⟨h1, h2⟩)
                  · exact h
                  · exact absurd ⟨by omega, by omega⟩ e⟩
            case measure => simp [intOf]; omega
        · have hqe : L.take q = L := by rw [show q = L.length by omega, List.take_length]
          have HG : Hid (∀ a b, a < n → b < n → (g a b = true ↔ edgeP L a b)) := Lib.hid (by rw [← hqe]; exact HG.out)
          have hd2 : decide ((q : Int) < (L.length : Int)) = false := decide_eq_false (by omega)
          have hd3 : decide (q < L.length) = false := decide_eq_false hql
          have HeL : Hid (∀ i j, edgeP L i j → i < n ∧ j < n) := Lib.hid fun i j h => by
            obtain ⟨⟨_, h1⟩, _, h2⟩ := HL.out _ h
            exact ⟨by simpa using h1, by simpa using h2⟩
          clear hqe hql
          go_wp2
          go_loopw [6, 7, 8] (fun k _ _ ws => ∃ (K : Nat) (g : Nat → Nat → Bool), k = .int .i64 K ∧ K ≤ n ∧ Fx (fun x => w1.heap.size ≤ x) w1 ws ∧ Mat ws w1.heap.size n (.slice vO n vcap) gO B g ∧ Inv (edgeP L) n K 0 0 g) (fun k _ _ _ => n - (intOf k).toNat)
          case atStart => exact ⟨0, g, rfl, Nat.zero_le _, HFq.out, HMq.out, fun a b ha hb => ⟨fun h => .one ((HG.out a b ha hb).1 h), fun h => (HG.out a b ha hb).2 h, fun h => by omega⟩⟩
          case round =>
            obtain ⟨K, g1, rfl, hK, hf, hm, hg⟩ := hrel
            have HFk := Lib.hid hf
            have HMk := Lib.hid hm
            have HI := Lib.hid hg
            clear k0 k1
            have k0 := hf.cell' HK0.out (fun h => by have h : w1.heap.size ≤ cb := h; omega)
            clear hf hm hg
            by_cases hKl : K < n
            · have hKn : (K : Int) < (n : Int) := by omega
              go_wp2
              go_loopw [7, 8] (fun i _ ws => ∃ (I : Nat) (g : Nat → Nat → Bool), i = .int .i64 I ∧ I ≤ n ∧ Fx (fun x => w1.heap.size ≤ x) w1 ws ∧ Mat ws w1.heap.size n (.slice vO n vcap) gO B g ∧ Inv (edgeP L) n K I 0 g) (fun i _ _ => n - (intOf i).toNat)
              case atStart => exact ⟨0, g1, rfl, Nat.zero_le _, HFk.out, HMk.out, HI.out⟩
              case round =>
                obtain ⟨I, g2, rfl, hI, hf, hm, hg⟩ := hrel
                have HFi := Lib.hid hf
                have HMi := Lib.hid hm
                have HIi := Lib.hid hg
                clear k0
                have k0 := hf.cell' HK0.out (fun h => by have h : w1.heap.size ≤ cb := h; omega)
                clear hf hm hg
                by_cases hIl : I < n
                · have hIn : (I : Int) < (n : Int) := by omega
                  go_wp2
                  go_loopw [8] (fun m ws => ∃ (M : Nat) (g : Nat → Nat → Bool), m = .int .i64 M ∧ M ≤ n ∧ Fx (fun x => w1.heap.size ≤ x) w1 ws ∧ Mat ws w1.heap.size n (.slice vO n vcap) gO B g ∧ Inv (edgeP L) n K I M g) (fun m _ => n - (intOf m).toNat)
                  case atStart => exact ⟨0, g2, rfl, Nat.zero_le _, HFi.out, HMi.out, HIi.out⟩
                  case round =>
                    obtain ⟨M, g3, rfl, hM', hf, hm, hg⟩ := hrel
                    have HFm3 := Lib.hid hf
                    have HM3 := Lib.hid hm
                    have HI3 := Lib.hid hg
                    clear k0
                    have k0 := hf.cell' HK0.out (fun h => by have h : w1.heap.size ≤ cb := h; omega)
                    clear hf hm hg
                    by_cases hMl : M < n
                    · have hMn : (M : Int) < (n : Int) := by omega
                      obtain rfl := HVO.out (by omega)
                      have r1 := HM3.out.row I hIl
                      have r2 := HM3.out.row K hKl
                      obtain ⟨s1, s1'⟩ := HM3.out.cel I M hIl hMl
                      have s2 := (HM3.out.cel I K hIl hKl).1
                      have s3 := (HM3.out.cel K M hKl hMl).1
                      obtain ⟨ta, hta⟩ : ∃ t, t = g3 I M := ⟨_, rfl⟩
                      obtain ⟨tb, htb⟩ : ∃ t, t = g3 I K := ⟨_, rfl⟩
                      obtain ⟨tc, htc⟩ : ∃ t, t = g3 K M := ⟨_, rfl⟩
                      rw [← hta] at s1
                      rw [← htb] at s2
                      rw [← htc] at s3
                      have HBl : Hid (w1.heap.size ≤ B I) := Lib.hid (HM3.out.low I hIl).2
                      have HI4 : Hid (Inv (edgeP L) n K I (M + 1) (setG g3 I M (ta || (tb && tc)))) := Lib.hid (by rw [hta, htb, htc]; exact HI3.out.step hKl hIl hMl)
                      have HM4 : Hid (∀ t, Mat (wr.setCell ⟨B I, M, none⟩ (.bool t)) w1.heap.size n (.slice (some ⟨gO, 0, none⟩) n vcap) gO B (setG g3 I M t)) := Lib.hid fun t => HM3.out.set hIl hMl t
                      have h0I : (0 : Int) ≤ (I : Int) := by omega
                      have h0K : (0 : Int) ≤ (K : Int) := by omega
                      have h0M : (0 : Int) ≤ (M : Int) := by omega
                      clear hta htb htc
                      cases ta
                      · cases tb
                        · skip
                          go_wp2_with fail
                          refine wp_region_G 31 (fun b W => b = false → W = wr.drew) (by kernel_rfl) (fun _ => rfl) ?_
                          intro hS hC
                          refine wpG_take (i := 0) (v := ?_) rfl (by kernel_rfl) (by kernel_rfl) (by kernel_rfl) (by kernel_rfl) (fun _ _ _ h => h) (by decide) (Or.inl ⟨by rfl, ?_⟩) hC hS ?_
                          rotate_left
                          · (intro W hc; obtain rfl := hc rfl; go_simp; first | done | with_reducible rfl)
                          clear hS hC
                          intro hS hC
                          try simp only [Act.put, List.getElem_toArray, List.getElem_cons_zero, List.getElem_cons_succ, List.setIfInBounds_toArray, List.set_cons_zero, List.set_cons_succ]
                          refine wpG_take (i := 1) (v := ?_) rfl (by kernel_rfl) (by kernel_rfl) (by kernel_rfl) (by kernel_rfl) (fun _ _ _ h => h) (by decide) (Or.inl ⟨by rfl, ?_⟩) hC hS ?_
                          rotate_left
                          · (intro W hc; obtain rfl := hc rfl; go_simp; first | done | with_reducible rfl)
                          clear hS hC
                          intro hS hC
                          try simp only [Act.put, List.getElem_toArray, List.getElem_cons_zero, List.getElem_cons_succ, List.setIfInBounds_toArray, List.set_cons_zero, List.set_cons_succ]
                          refine wpG_take (i := 2) (v := ?_) rfl (by kernel_rfl) (by kernel_rfl) (by kernel_rfl) (by kernel_rfl) (fun _ _ _ h => h) (by decide) (Or.inl ⟨by rfl, ?_⟩) hC hS ?_
                          rotate_left
                          · (intro W hc; obtain rfl := hc rfl; go_simp; first | done | with_reducible rfl)
                          clear hS hC
                          intro hS hC
                          try simp only [Act.put, List.getElem_toArray, List.getElem_cons_zero, List.getElem_cons_succ, List.setIfInBounds_toArray, List.set_cons_zero, List.set_cons_succ]
                          refine wpG_take (i := 3) (v := ?_) rfl (by kernel_rfl) (by kernel_rfl) (by kernel_rfl) (by kernel_rfl) (fun _ _ _ h => h) (by decide) (Or.inl ⟨by rfl, ?_⟩) hC hS ?_
                          rotate_left
                          · (intro W hc; obtain rfl := hc rfl; go_simp; first | done | with_reducible rfl)
                          clear hS hC
                          intro hS hC
                          try simp only [Act.put, List.getElem_toArray, List.getElem_cons_zero, List.getElem_cons_succ, List.setIfInBounds_toArray, List.set_cons_zero, List.set_cons_succ]
                          refine wpG_take (i := 4) (v := ?_) rfl (by kernel_rfl) (by kernel_rfl) (by kernel_rfl) (by kernel_rfl) (fun _ _ _ h => h) (by decide) (Or.inl ⟨by rfl, ?_⟩) hC hS ?_
                          rotate_left
                          · (intro W hc; obtain rfl := hc rfl; go_simp; first | done | with_reducible rfl)
                          clear hS hC
                          intro hS hC
                          try simp only [Act.put, List.getElem_toArray, List.getElem_cons_zero, List.getElem_cons_succ, List.setIfInBounds_toArray, List.set_cons_zero, List.set_cons_succ]
                          refine wpG_take (i := 5) (v := ?_) rfl (by kernel_rfl) (by kernel_rfl) (by kernel_rfl) (by kernel_rfl) (fun _ _ _ h => h) (by decide) (Or.inl ⟨by rfl, ?_⟩) hC hS ?_
                          rotate_left
                          · (intro W hc; obtain rfl := hc rfl; go_simp; first | done | with_reducible rfl)
                          clear hS hC
                          intro hS hC
                          try simp only [Act.put, List.getElem_toArray, List.getElem_cons_zero, List.getElem_cons_succ, List.setIfInBounds_toArray, List.set_cons_zero, List.set_cons_succ]
                          refine wpG_take (i := 6) (v := ?_) rfl (by kernel_rfl) (by kernel_rfl) (by kernel_rfl) (by kernel_rfl) (fun _ _ _ h => h) (by decide) (Or.inl ⟨by rfl, ?_⟩) hC hS ?_
                          rotate_left
                          · (intro W hc; obtain rfl := hc rfl; go_simp; first | done | with_reducible rfl)
                          clear hS hC
                          intro hS hC
                          try simp only [Act.put, List.getElem_toArray, List.getElem_cons_zero, List.getElem_cons_succ, List.setIfInBounds_toArray, List.set_cons_zero, List.set_cons_succ]
                          refine wpG_take (i := 7) (v := ?_) rfl (by kernel_rfl) (by kernel_rfl) (by kernel_rfl) (by kernel_rfl) (fun _ _ _ h => h) (by decide) (Or.inl ⟨by rfl, ?_⟩) hC hS ?_
                          rotate_left
                          · (intro W hc; obtain rfl := hc rfl; go_simp; first | done | with_reducible rfl)
                          clear hS hC
                          intro hS hC
                          try simp only [Act.put, List.getElem_toArray, List.getElem_cons_zero, List.getElem_cons_succ, List.setIfInBounds_toArray, List.set_cons_zero, List.set_cons_succ]
                          refine wpG_take (i := 8) (v := ?_) rfl (by kernel_rfl) (by kernel_rfl) (by kernel_rfl) (by kernel_rfl) (fun _ _ _ h => h) (by decide) (Or.inl ⟨by rfl, ?_⟩) hC hS ?_
                          rotate_left
                          · (intro W hc; obtain rfl := hc rfl; go_simp; first | done | with_reducible rfl)
                          clear hS hC
                          intro hS hC
                          try simp only [Act.put, List.getElem_toArray, List.getElem_cons_zero, List.getElem_cons_succ, List.setIfInBounds_toArray, List.set_cons_zero, List.set_cons_succ]
                          refine wpG_take (i := 9) (v := ?_) rfl (by kernel_rfl) (by kernel_rfl) (by kernel_rfl) (by kernel_rfl) (fun _ _ _ h => h) (by decide) (Or.inl ⟨by rfl, ?_⟩) hC hS ?_
                          rotate_left
                          · (intro W hc; obtain rfl := hc rfl; go_simp; first | done | with_reducible rfl)
                          clear hS hC
                          intro hS hC
                          try simp only [Act.put, List.getElem_toArray, List.getElem_cons_zero, List.getElem_cons_succ, List.setIfInBounds_toArray, List.set_cons_zero, List.set_cons_succ]
                          refine wpG_take (i := 10) (v := ?_) rfl (by kernel_rfl) (by kernel_rfl) (by kernel_rfl) (by kernel_rfl) (fun _ _ _ h => h) (by decide) (Or.inl ⟨by rfl, ?_⟩) hC hS ?_
                          rotate_left
                          · (intro W hc; obtain rfl := hc rfl; go_simp; first | done | with_reducible rfl)
                          clear hS hC
                          intro hS hC
                          try simp only [Act.put, List.getElem_toArray, List.getElem_cons_zero, List.getElem_cons_succ, List.setIfInBounds_toArray, List.set_cons_zero, List.set_cons_succ]
                          refine wpG_take (i := 11) (v := ?_) rfl (by kernel_rfl) (by kernel_rfl) (by kernel_rfl) (by kernel_rfl) (fun _ _ _ h => h) (by decide) (Or.inl ⟨by rfl, ?_⟩) hC hS ?_
                          rotate_left
                          · (intro W hc; obtain rfl := hc rfl; go_simp; first | done | with_reducible rfl)
                          clear hS hC
                          intro hS hC
                          try simp only [Act.put, List.getElem_toArray, List.getElem_cons_zero, List.getElem_cons_succ, List.setIfInBounds_toArray, List.set_cons_zero, List.set_cons_succ]
                          refine wpG_take (i := 12) (v := ?_) rfl (by kernel_rfl) (by kernel_rfl) (by kernel_rfl) (by kernel_rfl) (fun _ _ _ h => h) (by decide) (Or.inl ⟨by rfl, ?_⟩) hC hS ?_
                          rotate_left
                          · (intro W hc; obtain rfl := hc rfl; go_simp; first | done | with_reducible rfl)
                          clear hS hC
                          intro hS hC
                          try simp only [Act.put, List.getElem_toArray, List.getElem_cons_zero, List.getElem_cons_succ, List.setIfInBounds_toArray, List.set_cons_zero, List.set_cons_succ]
                          refine wpG_take (i := 13) (v := ?_) rfl (by kernel_rfl) (by kernel_rfl) (by kernel_rfl) (by kernel_rfl) (fun _ _ _ h => h) (by decide) (Or.inl ⟨by rfl, ?_⟩) hC hS ?_
                          rotate_left
                          · (intro W hc; obtain rfl := hc rfl; go_simp; first | done | with_reducible rfl)
                          clear hS hC
                          intro hS hC
                          try simp only [Act.put, List.getElem_toArray, List.getElem_cons_zero, List.getElem_cons_succ, List.setIfInBounds_toArray, List.set_cons_zero, List.set_cons_succ]
                          refine wpG_take (i := 14) (v := ?_) rfl (by kernel_rfl) (by kernel_rfl) (by kernel_rfl) (by kernel_rfl) (fun _ _ _ h => h) (by decide) (Or.inl ⟨by rfl, ?_⟩) hC hS ?_
                          rotate_left
                          · (intro W hc; obtain rfl := hc rfl; go_simp; first | done | with_reducible rfl)
                          clear hS hC
                          intro hS hC
                          try simp only [Act.put, List.getElem_toArray, List.getElem_cons_zero, List.getElem_cons_succ, List.setIfInBounds_toArray, List.set_cons_zero, List.set_cons_succ]
                          refine wpG_take (i := 15) (v := ?_) rfl (by kernel_rfl) (by kernel_rfl) (by kernel_rfl) (by kernel_rfl) (fun _ _ _ h => h) (by decide) (Or.inl ⟨by rfl, ?_⟩) hC hS ?_
                          rotate_left
                          · (intro W hc; obtain rfl := hc rfl; go_simp; first | done | with_reducible rfl)
                          clear hS hC
                          intro hS hC
                          try simp only [Act.put, List.getElem_toArray, List.getElem_cons_zero, List.getElem_cons_succ, List.setIfInBounds_toArray, List.set_cons_zero, List.set_cons_succ]
                          refine wpG_take (i := 16) (v := ?_) rfl (by kernel_rfl) (by kernel_rfl) (by kernel_rfl) (by kernel_rfl) (fun _ _ _ h => h) (by decide) (Or.inl ⟨by rfl, ?_⟩) hC hS ?_
                          rotate_left
                          · (intro W hc; obtain rfl := hc rfl; go_simp; first | done | with_reducible rfl)
                          clear hS hC
                          intro hS hC
                          try simp only [Act.put, List.getElem_toArray, List.getElem_cons_zero, List.getElem_cons_succ, List.setIfInBounds_toArray, List.set_cons_zero, List.set_cons_succ]
                          refine wpG_take (i := 17) (v := ?_) rfl (by kernel_rfl) (by kernel_rfl) (by kernel_rfl) (by kernel_rfl) (fun _ _ _ h => h) (by decide) (Or.inl ⟨by rfl, ?_⟩) hC hS ?_
                          rotate_left
                          · (intro W hc; obtain rfl := hc rfl; go_simp; first | done | with_reducible rfl)
                          clear hS hC
                          intro hS hC
                          try simp only [Act.put, List.getElem_toArray, List.getElem_cons_zero, List.getElem_cons_succ, List.setIfInBounds_toArray, List.set_cons_zero, List.set_cons_succ]
                          refine wpG_take (i := 18) (v := ?_) rfl (by kernel_rfl) (by kernel_rfl) (by kernel_rfl) (by kernel_rfl) (fun _ _ _ h => h) (by decide) (Or.inl ⟨by rfl, ?_⟩) hC hS ?_
                          rotate_left
                          · (intro W hc; obtain rfl := hc rfl; go_simp; first | done | with_reducible rfl)
                          clear hS hC
                          intro hS hC
                          try simp only [Act.put, List.getElem_toArray, List.getElem_cons_zero, List.getElem_cons_succ, List.setIfInBounds_toArray, List.set_cons_zero, List.set_cons_succ]
                          refine wpG_take (i := 19) (v := ?_) rfl (by kernel_rfl) (by kernel_rfl) (by kernel_rfl) (by kernel_rfl) (fun _ _ _ h => h) (by decide) (Or.inl ⟨by rfl, ?_⟩) hC hS ?_
                          rotate_left
                          · (intro W hc; obtain rfl := hc rfl; go_simp; first | done | with_reducible rfl)
                          clear hS hC
                          intro hS hC
                          try simp only [Act.put, List.getElem_toArray, List.getElem_cons_zero, List.getElem_cons_succ, List.setIfInBounds_toArray, List.set_cons_zero, List.set_cons_succ]
                          refine wpG_take (i := 20) (v := ?_) rfl (by kernel_rfl) (by kernel_rfl) (by kernel_rfl) (by kernel_rfl) (fun _ _ _ h => h) (by decide) (Or.inl ⟨by rfl, ?_⟩) hC hS ?_
                          rotate_left
                          · (intro W hc; obtain rfl := hc rfl; go_simp; first | done | with_reducible rfl)
                          clear hS hC
                          intro hS hC
                          try simp only [Act.put, List.getElem_toArray, List.getElem_cons_zero, List.getElem_cons_succ, List.setIfInBounds_toArray, List.set_cons_zero, List.set_cons_succ]
                          refine wpG_take (i := 21) (v := undef) rfl (by kernel_rfl) (by kernel_rfl) (by kernel_rfl) (by kernel_rfl) (fun _ _ _ h => h) (by decide) (Or.inr ⟨by rfl, rfl⟩) hC hS ?_
                          clear hS hC
                          intro hS hC
                          try simp only [Act.put, List.getElem_toArray, List.getElem_cons_zero, List.getElem_cons_succ, List.setIfInBounds_toArray, List.set_cons_zero, List.set_cons_succ]
                          refine wpG_take (i := 22) (v := undef) rfl (by kernel_rfl) (by kernel_rfl) (by kernel_rfl) (by kernel_rfl) (fun _ _ _ h => h) (by decide) (Or.inr ⟨by rfl, rfl⟩) hC hS ?_
                          clear hS hC
                          intro hS hC
                          try simp only [Act.put, List.getElem_toArray, List.getElem_cons_zero, List.getElem_cons_succ, List.setIfInBounds_toArray, List.set_cons_zero, List.set_cons_succ]
                          refine wpG_take (i := 23) (v := undef) rfl (by kernel_rfl) (by kernel_rfl) (by kernel_rfl) (by kernel_rfl) (fun _ _ _ h => h) (by decide) (Or.inr ⟨by rfl, rfl⟩) hC hS ?_
                          clear hS hC
                          intro hS hC
                          try simp only [Act.put, List.getElem_toArray, List.getElem_cons_zero, List.getElem_cons_succ, List.setIfInBounds_toArray, List.set_cons_zero, List.set_cons_succ]
                          refine wpG_take (i := 24) (v := undef) rfl (by kernel_rfl) (by kernel_rfl) (by kernel_rfl) (by kernel_rfl) (fun _ _ _ h => h) (by decide) (Or.inr ⟨by rfl, rfl⟩) hC hS ?_
                          clear hS hC
                          intro hS hC
                          try simp only [Act.put, List.getElem_toArray, List.getElem_cons_zero, List.getElem_cons_succ, List.setIfInBounds_toArray, List.set_cons_zero, List.set_cons_succ]
                          refine wpG_take (i := 25) (v := undef) rfl (by kernel_rfl) (by kernel_rfl) (by kernel_rfl) (by kernel_rfl) (fun _ _ _ h => h) (by decide) (Or.inr ⟨by rfl, rfl⟩) hC hS ?_
                          clear hS hC
                          intro hS hC
                          try simp only [Act.put, List.getElem_toArray, List.getElem_cons_zero, List.getElem_cons_succ, List.setIfInBounds_toArray, List.set_cons_zero, List.set_cons_succ]
                          refine wpG_take (i := 26) (v := undef) rfl (by kernel_rfl) (by kernel_rfl) (by kernel_rfl) (by kernel_rfl) (fun _ _ _ h => h) (by decide) (Or.inr ⟨by rfl, rfl⟩) hC hS ?_
                          clear hS hC
                          intro hS hC
                          try simp only [Act.put, List.getElem_toArray, List.getElem_cons_zero, List.getElem_cons_succ, List.setIfInBounds_toArray, List.set_cons_zero, List.set_cons_succ]
                          refine wpG_take (i := 27) (v := undef) rfl (by kernel_rfl) (by kernel_rfl) (by kernel_rfl) (by kernel_rfl) (fun _ _ _ h => h) (by decide) (Or.inr ⟨by rfl, rfl⟩) hC hS ?_
                          clear hS hC
                          intro hS hC
                          try simp only [Act.put, List.getElem_toArray, List.getElem_cons_zero, List.getElem_cons_succ, List.setIfInBounds_toArray, List.set_cons_zero, List.set_cons_succ]
                          refine wpG_take (i := 28) (v := ?_) rfl (by kernel_rfl) (by kernel_rfl) (by kernel_rfl) (by kernel_rfl) (fun _ _ _ h => h) (by decide) (Or.inl ⟨by rfl, ?_⟩) hC hS ?_
                          rotate_left
                          · (intro W hc; obtain rfl := hc rfl; go_simp; first | done | with_reducible rfl)
                          clear hS hC
                          intro hS hC
                          try simp only [Act.put, List.getElem_toArray, List.getElem_cons_zero, List.getElem_cons_succ, List.setIfInBounds_toArray, List.set_cons_zero, List.set_cons_succ]
                          refine wpG_take (i := 29) (v := ?_) rfl (by kernel_rfl) (by kernel_rfl) (by kernel_rfl) (by kernel_rfl) (fun _ _ _ h => h) (by decide) (Or.inl ⟨by rfl, ?_⟩) hC hS ?_
                          rotate_left
                          · (intro W hc; obtain rfl := hc rfl; go_simp; first | done | with_reducible rfl)
                          clear hS hC
                          intro hS hC
                          try simp only [Act.put, List.getElem_toArray, List.getElem_cons_zero, List.getElem_cons_succ, List.setIfInBounds_toArray, List.set_cons_zero, List.set_cons_succ]
                          refine wpG_take (i := 30) (v := ?_) rfl (by kernel_rfl) (by kernel_rfl) (by kernel_rfl) (by kernel_rfl) (fun _ _ _ h => h) (by decide) (Or.inl ⟨by rfl, ?_⟩) hC hS ?_
                          rotate_left
                          · (intro W hc; obtain rfl := hc rfl; go_simp; first | done | with_reducible rfl)
                          clear hS hC
                          intro hS hC
                          try simp only [Act.put, List.getElem_toArray, List.getElem_cons_zero, List.getElem_cons_succ, List.setIfInBounds_toArray, List.set_cons_zero, List.set_cons_succ]
                          refine wpG_one (i := 31) (by kernel_rfl) rfl hC (fun K hK => ?_)
                          go_simp
                          refine hK.out _ _ (fun h => absurd h (by decide +kernel)) (fun _ _ => ?_)
                          clear hK K hS hC
                          refine wpG_done (by kernel_rfl) ?_ _
                          have HMn : Hid (Mat (wr.setCell ⟨B I, M, none⟩ (.bool false)).drew w1.heap.size n (.slice (some ⟨gO, 0, none⟩) n vcap) gO B (setG g3 I M false)) := Lib.hid ((HM4.out false).fx (S := No) ((Fx.refl No _).drew) (fun _ _ h => h))
                          have HFn : Hid (Fx (fun x => w1.heap.size ≤ x) w1 (wr.setCell ⟨B I, M, none⟩ (.bool false)).drew) := Lib.hid ((HFm3.out.setCell (.inr HBl.out) _).drew)
                          have HIn : Hid (Inv (edgeP L) n K I (M + 1) (setG g3 I M false)) := HI4
                          generalize (wr.setCell ⟨B I, M, none⟩ (.bool false)).drew = wn at *
                          clear k0 r1 r2 s1 s1' s2 s3
                          go_wp2
                          go_roundw
                          case rel => exact ⟨M + 1, _, by go_num, by omega, HFn.out, HMn.out, HIn.out⟩
                          case measure => simp [intOf]; omega
                        · skip
                          go_wp2_with fail
                          refine wp_region_G 31 (fun b W => b = false → W = wr.drew) (by kernel_rfl) (fun _ => rfl) ?_
                          intro hS hC
                          refine wpG_take (i := 0) (v := ?_) rfl (by kernel_rfl) (by kernel_rfl) (by kernel_rfl) (by kernel_rfl) (fun _ _ _ h => h) (by decide) (Or.inl ⟨by rfl, ?_⟩) hC hS ?_
                          rotate_left
                          · (intro W hc; obtain rfl := hc rfl; go_simp; first | done | with_reducible rfl)
                          clear hS hC
                          intro hS hC
                          try simp only [Act.put, List.getElem_toArray, List.getElem_cons_zero, List.getElem_cons_succ, List.setIfInBounds_toArray, List.set_cons_zero, List.set_cons_succ]
                          refine wpG_take (i := 1) (v := ?_) rfl (by kernel_rfl) (by kernel_rfl) (by kernel_rfl) (by kernel_rfl) (fun _ _ _ h => h) (by decide) (Or.inl ⟨by rfl, ?_⟩) hC hS ?_
                          rotate_left
                          · (intro W hc; obtain rfl := hc rfl; go_simp; first | done | with_reducible rfl)
                          clear hS hC
                          intro hS hC
                          try simp only [Act.put, List.getElem_toArray, List.getElem_cons_zero, List.getElem_cons_succ, List.setIfInBounds_toArray, List.set_cons_zero, List.set_cons_succ]
                          refine wpG_take (i := 2) (v := ?_) rfl (by kernel_rfl) (by kernel_rfl) (by kernel_rfl) (by kernel_rfl) (fun _ _ _ h => h) (by decide) (Or.inl ⟨by rfl, ?_⟩) hC hS ?_
                          rotate_left
                          · (intro W hc; obtain rfl := hc rfl; go_simp; first | done | with_reducible rfl)
                          clear hS hC
                          intro hS hC
                          try simp only [Act.put, List.getElem_toArray, List.getElem_cons_zero, List.getElem_cons_succ, List.setIfInBounds_toArray, List.set_cons_zero, List.set_cons_succ]
                          refine wpG_take (i := 3) (v := ?_) rfl (by kernel_rfl) (by kernel_rfl) (by kernel_rfl) (by kernel_rfl) (fun _ _ _ h => h) (by decide) (Or.inl ⟨by rfl, ?_⟩) hC hS ?_
                          rotate_left
                          · (intro W hc; obtain rfl := hc rfl; go_simp; first | done | with_reducible rfl)
                          clear hS hC
                          intro hS hC
                          try simp only [Act.put, List.getElem_toArray, List.getElem_cons_zero, List.getElem_cons_succ, List.setIfInBounds_toArray, List.set_cons_zero, List.set_cons_succ]
                          refine wpG_take (i := 4) (v := ?_) rfl (by kernel_rfl) (by kernel_rfl) (by kernel_rfl) (by kernel_rfl) (fun _ _ _ h => h) (by decide) (Or.inl ⟨by rfl, ?_⟩) hC hS ?_
                          rotate_left
                          · (intro W hc; obtain rfl := hc rfl; go_simp; first | done | with_reducible rfl)
                          clear hS hC
                          intro hS hC
                          try simp only [Act.put, List.getElem_toArray, List.getElem_cons_zero, List.getElem_cons_succ, List.setIfInBounds_toArray, List.set_cons_zero, List.set_cons_succ]
                          refine wpG_take (i := 5) (v := ?_) rfl (by kernel_rfl) (by kernel_rfl) (by kernel_rfl) (by kernel_rfl) (fun _ _ _ h => h) (by decide) (Or.inl ⟨by rfl, ?_⟩) hC hS ?_
                          rotate_left
                          · (intro W hc; obtain rfl := hc rfl; go_simp; first | done | with_reducible rfl)
                          clear hS hC
                          intro hS hC
                          try simp only [Act.put, List.getElem_toArray, List.getElem_cons_zero, List.getElem_cons_succ, List.setIfInBounds_toArray, List.set_cons_zero, List.set_cons_succ]
                          refine wpG_take (i := 6) (v := ?_) rfl (by kernel_rfl) (by kernel_rfl) (by kernel_rfl) (by kernel_rfl) (fun _ _ _ h => h) (by decide) (Or.inl ⟨by rfl, ?_⟩) hC hS ?_
                          rotate_left
                          · (intro W hc; obtain rfl := hc rfl; go_simp; first | done | with_reducible rfl)
                          clear hS hC
                          intro hS hC
                          try simp only [Act.put, List.getElem_toArray, List.getElem_cons_zero, List.getElem_cons_succ, List.setIfInBounds_toArray, List.set_cons_zero, List.set_cons_succ]
                          refine wpG_take (i := 7) (v := ?_) rfl (by kernel_rfl) (by kernel_rfl) (by kernel_rfl) (by kernel_rfl) (fun _ _ _ h => h) (by decide) (Or.inl ⟨by rfl, ?_⟩) hC hS ?_
                          rotate_left
                          · (intro W hc; obtain rfl := hc rfl; go_simp; first | done | with_reducible rfl)
                          clear hS hC
                          intro hS hC
                          try simp only [Act.put, List.getElem_toArray, List.getElem_cons_zero, List.getElem_cons_succ, List.setIfInBounds_toArray, List.set_cons_zero, List.set_cons_succ]
                          refine wpG_take (i := 8) (v := ?_) rfl (by kernel_rfl) (by kernel_rfl) (by kernel_rfl) (by kernel_rfl) (fun _ _ _ h => h) (by decide) (Or.inl ⟨by rfl, ?_⟩) hC hS ?_
                          rotate_left
                          · (intro W hc; obtain rfl := hc rfl; go_simp; first | done | with_reducible rfl)
                          clear hS hC
                          intro hS hC
                          try simp only [Act.put, List.getElem_toArray, List.getElem_cons_zero, List.getElem_cons_succ, List.setIfInBounds_toArray, List.set_cons_zero, List.set_cons_succ]
                          refine wpG_take (i := 9) (v := ?_) rfl (by kernel_rfl) (by kernel_rfl) (by kernel_rfl) (by kernel_rfl) (fun _ _ _ h => h) (by decide) (Or.inl ⟨by rfl, ?_⟩) hC hS ?_
                          rotate_left
                          · (intro W hc; obtain rfl := hc rfl; go_simp; first | done | with_reducible rfl)
                          clear hS hC
                          intro hS hC
                          try simp only [Act.put, List.getElem_toArray, List.getElem_cons_zero, List.getElem_cons_succ, List.setIfInBounds_toArray, List.set_cons_zero, List.set_cons_succ]
                          refine wpG_take (i := 10) (v := ?_) rfl (by kernel_rfl) (by kernel_rfl) (by kernel_rfl) (by kernel_rfl) (fun _ _ _ h => h) (by decide) (Or.inl ⟨by rfl, ?_⟩) hC hS ?_
                          rotate_left
                          · (intro W hc; obtain rfl := hc rfl; go_simp; first | done | with_reducible rfl)
                          clear hS hC
                          intro hS hC
                          try simp only [Act.put, List.getElem_toArray, List.getElem_cons_zero, List.getElem_cons_succ, List.setIfInBounds_toArray, List.set_cons_zero, List.set_cons_succ]
                          refine wpG_take (i := 11) (v := ?_) rfl (by kernel_rfl) (by kernel_rfl) (by kernel_rfl) (by kernel_rfl) (fun _ _ _ h => h) (by decide) (Or.inl ⟨by rfl, ?_⟩) hC hS ?_
                          rotate_left
                          · (intro W hc; obtain rfl := hc rfl; go_simp; first | done | with_reducible rfl)
                          clear hS hC
                          intro hS hC
                          try simp only [Act.put, List.getElem_toArray, List.getElem_cons_zero, List.getElem_cons_succ, List.setIfInBounds_toArray, List.set_cons_zero, List.set_cons_succ]
                          refine wpG_take (i := 12) (v := ?_) rfl (by kernel_rfl) (by kernel_rfl) (by kernel_rfl) (by kernel_rfl) (fun _ _ _ h => h) (by decide) (Or.inl ⟨by rfl, ?_⟩) hC hS ?_
                          rotate_left
                          · (intro W hc; obtain rfl := hc rfl; go_simp; first | done | with_reducible rfl)
                          clear hS hC
                          intro hS hC
                          try simp only [Act.put, List.getElem_toArray, List.getElem_cons_zero, List.getElem_cons_succ, List.setIfInBounds_toArray, List.set_cons_zero, List.set_cons_succ]
                          refine wpG_take (i := 13) (v := ?_) rfl (by kernel_rfl) (by kernel_rfl) (by kernel_rfl) (by kernel_rfl) (fun _ _ _ h => h) (by decide) (Or.inl ⟨by rfl, ?_⟩) hC hS ?_
                          rotate_left
                          · (intro W hc; obtain rfl := hc rfl; go_simp; first | done | with_reducible rfl)
                          clear hS hC
                          intro hS hC
                          try simp only [Act.put, List.getElem_toArray, List.getElem_cons_zero, List.getElem_cons_succ, List.setIfInBounds_toArray, List.set_cons_zero, List.set_cons_succ]
                          refine wpG_take (i := 14) (v := ?_) rfl (by kernel_rfl) (by kernel_rfl) (by kernel_rfl) (by kernel_rfl) (fun _ _ _ h => h) (by decide) (Or.inl ⟨by rfl, ?_⟩) hC hS ?_
                          rotate_left
                          · (intro W hc; obtain rfl := hc rfl; go_simp; first | done | with_reducible rfl)
                          clear hS hC
                          intro hS hC
                          try simp only [Act.put, List.getElem_toArray, List.getElem_cons_zero, List.getElem_cons_succ, List.setIfInBounds_toArray, List.set_cons_zero, List.set_cons_succ]
                          refine wpG_take (i := 15) (v := ?_) rfl (by kernel_rfl) (by kernel_rfl) (by kernel_rfl) (by kernel_rfl) (fun _ _ _ h => h) (by decide) (Or.inl ⟨by rfl, ?_⟩) hC hS ?_
                          rotate_left
                          · (intro W hc; obtain rfl := hc rfl; go_simp; first | done | with_reducible rfl)
                          clear hS hC
                          intro hS hC
                          try simp only [Act.put, List.getElem_toArray, List.getElem_cons_zero, List.getElem_cons_succ, List.setIfInBounds_toArray, List.set_cons_zero, List.set_cons_succ]
                          refine wpG_take (i := 16) (v := ?_) rfl (by kernel_rfl) (by kernel_rfl) (by kernel_rfl) (by kernel_rfl) (fun _ _ _ h => h) (by decide) (Or.inl ⟨by rfl, ?_⟩) hC hS ?_
                          rotate_left
                          · (intro W hc; obtain rfl := hc rfl; go_simp; first | done | with_reducible rfl)
                          clear hS hC
                          intro hS hC
                          try simp only [Act.put, List.getElem_toArray, List.getElem_cons_zero, List.getElem_cons_succ, List.setIfInBounds_toArray, List.set_cons_zero, List.set_cons_succ]
                          refine wpG_take (i := 17) (v := ?_) rfl (by kernel_rfl) (by kernel_rfl) (by kernel_rfl) (by kernel_rfl) (fun _ _ _ h => h) (by decide) (Or.inl ⟨by rfl, ?_⟩) hC hS ?_
                          rotate_left
                          · (intro W hc; obtain rfl := hc rfl; go_simp; first | done | with_reducible rfl)
                          clear hS hC
                          intro hS hC
                          try simp only [Act.put, List.getElem_toArray, List.getElem_cons_zero, List.getElem_cons_succ, List.setIfInBounds_toArray, List.set_cons_zero, List.set_cons_succ]
                          refine wpG_take (i := 18) (v := ?_) rfl (by kernel_rfl) (by kernel_rfl) (by kernel_rfl) (by kernel_rfl) (fun _ _ _ h => h) (by decide) (Or.inl ⟨by rfl, ?_⟩) hC hS ?_
                          rotate_left
                          · (intro W hc; obtain rfl := hc rfl; go_simp; first | done | with_reducible rfl)
                          clear hS hC
                          intro hS hC
                          try simp only [Act.put, List.getElem_toArray, List.getElem_cons_zero, List.getElem_cons_succ, List.setIfInBounds_toArray, List.set_cons_zero, List.set_cons_succ]
                          refine wpG_take (i := 19) (v := ?_) rfl (by kernel_rfl) (by kernel_rfl) (by kernel_rfl) (by kernel_rfl) (fun _ _ _ h => h) (by decide) (Or.inl ⟨by rfl, ?_⟩) hC hS ?_
                          rotate_left
                          · (intro W hc; obtain rfl := hc rfl; go_simp; first | done | with_reducible rfl)
                          clear hS hC
                          intro hS hC
                          try simp only [Act.put, List.getElem_toArray, List.getElem_cons_zero, List.getElem_cons_succ, List.setIfInBounds_toArray, List.set_cons_zero, List.set_cons_succ]
                          refine wpG_take (i := 20) (v := ?_) rfl (by kernel_rfl) (by kernel_rfl) (by kernel_rfl) (by kernel_rfl) (fun _ _ _ h => h) (by decide) (Or.inl ⟨by rfl, ?_⟩) hC hS ?_
                          rotate_left
                          · (intro W hc; obtain rfl := hc rfl; go_simp; first | done | with_reducible rfl)
                          clear hS hC
                          intro hS hC
                          try simp only [Act.put, List.getElem_toArray, List.getElem_cons_zero, List.getElem_cons_succ, List.setIfInBounds_toArray, List.set_cons_zero, List.set_cons_succ]
                          refine wpG_take (i := 21) (v := ?_) rfl (by kernel_rfl) (by kernel_rfl) (by kernel_rfl) (by kernel_rfl) (fun _ _ _ h => h) (by decide) (Or.inl ⟨by rfl, ?_⟩) hC hS ?_
                          rotate_left
                          · (intro W hc; obtain rfl := hc rfl; go_simp; first | done | with_reducible rfl)
                          clear hS hC
                          intro hS hC
                          try simp only [Act.put, List.getElem_toArray, List.getElem_cons_zero, List.getElem_cons_succ, List.setIfInBounds_toArray, List.set_cons_zero, List.set_cons_succ]
                          refine wpG_take (i := 22) (v := ?_) rfl (by kernel_rfl) (by kernel_rfl) (by kernel_rfl) (by kernel_rfl) (fun _ _ _ h => h) (by decide) (Or.inl ⟨by rfl, ?_⟩) hC hS ?_
                          rotate_left
                          · (intro W hc; obtain rfl := hc rfl; go_simp; first | done | with_reducible rfl)
                          clear hS hC
                          intro hS hC
                          try simp only [Act.put, List.getElem_toArray, List.getElem_cons_zero, List.getElem_cons_succ, List.setIfInBounds_toArray, List.set_cons_zero, List.set_cons_succ]
                          refine wpG_take (i := 23) (v := ?_) rfl (by kernel_rfl) (by kernel_rfl) (by kernel_rfl) (by kernel_rfl) (fun _ _ _ h => h) (by decide) (Or.inl ⟨by rfl, ?_⟩) hC hS ?_
                          rotate_left
                          · (intro W hc; obtain rfl := hc rfl; go_simp; first | done | with_reducible rfl)
                          clear hS hC
                          intro hS hC
                          try simp only [Act.put, List.getElem_toArray, List.getElem_cons_zero, List.getElem_cons_succ, List.setIfInBounds_toArray, List.set_cons_zero, List.set_cons_succ]
                          refine wpG_take (i := 24) (v := ?_) rfl (by kernel_rfl) (by kernel_rfl) (by kernel_rfl) (by kernel_rfl) (fun _ _ _ h => h) (by decide) (Or.inl ⟨by rfl, ?_⟩) hC hS ?_
                          rotate_left
                          · (intro W hc; obtain rfl := hc rfl; go_simp; first | done | with_reducible rfl)
                          clear hS hC
                          intro hS hC
                          try simp only [Act.put, List.getElem_toArray, List.getElem_cons_zero, List.getElem_cons_succ, List.setIfInBounds_toArray, List.set_cons_zero, List.set_cons_succ]
                          refine wpG_take (i := 25) (v := ?_) rfl (by kernel_rfl) (by kernel_rfl) (by kernel_rfl) (by kernel_rfl) (fun _ _ _ h => h) (by decide) (Or.inl ⟨by rfl, ?_⟩) hC hS ?_
                          rotate_left
                          · (intro W hc; obtain rfl := hc rfl; go_simp; first | done | with_reducible rfl)
                          clear hS hC
                          intro hS hC
                          try simp only [Act.put, List.getElem_toArray, List.getElem_cons_zero, List.getElem_cons_succ, List.setIfInBounds_toArray, List.set_cons_zero, List.set_cons_succ]
                          refine wpG_take (i := 26) (v := ?_) rfl (by kernel_rfl) (by kernel_rfl) (by kernel_rfl) (by kernel_rfl) (fun _ _ _ h => h) (by decide) (Or.inl ⟨by rfl, ?_⟩) hC hS ?_
                          rotate_left
                          · (intro W hc; obtain rfl := hc rfl; go_simp; first | done | with_reducible rfl)
                          clear hS hC
                          intro hS hC
                          try simp only [Act.put, List.getElem_toArray, List.getElem_cons_zero, List.getElem_cons_succ, List.setIfInBounds_toArray, List.set_cons_zero, List.set_cons_succ]
                          refine wpG_take (i := 27) (v := ?_) rfl (by kernel_rfl) (by kernel_rfl) (by kernel_rfl) (by kernel_rfl) (fun _ _ _ h => h) (by decide) (Or.inl ⟨by rfl, ?_⟩) hC hS ?_
                          rotate_left
                          · (intro W hc; obtain rfl := hc rfl; go_simp; first | done | with_reducible rfl)
                          clear hS hC
                          intro hS hC
                          try simp only [Act.put, List.getElem_toArray, List.getElem_cons_zero, List.getElem_cons_succ, List.setIfInBounds_toArray, List.set_cons_zero, List.set_cons_succ]
                          refine wpG_take (i := 28) (v := ?_) rfl (by kernel_rfl) (by kernel_rfl) (by kernel_rfl) (by kernel_rfl) (fun _ _ _ h => h) (by decide) (Or.inl ⟨by rfl, ?_⟩) hC hS ?_
                          rotate_left
                          · (intro W hc; obtain rfl := hc rfl; go_simp; first | done | with_reducible rfl)
                          clear hS hC
                          intro hS hC
                          try simp only [Act.put, List.getElem_toArray, List.getElem_cons_zero, List.getElem_cons_succ, List.setIfInBounds_toArray, List.set_cons_zero, List.set_cons_succ]
                          refine wpG_take (i := 29) (v := ?_) rfl (by kernel_rfl) (by kernel_rfl) (by kernel_rfl) (by kernel_rfl) (fun _ _ _ h => h) (by decide) (Or.inl ⟨by rfl, ?_⟩) hC hS ?_
                          rotate_left
                          · (intro W hc; obtain rfl := hc rfl; go_simp; first | done | with_reducible rfl)
                          clear hS hC
                          intro hS hC
                          try simp only [Act.put, List.getElem_toArray, List.getElem_cons_zero, List.getElem_cons_succ, List.setIfInBounds_toArray, List.set_cons_zero, List.set_cons_succ]
                          refine wpG_take (i := 30) (v := ?_) rfl (by kernel_rfl) (by kernel_rfl) (by kernel_rfl) (by kernel_rfl) (fun _ _ _ h => h) (by decide) (Or.inl ⟨by rfl, ?_⟩) hC hS ?_
                          rotate_left
                          · (intro W hc; obtain rfl := hc rfl; go_simp; first | done | with_reducible rfl)
                          clear hS hC
                          intro hS hC
                          try simp only [Act.put, List.getElem_toArray, List.getElem_cons_zero, List.getElem_cons_succ, List.setIfInBounds_toArray, List.set_cons_zero, List.set_cons_succ]
                          refine wpG_one (i := 31) (by kernel_rfl) rfl hC (fun K hK => ?_)
                          go_simp
                          refine hK.out _ _ (fun h => absurd h (by decide +kernel)) (fun _ _ => ?_)
                          clear hK K hS hC
                          refine wpG_done (by kernel_rfl) ?_ _
                          have HMn : Hid (Mat (wr.setCell ⟨B I, M, none⟩ (.bool tc)).drew w1.heap.size n (.slice (some ⟨gO, 0, none⟩) n vcap) gO B (setG g3 I M tc)) := Lib.hid ((HM4.out tc).fx (S := No) ((Fx.refl No _).drew) (fun _ _ h => h))
                          have HFn : Hid (Fx (fun x => w1.heap.size ≤ x) w1 (wr.setCell ⟨B I, M, none⟩ (.bool tc)).drew) := Lib.hid ((HFm3.out.setCell (.inr HBl.out) _).drew)
                          have HIn : Hid (Inv (edgeP L) n K I (M + 1) (setG g3 I M tc)) := HI4
                          generalize (wr.setCell ⟨B I, M, none⟩ (.bool tc)).drew = wn at *
                          clear k0 r1 r2 s1 s1' s2 s3
                          go_wp2
                          go_roundw
                          case rel => exact ⟨M + 1, _, by go_num, by omega, HFn.out, HMn.out, HIn.out⟩
                          case measure => simp [intOf]; omega
                      · skip
                        go_wp2_with fail
                        refine wp_region_G 31 (fun b W => b = false → W = wr.drew) (by kernel_rfl) (fun _ => rfl) ?_
                        intro hS hC
                        refine wpG_take (i := 0) (v := ?_) rfl (by kernel_rfl) (by kernel_rfl) (by kernel_rfl) (by kernel_rfl) (fun _ _ _ h => h) (by decide) (Or.inl ⟨by rfl, ?_⟩) hC hS ?_
                        rotate_left
                        · (intro W hc; obtain rfl := hc rfl; go_simp; first | done | with_reducible rfl)
                        clear hS hC
                        intro hS hC
                        try simp only [Act.put, List.getElem_toArray, List.getElem_cons_zero, List.getElem_cons_succ, List.setIfInBounds_toArray, List.set_cons_zero, List.set_cons_succ]
                        refine wpG_take (i := 1) (v := ?_) rfl (by kernel_rfl) (by kernel_rfl) (by kernel_rfl) (by kernel_rfl) (fun _ _ _ h => h) (by decide) (Or.inl ⟨by rfl, ?_⟩) hC hS ?_
                        rotate_left
                        · (intro W hc; obtain rfl := hc rfl; go_simp; first | done | with_reducible rfl)
                        clear hS hC
                        intro hS hC
                        try simp only [Act.put, List.getElem_toArray, List.getElem_cons_zero, List.getElem_cons_succ, List.setIfInBounds_toArray, List.set_cons_zero, List.set_cons_succ]
                        refine wpG_take (i := 2) (v := ?_) rfl (by kernel_rfl) (by kernel_rfl) (by kernel_rfl) (by kernel_rfl) (fun _ _ _ h => h) (by decide) (Or.inl ⟨by rfl, ?_⟩) hC hS ?_
                        rotate_left
                        · (intro W hc; obtain rfl := hc rfl; go_simp; first | done | with_reducible rfl)
                        clear hS hC
                        intro hS hC
                        try simp only [Act.put, List.getElem_toArray, List.getElem_cons_zero, List.getElem_cons_succ, List.setIfInBounds_toArray, List.set_cons_zero, List.set_cons_succ]
                        refine wpG_take (i := 3) (v := ?_) rfl (by kernel_rfl) (by kernel_rfl) (by kernel_rfl) (by kernel_rfl) (fun _ _ _ h => h) (by decide) (Or.inl ⟨by rfl, ?_⟩) hC hS ?_
                        rotate_left
                        · (intro W hc; obtain rfl := hc rfl; go_simp; first | done | with_reducible rfl)
                        clear hS hC
                        intro hS hC
                        try simp only [Act.put, List.getElem_toArray, List.getElem_cons_zero, List.getElem_cons_succ, List.setIfInBounds_toArray, List.set_cons_zero, List.set_cons_succ]
                        refine wpG_take (i := 4) (v := ?_) rfl (by kernel_rfl) (by kernel_rfl) (by kernel_rfl) (by kernel_rfl) (fun _ _ _ h => h) (by decide) (Or.inl ⟨by rfl, ?_⟩) hC hS ?_
                        rotate_left
                        · (intro W hc; obtain rfl := hc rfl; go_simp; first | done | with_reducible rfl)
                        clear hS hC
                        intro hS hC
                        try simp only [Act.put, List.getElem_toArray, List.getElem_cons_zero, List.getElem_cons_succ, List.setIfInBounds_toArray, List.set_cons_zero, List.set_cons_succ]
                        refine wpG_take (i := 5) (v := ?_) rfl (by kernel_rfl) (by kernel_rfl) (by kernel_rfl) (by kernel_rfl) (fun _ _ _ h => h) (by decide) (Or.inl ⟨by rfl, ?_⟩) hC hS ?_
                        rotate_left
                        · (intro W hc; obtain rfl := hc rfl; go_simp; first | done | with_reducible rfl)
                        clear hS hC
                        intro hS hC
                        try simp only [Act.put, List.getElem_toArray, List.getElem_cons_zero, List.getElem_cons_succ, List.setIfInBounds_toArray, List.set_cons_zero, List.set_cons_succ]
                        refine wpG_take (i := 6) (v := ?_) rfl (by kernel_rfl) (by kernel_rfl) (by kernel_rfl) (by kernel_rfl) (fun _ _ _ h => h) (by decide) (Or.inl ⟨by rfl, ?_⟩) hC hS ?_
                        rotate_left
                        · (intro W hc; obtain rfl := hc rfl; go_simp; first | done | with_reducible rfl)
                        clear hS hC
                        intro hS hC
                        try simp only [Act.put, List.getElem_toArray, List.getElem_cons_zero, List.getElem_cons_succ, List.setIfInBounds_toArray, List.set_cons_zero, List.set_cons_succ]
                        refine wpG_take (i := 7) (v := ?_) rfl (by kernel_rfl) (by kernel_rfl) (by kernel_rfl) (by kernel_rfl) (fun _ _ _ h => h) (by decide) (Or.inl ⟨by rfl, ?_⟩) hC hS ?_
                        rotate_left
                        · (intro W hc; obtain rfl := hc rfl; go_simp; first | done | with_reducible rfl)
                        clear hS hC
                        intro hS hC
                        try simp only [Act.put, List.getElem_toArray, List.getElem_cons_zero, List.getElem_cons_succ, List.setIfInBounds_toArray, List.set_cons_zero, List.set_cons_succ]
                        refine wpG_take (i := 8) (v := ?_) rfl (by kernel_rfl) (by kernel_rfl) (by kernel_rfl) (by kernel_rfl) (fun _ _ _ h => h) (by decide) (Or.inl ⟨by rfl, ?_⟩) hC hS ?_
                        rotate_left
                        · (intro W hc; obtain rfl := hc rfl; go_simp; first | done | with_reducible rfl)
                        clear hS hC
                        intro hS hC
                        try simp only [Act.put, List.getElem_toArray, List.getElem_cons_zero, List.getElem_cons_succ, List.setIfInBounds_toArray, List.set_cons_zero, List.set_cons_succ]
                        refine wpG_take (i := 9) (v := ?_) rfl (by kernel_rfl) (by kernel_rfl) (by kernel_rfl) (by kernel_rfl) (fun _ _ _ h => h) (by decide) (Or.inl ⟨by rfl, ?_⟩) hC hS ?_
                        rotate_left
                        · (intro W hc; obtain rfl := hc rfl; go_simp; first | done | with_reducible rfl)
                        clear hS hC
                        intro hS hC
                        try simp only [Act.put, List.getElem_toArray, List.getElem_cons_zero, List.getElem_cons_succ, List.setIfInBounds_toArray, List.set_cons_zero, List.set_cons_succ]
                        refine wpG_take (i := 10) (v := ?_) rfl (by kernel_rfl) (by kernel_rfl) (by kernel_rfl) (by kernel_rfl) (fun _ _ _ h => h) (by decide) (Or.inl ⟨by rfl, ?_⟩) hC hS ?_
                        rotate_left
                        · (intro W hc; obtain rfl := hc rfl; go_simp; first | done | with_reducible rfl)
                        clear hS hC
                        intro hS hC
                        try simp only [Act.put, List.getElem_toArray, List.getElem_cons_zero, List.getElem_cons_succ, List.setIfInBounds_toArray, List.set_cons_zero, List.set_cons_succ]
                        refine wpG_take (i := 11) (v := ?_) rfl (by kernel_rfl) (by kernel_rfl) (by kernel_rfl) (by kernel_rfl) (fun _ _ _ h => h) (by decide) (Or.inl ⟨by rfl, ?_⟩) hC hS ?_
                        rotate_left
                        · (intro W hc; obtain rfl := hc rfl; go_simp; first | done | with_reducible rfl)
                        clear hS hC
                        intro hS hC
                        try simp only [Act.put, List.getElem_toArray, List.getElem_cons_zero, List.getElem_cons_succ, List.setIfInBounds_toArray, List.set_cons_zero, List.set_cons_succ]
                        refine wpG_take (i := 12) (v := ?_) rfl (by kernel_rfl) (by kernel_rfl) (by kernel_rfl) (by kernel_rfl) (fun _ _ _ h => h) (by decide) (Or.inl ⟨by rfl, ?_⟩) hC hS ?_
                        rotate_left
                        · (intro W hc; obtain rfl := hc rfl; go_simp; first | done | with_reducible rfl)
                        clear hS hC
                        intro hS hC
                        try simp only [Act.put, List.getElem_toArray, List.getElem_cons_zero, List.getElem_cons_succ, List.setIfInBounds_toArray, List.set_cons_zero, List.set_cons_succ]
                        refine wpG_take (i := 13) (v := undef) rfl (by kernel_rfl) (by kernel_rfl) (by kernel_rfl) (by kernel_rfl) (fun _ _ _ h => h) (by decide) (Or.inr ⟨by rfl, rfl⟩) hC hS ?_
                        clear hS hC
                        intro hS hC
                        try simp only [Act.put, List.getElem_toArray, List.getElem_cons_zero, List.getElem_cons_succ, List.setIfInBounds_toArray, List.set_cons_zero, List.set_cons_succ]
                        refine wpG_take (i := 14) (v := undef) rfl (by kernel_rfl) (by kernel_rfl) (by kernel_rfl) (by kernel_rfl) (fun _ _ _ h => h) (by decide) (Or.inr ⟨by rfl, rfl⟩) hC hS ?_
                        clear hS hC
                        intro hS hC
                        try simp only [Act.put, List.getElem_toArray, List.getElem_cons_zero, List.getElem_cons_succ, List.setIfInBounds_toArray, List.set_cons_zero, List.set_cons_succ]
                        refine wpG_take (i := 15) (v := undef) rfl (by kernel_rfl) (by kernel_rfl) (by kernel_rfl) (by kernel_rfl) (fun _ _ _ h => h) (by decide) (Or.inr ⟨by rfl, rfl⟩) hC hS ?_
                        clear hS hC
                        intro hS hC
                        try simp only [Act.put, List.getElem_toArray, List.getElem_cons_zero, List.getElem_cons_succ, List.setIfInBounds_toArray, List.set_cons_zero, List.set_cons_succ]
                        refine wpG_take (i := 16) (v := undef) rfl (by kernel_rfl) (by kernel_rfl) (by kernel_rfl) (by kernel_rfl) (fun _ _ _ h => h) (by decide) (Or.inr ⟨by rfl, rfl⟩) hC hS ?_
                        clear hS hC
                        intro hS hC
                        try simp only [Act.put, List.getElem_toArray, List.getElem_cons_zero, List.getElem_cons_succ, List.setIfInBounds_toArray, List.set_cons_zero, List.set_cons_succ]
                        refine wpG_take (i := 17) (v := undef) rfl (by kernel_rfl) (by kernel_rfl) (by kernel_rfl) (by kernel_rfl) (fun _ _ _ h => h) (by decide) (Or.inr ⟨by rfl, rfl⟩) hC hS ?_
                        clear hS hC
                        intro hS hC
                        try simp only [Act.put, List.getElem_toArray, List.getElem_cons_zero, List.getElem_cons_succ, List.setIfInBounds_toArray, List.set_cons_zero, List.set_cons_succ]
                        refine wpG_take (i := 18) (v := undef) rfl (by kernel_rfl) (by kernel_rfl) (by kernel_rfl) (by kernel_rfl) (fun _ _ _ h => h) (by decide) (Or.inr ⟨by rfl, rfl⟩) hC hS ?_
                        clear hS hC
                        intro hS hC
                        try simp only [Act.put, List.getElem_toArray, List.getElem_cons_zero, List.getElem_cons_succ, List.setIfInBounds_toArray, List.set_cons_zero, List.set_cons_succ]
                        refine wpG_take (i := 19) (v := undef) rfl (by kernel_rfl) (by kernel_rfl) (by kernel_rfl) (by kernel_rfl) (fun _ _ _ h => h) (by decide) (Or.inr ⟨by rfl, rfl⟩) hC hS ?_
                        clear hS hC
                        intro hS hC
                        try simp only [Act.put, List.getElem_toArray, List.getElem_cons_zero, List.getElem_cons_succ, List.setIfInBounds_toArray, List.set_cons_zero, List.set_cons_succ]
                        refine wpG_take (i := 20) (v := undef) rfl (by kernel_rfl) (by kernel_rfl) (by kernel_rfl) (by kernel_rfl) (fun _ _ _ h => h) (by decide) (Or.inr ⟨by rfl, rfl⟩) hC hS ?_
                        clear hS hC
                        intro hS hC
                        try simp only [Act.put, List.getElem_toArray, List.getElem_cons_zero, List.getElem_cons_succ, List.setIfInBounds_toArray, List.set_cons_zero, List.set_cons_succ]
                        refine wpG_take (i := 21) (v := undef) rfl (by kernel_rfl) (by kernel_rfl) (by kernel_rfl) (by kernel_rfl) (fun _ _ _ h => h) (by decide) (Or.inr ⟨by rfl, rfl⟩) hC hS ?_
                        clear hS hC
                        intro hS hC
                        try simp only [Act.put, List.getElem_toArray, List.getElem_cons_zero, List.getElem_cons_succ, List.setIfInBounds_toArray, List.set_cons_zero, List.set_cons_succ]
                        refine wpG_take (i := 22) (v := undef) rfl (by kernel_rfl) (by kernel_rfl) (by kernel_rfl) (by kernel_rfl) (fun _ _ _ h => h) (by decide) (Or.inr ⟨by rfl, rfl⟩) hC hS ?_
                        clear hS hC
                        intro hS hC
                        try simp only [Act.put, List.getElem_toArray, List.getElem_cons_zero, List.getElem_cons_succ, List.setIfInBounds_toArray, List.set_cons_zero, List.set_cons_succ]
                        refine wpG_take (i := 23) (v := undef) rfl (by kernel_rfl) (by kernel_rfl) (by kernel_rfl) (by kernel_rfl) (fun _ _ _ h => h) (by decide) (Or.inr ⟨by rfl, rfl⟩) hC hS ?_
                        clear hS hC
                        intro hS hC
                        try simp only [Act.put, List.getElem_toArray, List.getElem_cons_zero, List.getElem_cons_succ, List.setIfInBounds_toArray, List.set_cons_zero, List.set_cons_succ]
                        refine wpG_take (i := 24) (v := undef) rfl (by kernel_rfl) (by kernel_rfl) (by kernel_rfl) (by kernel_rfl) (fun _ _ _ h => h) (by decide) (Or.inr ⟨by rfl, rfl⟩) hC hS ?_
                        clear hS hC
                        intro hS hC
                        try simp only [Act.put, List.getElem_toArray, List.getElem_cons_zero, List.getElem_cons_succ, List.setIfInBounds_toArray, List.set_cons_zero, List.set_cons_succ]
                        refine wpG_take (i := 25) (v := undef) rfl (by kernel_rfl) (by kernel_rfl) (by kernel_rfl) (by kernel_rfl) (fun _ _ _ h => h) (by decide) (Or.inr ⟨by rfl, rfl⟩) hC hS ?_
                        clear hS hC
                        intro hS hC
                        try simp only [Act.put, List.getElem_toArray, List.getElem_cons_zero, List.getElem_cons_succ, List.setIfInBounds_toArray, List.set_cons_zero, List.set_cons_succ]
                        refine wpG_take (i := 26) (v := undef) rfl (by kernel_rfl) (by kernel_rfl) (by kernel_rfl) (by kernel_rfl) (fun _ _ _ h => h) (by decide) (Or.inr ⟨by rfl, rfl⟩) hC hS ?_
                        clear hS hC
                        intro hS hC
                        try simp only [Act.put, List.getElem_toArray, List.getElem_cons_zero, List.getElem_cons_succ, List.setIfInBounds_toArray, List.set_cons_zero, List.set_cons_succ]
                        refine wpG_take (i := 27) (v := undef) rfl (by kernel_rfl) (by kernel_rfl) (by kernel_rfl) (by kernel_rfl) (fun _ _ _ h => h) (by decide) (Or.inr ⟨by rfl, rfl⟩) hC hS ?_
                        clear hS hC
                        intro hS hC
                        try simp only [Act.put, List.getElem_toArray, List.getElem_cons_zero, List.getElem_cons_succ, List.setIfInBounds_toArray, List.set_cons_zero, List.set_cons_succ]
                        refine wpG_take (i := 28) (v := undef) rfl (by kernel_rfl) (by kernel_rfl) (by kernel_rfl) (by kernel_rfl) (fun _ _ _ h => h) (by decide) (Or.inr ⟨by rfl, rfl⟩) hC hS ?_
                        clear hS hC
                        intro hS hC
                        try simp only [Act.put, List.getElem_toArray, List.getElem_cons_zero, List.getElem_cons_succ, List.setIfInBounds_toArray, List.set_cons_zero, List.set_cons_succ]
                        refine wpG_take (i := 29) (v := ?_) rfl (by kernel_rfl) (by kernel_rfl) (by kernel_rfl) (by kernel_rfl) (fun _ _ _ h => h) (by decide) (Or.inl ⟨by rfl, ?_⟩) hC hS ?_
                        rotate_left
                        · (intro W hc; obtain rfl := hc rfl; go_simp; first | done | with_reducible rfl)
                        clear hS hC
                        intro hS hC
                        try simp only [Act.put, List.getElem_toArray, List.getElem_cons_zero, List.getElem_cons_succ, List.setIfInBounds_toArray, List.set_cons_zero, List.set_cons_succ]
                        refine wpG_take (i := 30) (v := ?_) rfl (by kernel_rfl) (by kernel_rfl) (by kernel_rfl) (by kernel_rfl) (fun _ _ _ h => h) (by decide) (Or.inl ⟨by rfl, ?_⟩) hC hS ?_
                        rotate_left
                        · (intro W hc; obtain rfl := hc rfl; go_simp; first | done | with_reducible rfl)
                        clear hS hC
                        intro hS hC
                        try simp only [Act.put, List.getElem_toArray, List.getElem_cons_zero, List.getElem_cons_succ, List.setIfInBounds_toArray, List.set_cons_zero, List.set_cons_succ]
                        refine wpG_one (i := 31) (by kernel_rfl) rfl hC (fun K hK => ?_)
                        go_simp
                        refine hK.out _ _ (fun h => absurd h (by decide +kernel)) (fun _ _ => ?_)
                        clear hK K hS hC
                        refine wpG_done (by kernel_rfl) ?_ _
                        have HMn : Hid (Mat (wr.setCell ⟨B I, M, none⟩ (.bool true)).drew w1.heap.size n (.slice (some ⟨gO, 0, none⟩) n vcap) gO B (setG g3 I M true)) := Lib.hid ((HM4.out true).fx (S := No) ((Fx.refl No _).drew) (fun _ _ h => h))
                        have HFn : Hid (Fx (fun x => w1.heap.size ≤ x) w1 (wr.setCell ⟨B I, M, none⟩ (.bool true)).drew) := Lib.hid ((HFm3.out.setCell (.inr HBl.out) _).drew)
                        have HIn : Hid (Inv (edgeP L) n K I (M + 1) (setG g3 I M true)) := HI4
                        generalize (wr.setCell ⟨B I, M, none⟩ (.bool true)).drew = wn at *
                        clear k0 r1 r2 s1 s1' s2 s3
                        go_wp2
                        go_roundw
                        case rel => exact ⟨M + 1, _, by go_num, by omega, HFn.out, HMn.out, HIn.out⟩
                        case measure => simp [intOf]; omega
                    · obtain rfl : n = M := by omega
                      go_wp2
                      go_roundw
                      case rel => exact ⟨I + 1, g3, by go_num, by omega, HFm3.out, HM3.out, HI3.out.row⟩
                      case measure => simp [intOf]; omega
                · obtain rfl : n = I := by omega
                  go_wp2
                  go_roundw
                  case rel => exact ⟨K + 1, g2, by go_num, by omega, HFi.out, HMi.out, HIi.out.round⟩
                  case measure => simp [intOf]; omega
            · obtain rfl : n = K := by omega
              go_wp2
              go_ret
              exact ⟨_, gO, B, g1, rfl, HF.out.trans' HFk.out (fun j h1 h2 => by have h1 : w1.heap.size ≤ j := h1; omega), HMk.out.lower hcw, HI.out.done HeL.out⟩
end
#print axioms refAll_any
end Go.Proofs.YtfpggeiphbekoaaGreatDoor

namespace Go.Proofs.YtfpggeiphbekoaaGreatDoor
open Go.RowKit
set_option linter.unusedVariables false

theorem Mat.no {w w' : World} {lo n gO : Nat} {vo : Value} {B : Nat → Nat} {g : Nat → Nat → Bool} (h : Mat w lo n vo gO B g) (hf : Fx No w w') : Mat w' lo n vo gO B g := h.fx hf fun _ _ h => h
/-- the rows that hold themselves -/
def loopsG (g : Nat → Nat → Bool) (n : Nat) : List Int := ((List.range n).filter fun i => g i i).map fun i : Nat => (i : Int)
theorem loopsG_succ (g : Nat → Nat → Bool) (m : Nat) : loopsG g (m + 1) = loopsG g m ++ if g m m then [(m : Int)] else [] := by
  unfold loopsG
  rw [List.range_succ, List.filter_append, List.map_append]
  congr 1
  by_cases h : g m m = true <;> simp [h]
theorem loopsG_len (g : Nat → Nat → Bool) (m : Nat) : (loopsG g m).length ≤ m := by
  unfold loopsG
  rw [List.length_map]
  exact Nat.le_trans (List.length_filter_le _ _) (by simp)
section
variable {w w' : World} {D S : Nat → Prop} {L : List (Int × Int)} {v : Value}
set_option maxHeartbeats 1000000 in
theorem refLoops_any {lo n gO : Nat} {vo : Value} {B : Nat → Nat} {g : Nat → Nat → Bool} (h : Mat w lo n vo gO B g) (hn : n ≤ 1000) : Calls Tryz.prog 13 #[vo] w fun e w' => ∃ v, e = .returned v ∧ Fx No w w' ∧ OwnI w' w.heap.size v (loopsG g n) := by
  obtain ⟨ii, hi, hz, hs, hb⟩ := info_parts info_int'
  obtain ⟨ao, cap, rfl, hao, _⟩ := h.shape
  have HM := Lib.hid h
  have HAo := Lib.hid hao
  clear h hao
  go_enter Tryz.func13, Tryz.ntmps13
  go_wp2
  go_loopw [3, 4] (fun l i ws => ∃ m : Nat, i = .int .i64 m ∧ m ≤ n ∧ Fx No w ws ∧ OwnI ws w.heap.size l (loopsG g m)) (fun _ i _ => n - (intOf i).toNat)
  case atStart => exact ⟨0, rfl, Nat.zero_le _, Fx.refl _ _, World.ownsRow_nil _ _ _ _⟩
  case round =>
    obtain ⟨m, rfl, hm, hf, ho⟩ := hrel
    have HF := Lib.hid hf
    have HO := Lib.hid ho
    have hzr := hf.size
    have hll := loopsG_len g m
    clear hf ho
    by_cases hlt : m < n
    · obtain rfl := HAo.out (by omega)
      have hmn : (m : Int) < (n : Int) := by omega
      have r1 := (HM.out.no HF.out).row m hlt
      have s1 := ((HM.out.no HF.out).cel m m hlt hlt).1
      have HL := Lib.hid (loopsG_succ g m)
      obtain ⟨t, ht⟩ : ∃ t, t = g m m := ⟨_, rfl⟩
      rw [← ht] at s1 HL
      clear ht
      cases t
      · go_wp2
        go_roundw
        case rel => exact ⟨m + 1, by go_num, by omega, HF.out, by rw [HL.out]; simpa [OwnI] using HO.out⟩
        case measure => simp [intOf]; omega
      · go_wp2_with (at_builtin; refine wpList_append_sl rfl _ _ 24 rfl w.heap.size 3 Tryz.underlying24 hi hz hs hb rfl (by decide) rfl (World.ownsRow.alloc HO.out _) rfl (SlV.lit _ 3 #[.int .i64 _] 1 1 rfl (by unfold maxLen; omega)) (ints_one [_]) (by unfold maxLen; omega) (by omega) (by simp; omega) ?_)
        intro v' w3 ho hfx _
        have HO3 : Hid (OwnI w3 w.heap.size v' (loopsG g (m + 1))) := by
          show OwnI w3 w.heap.size v' (loopsG g (m + 1))
          rw [HL.out]
          unfold OwnI
          rw [List.length_append]
          simpa [ints] using ho
        have HF3 : Hid (Fx No w w3) := Lib.hid ((HF.out.alloc _).trans' hfx fun g e hl => by have := (World.ownsRow.lt HO.out g e).1; omega)
        clear ho hfx
        go_wp2
        go_roundw
        case rel => exact ⟨m + 1, by go_num, by omega, HF3.out, HO3.out⟩
        case measure => simp [intOf]; omega
    · obtain rfl : n = m := by omega
      go_wp2
      go_ret
      exact ⟨_, rfl, HF.out, HO.out⟩
open Classical in
/-- whether there is a way -/
noncomputable def wayB (e : Nat → Nat → Prop) (i j : Nat) : Bool := decide (Way e i j)
theorem wayB_iff {e : Nat → Nat → Prop} {i j : Nat} : wayB e i j = true ↔ Way e i j := by unfold wayB; simp
/-- the edges that are needed, as the reference has them -/
noncomputable def keepB (L : List (Int × Int)) (q : Int × Int) : Bool := !wayB (edgeP (withoutL L q)) q.1.toNat q.2.toNat
noncomputable def refLeastL (L : List (Int × Int)) (n : Nat) : List (Int × Int) := if 0 < (loopsG (wayB (edgeP L)) n).length then [] else L.filter (keepB L)
theorem loopsG_congr {g g' : Nat → Nat → Bool} {n : Nat} (h : ∀ i j, i < n → j < n → g i j = g' i j) : loopsG g n = loopsG g' n := by
  unfold loopsG
  congr 1
  exact List.filter_congr fun i hi => h i i (List.mem_range.1 hi) (List.mem_range.1 hi)
theorem wayB_eq {e : Nat → Nat → Prop} {g : Nat → Nat → Bool} {n : Nat} (h : ∀ i j, i < n → j < n → (g i j = true ↔ Way e i j)) : ∀ i j, i < n → j < n → g i j = wayB e i j := fun i j hi hj => by
  rw [Bool.eq_iff_iff, h i j hi hj, wayB_iff]
set_option maxRecDepth 100000 in
set_option maxHeartbeats 4000000 in
theorem refLeast_any (h : PairsV w D v L) {n : Nat} (hn : n ≤ 1000) (hL : ∀ q ∈ L, (0 ≤ q.1 ∧ q.1 < n) ∧ 0 ≤ q.2 ∧ q.2 < n) (hl : L.length ≤ 1000000) : Calls Tryz.prog 46 #[.agg #[.int .i64 (n : Int), v]] w fun e w' => ∃ v', e = .returned v' ∧ Fx No w w' ∧ OwnE w' w.heap.size v' (refLeastL L n) := by
  obtain ⟨ii, hi, hz, hs, hb⟩ := info_parts info_edge17
  have H := Lib.hid h
  have HL := Lib.hid hL
  obtain ⟨ao, cap, rfl, _, _, hc⟩ := h.facts
  have HC := Lib.hid hc
  clear h hc hL
  go_enter Tryz.func46, Tryz.ntmps46
  go_wp2_with fail
  refine (refAll_any (H.out.no ((Fx.refl No _).alloc _)) hn HL.out).mono ?_
  rintro e w1 ⟨vo, gO, B, g, rfl, hf, hm, hg⟩
  have c1 : w1.cell? ⟨w.heap.size, 0, none⟩ = some (.int .i64 (n : Int)) := hf.cell' (by go_simp) (fun h => h)
  have c2 : w1.cell? ⟨w.heap.size, 1, none⟩ = some (.slice ao L.length cap) := hf.cell' (by go_simp) (fun h => h)
  obtain ⟨cb, hcb⟩ : ∃ c, c = w.heap.size := ⟨_, rfl⟩
  rw [← hcb] at c1 c2 ⊢
  have HF1 := Lib.hid (((Fx.refl No w).alloc _).trans hf)
  have HM := Lib.hid hm
  have HG := Lib.hid (wayB_eq hg)
  have HC1 := Lib.hid c1
  have HC2 := Lib.hid c2
  have hz1 := hf.size
  simp only [World.size_alloc] at hz1
  clear hf hm hg c1 c2 hcb
  go_wp2_with fail
  refine (refLoops_any HM.out hn).mono ?_
  rintro e w2 ⟨v2, rfl, hf, ho⟩
  obtain ⟨lo2, lc2, rfl, _⟩ := ho.ints.facts
  have HF2 := Lib.hid (HF1.out.trans hf)
  have c1 := hf.cell' HC1.out (fun h => h)
  have c2 := hf.cell' HC2.out (fun h => h)
  have HC1 := Lib.hid c1
  have HC2 := Lib.hid c2
  have hz2 := hf.size
  have HLe : Hid (refLeastL L n = if 0 < (loopsG g n).length then [] else L.filter (keepB L)) := Lib.hid (by rw [loopsG_congr HG.out]; rfl)
  have hll := loopsG_len g n
  obtain ⟨ln, hln⟩ : ∃ l, l = (loopsG g n).length := ⟨_, rfl⟩
  rw [← hln] at HLe hll ⊢
  clear hf ho hln
  by_cases h0 : 0 < ln
  · have d0 : decide ((0 : Int) < (ln : Int)) = true := decide_eq_true (by omega)
    have d1 : decide (0 < ln) = true := decide_eq_true h0
    have HLe : Hid (refLeastL L n = []) := Lib.hid (by rw [HLe.out, if_pos h0])
    clear h0
    go_wp2
    go_ret
    exact ⟨_, rfl, HF2.out, by rw [HLe.out]; exact OwnT.nil _ _⟩
  · have d0 : decide ((0 : Int) < (ln : Int)) = false := decide_eq_false (by omega)
    have d1 : decide (0 < ln) = false := decide_eq_false h0
    have HLe : Hid (refLeastL L n = L.filter (keepB L)) := Lib.hid (by rw [HLe.out, if_neg h0])
    clear h0
    go_wp2
    obtain ⟨wo, hwo⟩ : ∃ wo, wo = w2 := ⟨_, rfl⟩
    subst hwo
    go_loopw [3, 4, 5] (fun l i _ ws => ∃ q : Nat, i = .int .i64 q ∧ q ≤ L.length ∧ Fx No wo ws ∧ OwnE ws wo.heap.size l ((L.take q).filter (keepB L))) (fun _ i _ _ => L.length - (intOf i).toNat)
    case atStart => exact ⟨0, rfl, Nat.zero_le _, Fx.refl _ _, OwnT.nil _ _⟩
    case round =>
      obtain ⟨q, rfl, hq, hf, ho⟩ := hrel
      have HFq := Lib.hid hf
      have HO := Lib.hid ho
      have hzq := hf.size
      clear c1 c2
      have c1 := hf.cell' HC1.out (fun h => h)
      have c2 := hf.cell' HC2.out (fun h => h)
      clear hf ho
      by_cases hql : q < L.length
      · obtain ⟨b, o, rfl, _, p1, p2⟩ := HC.out q hql
        have p1 := HFq.out.cell' (HF2.out.cell' p1 (fun h => h)) (fun h => h)
        have p2 := HFq.out.cell' (HF2.out.cell' p2 (fun h => h)) (fun h => h)
        obtain ⟨⟨x0, x1⟩, y0, y1⟩ := HL.out _ (gt_mem hql)
        obtain ⟨x, hx⟩ := Int.eq_ofNat_of_zero_le x0
        obtain ⟨y, hy⟩ := Int.eq_ofNat_of_zero_le y0
        rw [hx] at p1 x1
        rw [hy] at p2 y1
        have hgt : gt L q = ((x : Int), (y : Int)) := Prod.ext hx hy
        have HTk : Hid (L.take (q + 1) = L.take q ++ [((x : Int), (y : Int))]) := Lib.hid (by rw [take_gt hql, hgt])
        have hxn : x < n := by omega
        have hyn : y < n := by omega
        have hlen : ((L.take q).filter (keepB L)).length ≤ 1000000 := by
          refine Nat.le_trans (List.length_filter_le _ _) ?_
          rw [List.length_take]; omega
        obtain ⟨ys, hys⟩ : ∃ ys, ys = (L.take q).filter (keepB L) := ⟨_, rfl⟩
        rw [← hys] at hlen HO
        have HY := Lib.hid hys
        have hql2 : (q : Int) < (L.length : Int) := by omega
        have hxI : (x : Int) < (n : Int) := by omega
        have hyI : (y : Int) < (n : Int) := by omega
        have hx0 : (0 : Int) ≤ (x : Int) := by omega
        have hy0 : (0 : Int) ≤ (y : Int) := by omega
        clear hx hy x0 y0 hgt hys x1 y1
        go_wp2_with fail
        refine wp_hold (fun W => Fx No wr W ∧ W.cell? ⟨wr.heap.size, 0, none⟩ = some (.int .i64 (x : Int)) ∧ W.cell? ⟨wr.heap.size, 1, none⟩ = some (.int .i64 (y : Int))) ⟨(Fx.refl No wr).alloc _, by go_simp, by go_simp⟩ ?_
        rintro wx ⟨hfx, e0, e1⟩
        obtain ⟨eb, heb⟩ : ∃ e, e = wr.heap.size := ⟨_, rfl⟩
        rw [← heb] at e0 e1 ⊢
        have HFx := Lib.hid hfx
        have HOx := Lib.hid (HO.out.no hfx)
        have HFwx := Lib.hid ((HF2.out.trans HFq.out).trans hfx)
        have c1x := hfx.cell' c1 (fun h => h)
        have c2x := hfx.cell' c2 (fun h => h)
        clear heb hfx
        have g1 : ∀ W, Fx No wx W → W.cell? ⟨cb, 0, none⟩ = some (.int .i64 (n : Int)) := fun W h => h.cell' c1x (fun h => h)
        have g2 : ∀ W, Fx No wx W → W.cell? ⟨cb, 1, none⟩ = some (.slice (some ⟨b, o, none⟩) L.length cap) := fun W h => h.cell' c2x (fun h => h)
        have g3 : ∀ W, Fx No wx W → W.cell? ⟨eb, 0, none⟩ = some (.int .i64 (x : Int)) := fun W h => h.cell' e0 (fun h => h)
        have g4 : ∀ W, Fx No wx W → W.cell? ⟨eb, 1, none⟩ = some (.int .i64 (y : Int)) := fun W h => h.cell' e1 (fun h => h)
        have s0 : Fx No wx wx := Fx.refl _ _
        have HE0 := Lib.hid e0
        have HE1 := Lib.hid e1
        have CW : Hid (∀ W, Fx No wx W → Calls Tryz.prog 67 #[.agg #[.int .i64 (n : Int), .slice (some ⟨b, o, none⟩) L.length cap], .agg #[.int .i64 (x : Int), .int .i64 (y : Int)]] W fun e w' => ∃ (a' : Option Addr) (l' c' : Nat), e = .returned (.agg #[.int .i64 (n : Int), .slice a' l' c']) ∧ Fx No W w' ∧ Hid (PairsV w' (fun _ => True) (.slice a' l' c') (withoutL L ((x : Int), (y : Int))))) := Lib.hid fun W h => by
          refine (refWithout_any (H.out.no (HFwx.out.trans h)) (n : Int) (x : Int) (y : Int) hl).mono ?_
          rintro e w' ⟨v', rfl, h2, h3⟩
          obtain ⟨a', c', rfl, _⟩ := h3.facts
          exact ⟨a', _, c', rfl, h2, Lib.hid (h3.mono fun _ _ => trivial)⟩
        have CA : Hid (∀ W a' l' c', Hid (PairsV W (fun _ => True) (.slice a' l' c') (withoutL L ((x : Int), (y : Int)))) → Calls Tryz.prog 14 #[.agg #[.int .i64 (n : Int), .slice a' l' c']] W fun e w' => ∃ (gO gc : Nat) (Bx : Nat) (t : Bool), e = .returned (.slice (some ⟨gO, 0, none⟩) n gc) ∧ Fx No W w' ∧ w'.cell? ⟨gO, x, none⟩ = some (.slice (some ⟨Bx, 0, none⟩) n n) ∧ w'.cell? ⟨Bx, y, none⟩ = some (.bool t) ∧ Hid (t = wayB (edgeP (withoutL L ((x : Int), (y : Int)))) x y)) := Lib.hid fun W a' l' c' h => by
          refine (refAll_any h.out hn (fun z hz => HL.out z (List.mem_filter.1 hz).1)).mono ?_
          rintro e w' ⟨vo, gO, B, g, rfl, h2, h3, h4⟩
          obtain ⟨a2, gc, rfl, ha2, _⟩ := h3.shape
          obtain rfl := ha2 (by omega)
          exact ⟨gO, gc, B x, g x y, rfl, h2, h3.row x hxn, (h3.cel x y hxn hyn).1, Lib.hid (wayB_eq h4 x y hxn hyn)⟩
        clear e0 e1 c1 c2 p1 p2 c1x c2x
        go_wp2_with fail
        refine wp_region_H (fun W => Fx No wx W) (by kernel_rfl) s0.drew ?_
        intro hS
        refine wpAnyH_take (i := 0) (v := ?_) rfl (by kernel_rfl) (by kernel_rfl) (by kernel_rfl) (fun _ _ _ h => h) (Or.inl ⟨by rfl, ?_⟩) hS ?_
        rotate_left
        · (intro W hs; go_simp; first | done | with_reducible rfl)
        try simp only [Act.put, List.getElem_toArray, List.getElem_cons_zero, List.getElem_cons_succ, List.setIfInBounds_toArray, List.set_cons_zero, List.set_cons_succ]
        refine wpAnyH_take (i := 1) (v := ?_) rfl (by kernel_rfl) (by kernel_rfl) (by kernel_rfl) (fun _ _ _ h => h) (Or.inl ⟨by rfl, ?_⟩) hS ?_
        rotate_left
        · (intro W hs; go_simp; first | done | with_reducible rfl)
        try simp only [Act.put, List.getElem_toArray, List.getElem_cons_zero, List.getElem_cons_succ, List.setIfInBounds_toArray, List.set_cons_zero, List.set_cons_succ]
        refine wpAnyH_take (i := 4) (v := ?_) rfl (by kernel_rfl) (by kernel_rfl) (by kernel_rfl) (fun _ _ _ h => h) (Or.inl ⟨by rfl, ?_⟩) hS ?_
        rotate_left
        · (intro W hs; go_simp; first | done | with_reducible rfl)
        try simp only [Act.put, List.getElem_toArray, List.getElem_cons_zero, List.getElem_cons_succ, List.setIfInBounds_toArray, List.set_cons_zero, List.set_cons_succ]
        refine wpAnyH_take (i := 5) (v := ?_) rfl (by kernel_rfl) (by kernel_rfl) (by kernel_rfl) (fun _ _ _ h => h) (Or.inl ⟨by rfl, ?_⟩) hS ?_
        rotate_left
        · (intro W hs; go_simp; first | done | with_reducible rfl)
        try simp only [Act.put, List.getElem_toArray, List.getElem_cons_zero, List.getElem_cons_succ, List.setIfInBounds_toArray, List.set_cons_zero, List.set_cons_succ]
        refine wpAnyH_take (i := 8) (v := ?_) rfl (by kernel_rfl) (by kernel_rfl) (by kernel_rfl) (fun _ _ _ h => h) (Or.inl ⟨by rfl, ?_⟩) hS ?_
        rotate_left
        · (intro W hs; go_simp; first | done | with_reducible rfl)
        try simp only [Act.put, List.getElem_toArray, List.getElem_cons_zero, List.getElem_cons_succ, List.setIfInBounds_toArray, List.set_cons_zero, List.set_cons_succ]
        refine wpAnyH_take (i := 9) (v := ?_) rfl (by kernel_rfl) (by kernel_rfl) (by kernel_rfl) (fun _ _ _ h => h) (Or.inl ⟨by rfl, ?_⟩) hS ?_
        rotate_left
        · (intro W hs; go_simp; first | done | with_reducible rfl)
        try simp only [Act.put, List.getElem_toArray, List.getElem_cons_zero, List.getElem_cons_succ, List.setIfInBounds_toArray, List.set_cons_zero, List.set_cons_succ]
        refine wpH_one (i := 2) (by kernel_rfl) rfl (fun K hK => ?_)
        go_simp
        refine (CW.out _ hS).mono ?_
        rintro e w6 ⟨a', l', c', rfl, hfi, hpv⟩
        have HFi := Lib.hid (hS.trans hfi)
        clear hfi
        refine hK.out _ _ (HFi.out) (fun hS' => ?_)
        clear hK K hS
        have hS := hS'
        clear hS'
        try simp only [Act.put, List.getElem_toArray, List.getElem_cons_zero, List.getElem_cons_succ, List.setIfInBounds_toArray, List.set_cons_zero, List.set_cons_succ]
        refine wpH_one (i := 3) (by kernel_rfl) rfl (fun K hK => ?_)
        go_simp
        refine (CA.out _ _ _ _ hpv).mono ?_
        rintro e w7 ⟨gO', gc', Bx', t, rfl, hfj, hr1, hr2, ht⟩
        have HFj := Lib.hid (hS.trans hfj)
        clear hfj
        refine hK.out _ _ (HFj.out) (fun hS' => ?_)
        clear hK K hS
        have hS := hS'
        clear hS'
        try simp only [Act.put, List.getElem_toArray, List.getElem_cons_zero, List.getElem_cons_succ, List.setIfInBounds_toArray, List.set_cons_zero, List.set_cons_succ]
        refine wpH_one (i := 6) (by kernel_rfl) rfl (fun K hK => ?_)
        go_simp
        refine hK.out _ _ (hS) (fun hS' => ?_)
        clear hK K hS
        have hS := hS'
        clear hS'
        try simp only [Act.put, List.getElem_toArray, List.getElem_cons_zero, List.getElem_cons_succ, List.setIfInBounds_toArray, List.set_cons_zero, List.set_cons_succ]
        refine wpH_one (i := 7) (by kernel_rfl) rfl (fun K hK => ?_)
        go_simp
        refine hK.out _ _ (hS) (fun hS' => ?_)
        clear hK K hS
        have hS := hS'
        clear hS'
        try simp only [Act.put, List.getElem_toArray, List.getElem_cons_zero, List.getElem_cons_succ, List.setIfInBounds_toArray, List.set_cons_zero, List.set_cons_succ]
        refine wpH_one (i := 10) (by kernel_rfl) rfl (fun K hK => ?_)
        go_simp
        refine hK.out _ _ (hS) (fun hS' => ?_)
        clear hK K hS
        have hS := hS'
        clear hS'
        try simp only [Act.put, List.getElem_toArray, List.getElem_cons_zero, List.getElem_cons_succ, List.setIfInBounds_toArray, List.set_cons_zero, List.set_cons_succ]
        refine wpH_one (i := 11) (by kernel_rfl) rfl (fun K hK => ?_)
        go_simp
        refine hK.out _ _ (hS) (fun hS' => ?_)
        clear hK K hS
        have hS := hS'
        clear hS'
        try simp only [Act.put, List.getElem_toArray, List.getElem_cons_zero, List.getElem_cons_succ, List.setIfInBounds_toArray, List.set_cons_zero, List.set_cons_succ]
        refine wpH_one (i := 12) (by kernel_rfl) rfl (fun K hK => ?_)
        go_simp
        refine hK.out _ _ (hS) (fun hS' => ?_)
        clear hK K hS
        have hS := hS'
        clear hS'
        try simp only [Act.put, List.getElem_toArray, List.getElem_cons_zero, List.getElem_cons_succ, List.setIfInBounds_toArray, List.set_cons_zero, List.set_cons_succ]
        refine wpAnyH_done (by kernel_rfl) ?_ _
        have HFy := Lib.hid hS
        have HOy := Lib.hid (HOx.out.no hS)
        have e0 := hS.cell' HE0.out (fun h => h)
        have e1 := hS.cell' HE1.out (fun h => h)
        have hzy := hS.size
        have HTt : Hid (keepB L ((x : Int), (y : Int)) = !t) := Lib.hid (by rw [ht.out]; rfl)
        have HFz := Lib.hid (HFx.out.trans hS)
        have hzx := HFx.out.size
        clear hS g1 g2 g3 g4 s0 hr1 hr2 ht hpv CW CA
        cases t
        · have HK : Hid ((L.take (q + 1)).filter (keepB L) = ys ++ [((x : Int), (y : Int))]) := Lib.hid (by rw [HTk.out, List.filter_append, ← HY.out]; simp [HTt.out])
          go_wp2_with (at_builtin; refine wpList_append_sl rfl _ _ 37 rfl wo.heap.size 44 Tryz.underlying37 hi hz hs hb rfl (by decide) rfl (World.ownsRow.alloc HOy.out _) rfl (SlV.lit _ 44 #[.int .i64 _, .int .i64 _] 2 1 rfl (by unfold maxLen; omega)) (ints_one [_, _]) (by unfold maxLen; omega) (by omega) (by simp; omega) ?_)
          intro v' w8 ho hfx _
          have HO8 : Hid (OwnE w8 wo.heap.size v' ((L.take (q + 1)).filter (keepB L))) := Lib.hid (by rw [HK.out]; exact OwnT.snoc ho)
          have HF8 : Hid (Fx No wo w8) := Lib.hid ((((HFq.out.trans HFz.out)).alloc _).trans' hfx fun g e hl => by have := (World.ownsRow.lt HOy.out g e).1; omega)
          clear ho hfx
          go_wp2
          go_roundw
          case rel => exact ⟨q + 1, by go_num, by omega, HF8.out, HO8.out⟩
          case measure => simp [intOf]; omega
        · have HK : Hid ((L.take (q + 1)).filter (keepB L) = ys) := Lib.hid (by rw [HTk.out, List.filter_append, ← HY.out]; simp [HTt.out])
          go_wp2
          go_roundw
          case rel => exact ⟨q + 1, by go_num, by omega, HFq.out.trans HFz.out, by rw [HK.out]; exact HOy.out⟩
          case measure => simp [intOf]; omega
      · have hqe : L.take q = L := by rw [show q = L.length by omega, List.take_length]
        have HO2 : Hid (OwnE wr wo.heap.size u3 (refLeastL L n)) := Lib.hid (by rw [HLe.out, ← hqe]; rw [hqe]; have := HO.out; rw [hqe] at this; exact this)
        have hzz : w.heap.size ≤ wo.heap.size := by omega
        have hd2 : decide ((q : Int) < (L.length : Int)) = false := decide_eq_false (by omega)
        have hd3 : decide (q < L.length) = false := decide_eq_false hql
        clear hqe hql
        go_wp2
        go_ret
        exact ⟨_, rfl, HF2.out.trans HFq.out, HO2.out.base hzz⟩
end
#print axioms refLeast_any
end Go.Proofs.YtfpggeiphbekoaaGreatDoor
