/- A graph that is drawn, and the reference's. | A range over a function, where the iterator may write into boxes of its own and the body into blocks of its own: what each may turn is told by sets of blocks. No program in sight. | A range over a function, where taking the round's value makes a box. For every seat. No program in sight. | The graph turned about: Back; the keys of the map of edges, one by one. | The graph turned about: Back. -/
import Derived.Test.YtgacknphjeiojaaGreatM6
import Derived.Test.YtgacknphjeiojaaGreatM5
import Derived.Test.YtgacknphjeiojaaGreatM1
import Derived.RangeFuncNested
import Derived.RangeFuncBound
import Derived.RangeFuncCalls
import Derived.RangeFuncLeaves
import Derived.Shelf.Abstract
import Derived.Shelf.RegionOpen
import Derived.OwnWalkIn
import Derived.TacticsInMore
import Derived.LoopNIn
import Derived.LoopIn
import Derived.Sort.MapsRangeIn

namespace Go.Proofs.YtgacknphjeiojaaGreat
open Go.RowKit
set_option linter.unusedVariables false

theorem put_three (W : World) {qb : Nat} {a b c : Value} (x y z : Value) (q0 : W.cell? ⟨qb, 0, none⟩ = some a) (q1 : W.cell? ⟨qb, 1, none⟩ = some b) (q2 : W.cell? ⟨qb, 2, none⟩ = some c) :
    (((W.setCell ⟨qb, 0, none⟩ x).setCell ⟨qb, 1, none⟩ y).setCell ⟨qb, 2, none⟩ z).cell? ⟨qb, 0, none⟩ = some x ∧ (((W.setCell ⟨qb, 0, none⟩ x).setCell ⟨qb, 1, none⟩ y).setCell ⟨qb, 2, none⟩ z).cell? ⟨qb, 1, none⟩ = some y ∧
    (((W.setCell ⟨qb, 0, none⟩ x).setCell ⟨qb, 1, none⟩ y).setCell ⟨qb, 2, none⟩ z).cell? ⟨qb, 2, none⟩ = some z := by
  have ne : ∀ i j : Nat, i ≠ j → (⟨qb, i, none⟩ : Addr) ≠ ⟨qb, j, none⟩ := fun i j h e => by injection e; omega
  obtain ⟨g1, g2, _, _⟩ := put_two W x y q0 q1
  refine ⟨?_, ?_, ?_⟩
  · rw [World.cell?_setCell_other _ _ _ _ (ne 2 0 (by omega))]; exact g1
  · rw [World.cell?_setCell_other _ _ _ _ (ne 2 1 (by omega))]; exact g2
  · refine World.cell?_setCell_same _ _ _ (?_ : _ = some c)
    rw [World.cell?_setCell_other _ _ _ _ (ne 1 2 (by omega)), World.cell?_setCell_other _ _ _ _ (ne 0 2 (by omega))]; exact q2
theorem Fx.setCells3 {S : Nat → Prop} {w w1 : World} {b : Nat} (h : Fx S w w1) (x y z : Value) (hb : w.heap.size ≤ b) : Fx S w (((w1.setCell ⟨b, 0, none⟩ x).setCell ⟨b, 1, none⟩ y).setCell ⟨b, 2, none⟩ z) :=
  ((h.setCell (.inl hb) _).setCell (.inl hb) _).setCell (.inl hb) _
/-- a graph and its reference -/
structure Drw (w ws : World) (b N : Nat) (L : List Ed) (rv : Value) (D R : Nat → Prop) : Prop where
  fx : Fx No w ws
  g : GraphV ws D b N L
  row : EdsV ws R rv L
  lo : ∀ j, D j → w.heap.size ≤ j
  rlo : ∀ j, R j → w.heap.size ≤ j
  ap : ∀ j, R j → ¬ D j
  rlt : ∀ j, R j → j < ws.heap.size
theorem PG.step2 {w0 ws wx wy wz : World} {b rb N : Nat} {L L' : List Ed} {rv rv' : Value} {D E E' : Nat → Prop} (h : PG w0 ws b rb N L rv D E) (hx : Fx No ws wx) (hy : Fx D wx wy) (hg : GraphV wy (DU D wx wy) b N L')
    (hz : Fx No wy wz) (hr : EdsV wz E' rv' L') (hE : ∀ k, E' k → (E k ∨ wy.heap.size ≤ k) ∧ k < wz.heap.size) :
    PG w0 ((wz.setCell ⟨rb, 0, none⟩ (.int .i64 (N : Nat))).setCell ⟨rb, 1, none⟩ rv') b rb N L' rv' (DU D wx wy) E' := by
  have h1 := h.no hx
  have r0 := hz.cellF (hy.cellF h1.r0.1 h1.r0.2 h1.rD.1).1 (hy.cellF h1.r0.1 h1.r0.2 h1.rD.1).2 (fun h => h)
  have r1 := hz.cellF (hy.cellF h1.r1.1 h1.r1.2 h1.rD.1).1 (hy.cellF h1.r1.1 h1.r1.2 h1.rD.1).2 (fun h => h)
  obtain ⟨g1, g2, g3, g4⟩ := put_two wz (qb := rb) (.int .i64 (N : Nat)) rv' r0.1 r1.1
  have hsx := h1.fx.size
  have hsy := hy.size
  have hsz := hz.size
  have hrl : rb < wx.heap.size := World.block_lt_of_cell? wx _ h1.r0.1
  have nr : ∀ j, DU D wx wy j → ¬ j = rb := fun j hj e => by
    rcases hj with hj | hj
    · exact h1.rD.1 (e ▸ hj)
    · have := hj.1; omega
  have ap : ∀ j, E' j → ¬ DU D wx wy j ∧ j ≠ rb := fun j hj => by
    rcases (hE j hj).1 with h2 | h2
    · have h3 := h1.ap j h2
      have h4 := h1.eb j h2
      refine ⟨?_, h3.2⟩
      rintro (h5 | h5)
      · exact h3.1 h5
      · have := h5.1; omega
    · refine ⟨?_, by omega⟩
      rintro (h5 | h5)
      · have := h1.g.lt j h5; omega
      · have := h5.2; omega
  refine ⟨?_, (hg.no hz).keep g3 nr, ?_, ⟨g1, by simpa using r0.2⟩, ⟨g2, by simpa using r1.2⟩, hr.keep g3 fun j hj => (ap j hj).2, ap, fun j hj => by rw [g4]; exact (hE j hj).2, ⟨?_, h1.rD.2⟩⟩
  · refine Fx.trans' (Fx.trans' h1.fx (hy.trans (hz.no)) fun j h2 h3 => ?_) g3 fun j h2 h3 => ?_
    · have := h1.lo j h2; omega
    · have h2 : j = rb := h2
      have := h1.rD.2; omega
  · rintro j (h2 | h2)
    · exact h1.lo j h2
    · have := h2.1; omega
  · exact fun h2 => nr rb h2 rfl
structure D9I (w2 : World) (R : Nat → Prop) (ro : Option Addr) (rc N : Nat) (Lg L2 : List Ed) (ed : Ed) (cnt : Nat) (code : Int) (Fin : World → Prop) (L : Nat → Bool) (x : Nat → Value) (w : World) : Prop where
  base : True
  fS : L 9 = false → (Fx No w2 w)
  f0 : L 0 = true → (x 0 = .agg #[.int .i64 (N : Nat), .slice ro Lg.length rc])
  f1 : L 1 = true → (x 1 = .agg #[.int .i64 ed.f, .int .i64 ed.t, .int .i64 ed.l])
  f2 : L 2 = true → L 3 = false → (∃ q : Nat, x 2 = .slice (some ⟨q, 0, none⟩) 1 1 ∧ EdsV w (fun _ => True) (.slice (some ⟨q, 0, none⟩) 1 1) [ed])
  f3 : L 3 = true → L 4 = false → (∃ E : Nat → Prop, EdsV w E (x 3) [ed])
  f4 : L 4 = true → L 9 = false → (∃ so sc, x 4 = .tuple #[.agg #[.int .i64 (N : Nat), .slice so L2.length sc], .int .i64 (cnt : Nat), .int .i64 code] ∧ EdsV w (fun k => (R k ∨ w2.heap.size ≤ k) ∧ k < w.heap.size) (.slice so L2.length sc) L2)
  f4e : L 4 = true → (∃ so sc, x 4 = .tuple #[.agg #[.int .i64 (N : Nat), .slice so L2.length sc], .int .i64 (cnt : Nat), .int .i64 code])
  f5 : L 5 = true → (x 5 = x 4)
  f6 : L 6 = true → (∃ so sc, x 4 = .tuple #[.agg #[.int .i64 (N : Nat), .slice so L2.length sc], .int .i64 (cnt : Nat), .int .i64 code] ∧ x 6 = .agg #[.int .i64 (N : Nat), .slice so L2.length sc])
  f9 : L 9 = true → (Fin w)
theorem pq_hold {Q : Exit → Act → World → Prop} {e : Exit} {a : Act} {W : World} (R : World → Prop) (hR : R W) (h : ∀ W', R W' → Q e a W') : Q e a W := h W hR
section
variable {w w' : World} {E : Nat → Prop} {l : List Ed} {v : Value}
set_option maxRecDepth 100000 in
set_option maxHeartbeats 4000000 in
theorem drawn_any (h : EdsV w E v l) (hok : ∀ x ∈ l, x.ok) (hl : l.length ≤ 1000) (n : Int) (most : Nat) (hmost : most ≤ 1000) : Calls Tryz.prog 9 #[.int .i64 n, .int .i64 (most : Nat), v] w fun e w' =>
    ∃ (b N : Nat) (L : List Ed) (rv : Value) (D R : Nat → Prop), e = .returned (.tuple #[.pointer (some ⟨b, 0, none⟩), .agg #[.int .i64 (N : Nat), rv]]) ∧ Drw w w' b N L rv D R ∧ N ≤ most ∧ L.length ≤ l.length := by
  obtain ⟨ao, cap, rfl, hcl, hcm, hc⟩ := EdsV.facts h
  have HC := Lib.hid hc
  have HOK := Lib.hid hok
  obtain ⟨r, hr⟩ : ∃ r, n.tmod ((most : Int) + 1) = r := ⟨_, rfl⟩
  have l1 : r < (most : Int) + 1 := by rw [← hr]; exact Int.tmod_lt_of_pos n (by omega)
  have l2 : -((most : Int) + 1) < r := by rw [← hr]; exact Int.lt_tmod_of_pos n (by omega)
  obtain ⟨N, hN, hNm⟩ : ∃ N : Nat, (r + (most : Int) + 1).tmod ((most : Int) + 1) = (N : Int) ∧ N ≤ most := by
    have h1 : (r + (most : Int) + 1).tmod ((most : Int) + 1) < (most : Int) + 1 := Int.tmod_lt_of_pos _ (by omega)
    have h2 : 0 ≤ (r + (most : Int) + 1).tmod ((most : Int) + 1) := Int.tmod_nonneg _ (by omega)
    exact ⟨((r + (most : Int) + 1).tmod ((most : Int) + 1)).toNat, by omega, by omega⟩
  have hm0 : (most : Int) + 1 ≠ 0 := by omega
  clear h hc hok
  go_enter Tryz.func9, Tryz.ntmps9
  go_wp2_with fail
  refine calls_hold (fun W => Fx No w W ∧ W.heap.size = w.heap.size + 1 ∧ (W.cell? ⟨w.heap.size, 0, none⟩ = some (.int .i64 0) ∧ W.frozen? ⟨w.heap.size, 0, none⟩ = false) ∧ (W.cell? ⟨w.heap.size, 1, none⟩ = some (.slice none 0 0) ∧ W.frozen? ⟨w.heap.size, 1, none⟩ = false))
    ⟨(Fx.refl No _).alloc (.cells #[.int .i64 0, .slice none 0 0] 34), by simp, ⟨by go_simp, by go_simp⟩, ⟨by go_simp, by go_simp⟩⟩ ?_
  rintro wq ⟨hfq, hzq, q0, q1⟩
  refine (gNew_any N _ (by omega)).mono ?_
  rintro e w1 ⟨b, rfl, hf, hg⟩
  obtain ⟨qb, hqb⟩ : ∃ q, q = w.heap.size := ⟨_, rfl⟩
  rw [← hqb] at q0 q1 ⊢
  have HFq := Lib.hid hfq
  have HQ0 := Lib.hid q0
  have HQ1 := Lib.hid q1
  have HQb : Hid (qb = w.heap.size) := Lib.hid hqb
  have HZq : Hid (wq.heap.size = w.heap.size + 1) := Lib.hid hzq
  have HF1 := Lib.hid hf
  have HG1 := Lib.hid hg
  clear hfq q0 q1 hqb hzq hf hg hr hN l1 l2 hm0
  go_wp2_with fail
  refine wp_hold (fun W => PG wq W b w1.heap.size N [] (.slice none 0 0) (Iv wq.heap.size w1.heap.size) No) ?_ ?_
  · have z1 := HF1.out.size
    refine ⟨HF1.out.alloc _, HG1.out.no ((Fx.refl No _).alloc _), fun j hj => hj.1, ⟨by simp, by simp⟩, ⟨by simp, by simp⟩, RowV.nil _ _, fun j hj => hj.elim, fun j hj => hj.elim, ⟨fun hj => ?_, by omega⟩⟩
    have := hj.2
    omega
  rintro W0 hP
  obtain ⟨rb, hrb⟩ : ∃ r, r = w1.heap.size := ⟨_, rfl⟩
  rw [← hrb] at hP ⊢
  have HP0 := Lib.hid hP
  clear hP hrb
  go_loopw [11, 12] (fun i _ ws => ∃ (k : Nat) (L : List Ed) (rv : Value) (D R : Nat → Prop), i = .int .i64 k ∧ k ≤ l.length ∧ L.length ≤ k ∧ PG wq ws b rb N L rv D R ∧ ∀ j, R j → wq.heap.size ≤ j) (fun i _ _ => l.length - (intOf i).toNat)
  case atStart => exact ⟨0, [], _, _, _, rfl, Nat.zero_le _, Nat.le_refl _, HP0.out, fun j hj => hj.elim⟩
  case round =>
    obtain ⟨k, L, rv, D, R, rfl, hk, hL, hP, hRl⟩ := hrel
    have HRl := Lib.hid hRl
    have HP := Lib.hid hP
    obtain ⟨ro, rc, rfl, _⟩ := EdsV.facts hP.row
    have hsm : L.length ≤ 1000 := by omega
    clear hP hRl
    by_cases hlt : k < l.length ∧ 0 < N
    · obtain ⟨hlt, hNp⟩ := hlt
      have hk1 : (k : Int) < (l.length : Int) := by omega
      have hk0 : (0 : Int) ≤ (k : Int) := by omega
      have hNp' : (0 : Int) < (N : Int) := by omega
      have hN0 : (N : Int) ≠ 0 := by omega
      have hN1 : ¬ N = 0 := by omega
      obtain ⟨b2, o2, rfl, _, p1, p2, p3⟩ := HC.out k hlt
      have hgo : (gt l k).ok := HOK.out _ (gt_mem hlt)
      obtain ⟨x, hx⟩ : ∃ x, x = gt l k := ⟨_, rfl⟩
      rw [← hx] at p1 p2 p3 hgo
      obtain ⟨xf, xt, xl⟩ := x
      simp only at p1 p2 p3
      have HXl : Hid (Ok64 xl) := Lib.hid hgo.l
      have arith : ∀ z : Int, ∃ (r : Int) (c : Nat), z.tmod (N : Int) = r ∧ IntKind.i64.wrap (r + (N : Int)) = r + (N : Int) ∧ (r + (N : Int)).tmod (N : Int) = (c : Int) ∧ Ok64 (c : Int) := fun z => by
        have l1 : z.tmod (N : Int) < (N : Int) := Int.tmod_lt_of_pos z hNp'
        have l2 : -(N : Int) < z.tmod (N : Int) := Int.lt_tmod_of_pos z hNp'
        have h1 : (z.tmod (N : Int) + (N : Int)).tmod (N : Int) < (N : Int) := Int.tmod_lt_of_pos _ hNp'
        have h2 : 0 ≤ (z.tmod (N : Int) + (N : Int)).tmod (N : Int) := Int.tmod_nonneg _ (by omega)
        refine ⟨_, ((z.tmod (N : Int) + (N : Int)).tmod (N : Int)).toNat, rfl, ?_, by omega, by unfold Ok64; omega⟩
        rw [IntKind.wrap_i64]
        omega
      obtain ⟨r1, c1, a1, a2, a3, ok1⟩ := arith xf
      obtain ⟨r2, c2, b1', b2', b3', ok2⟩ := arith xt
      have HOkx : Hid ((⟨c1, c2, xl⟩ : Ed).ok) := Lib.hid ⟨ok1, ok2, HXl.out⟩
      have g1 : ∀ W, Fx No wr W → W.cell? ⟨b2, o2 + k * 3, none⟩ = some (.int .i64 xf) := fun W h => ((HFq.out.trans HP.out.fx).trans h).cell' p1 (fun h => h)
      have g2 : ∀ W, Fx No wr W → W.cell? ⟨b2, o2 + k * 3 + 1, none⟩ = some (.int .i64 xt) := fun W h => ((HFq.out.trans HP.out.fx).trans h).cell' p2 (fun h => h)
      have g3 : ∀ W, Fx No wr W → W.cell? ⟨b2, o2 + k * 3 + 2, none⟩ = some (.int .i64 xl) := fun W h => ((HFq.out.trans HP.out.fx).trans h).cell' p3 (fun h => h)
      clear p1 p2 p3 hgo hx arith ok1 ok2
      go_wp2_with fail
      refine wp_region_H (fun W => Fx No wr W) (by kernel_rfl) ((Fx.refl _ _).drew) ?_
      intro hS
      refine wpAnyH_hold (fun W' => Fx No wr W') hS ?_
      clear hS
      rintro y0 hS
      have hS0 := hS
      refine wpAnyH_take (i := 0) (v := ?_) rfl (by kernel_rfl) (by kernel_rfl) (by kernel_rfl) (fun _ _ _ h => h) (Or.inl ⟨by rfl, ?_⟩) hS ?_
      rotate_left
      · (intro W hs; go_simp; first | done | with_reducible rfl)
      try simp only [Act.put, List.getElem_toArray, List.getElem_cons_zero, List.setIfInBounds_toArray, List.set_cons_zero, List.set_cons_succ]
      refine wpAnyH_take (i := 1) (v := ?_) rfl (by kernel_rfl) (by kernel_rfl) (by kernel_rfl) (fun _ _ _ h => h) (Or.inl ⟨by rfl, ?_⟩) hS ?_
      rotate_left
      · (intro W hs; go_simp; first | done | with_reducible rfl)
      try simp only [Act.put, List.getElem_toArray, List.getElem_cons_zero, List.getElem_cons_succ, List.setIfInBounds_toArray, List.set_cons_zero, List.set_cons_succ]
      refine wpAnyH_take (i := 5) (v := ?_) rfl (by kernel_rfl) (by kernel_rfl) (by kernel_rfl) (fun _ _ _ h => h) (Or.inl ⟨by rfl, ?_⟩) hS ?_
      rotate_left
      · (intro W hs; go_simp; first | done | with_reducible rfl)
      try simp only [Act.put, List.getElem_toArray, List.getElem_cons_zero, List.getElem_cons_succ, List.setIfInBounds_toArray, List.set_cons_zero, List.set_cons_succ]
      refine wpAnyH_take (i := 7) (v := ?_) rfl (by kernel_rfl) (by kernel_rfl) (by kernel_rfl) (fun _ _ _ h => h) (Or.inl ⟨by rfl, ?_⟩) hS ?_
      rotate_left
      · (intro W hs; go_simp; first | done | with_reducible rfl)
      try simp only [Act.put, List.getElem_toArray, List.getElem_cons_zero, List.getElem_cons_succ, List.setIfInBounds_toArray, List.set_cons_zero, List.set_cons_succ]
      refine wpAnyH_take (i := 9) (v := ?_) rfl (by kernel_rfl) (by kernel_rfl) (by kernel_rfl) (fun _ _ _ h => h) (Or.inl ⟨by rfl, ?_⟩) hS ?_
      rotate_left
      · (intro W hs; go_simp; first | done | with_reducible rfl)
      try simp only [Act.put, List.getElem_toArray, List.getElem_cons_zero, List.getElem_cons_succ, List.setIfInBounds_toArray, List.set_cons_zero, List.set_cons_succ]
      refine wpAnyH_take (i := 11) (v := ?_) rfl (by kernel_rfl) (by kernel_rfl) (by kernel_rfl) (fun _ _ _ h => h) (Or.inl ⟨by rfl, ?_⟩) hS ?_
      rotate_left
      · (intro W hs; go_simp; first | done | with_reducible rfl)
      try simp only [Act.put, List.getElem_toArray, List.getElem_cons_zero, List.getElem_cons_succ, List.setIfInBounds_toArray, List.set_cons_zero, List.set_cons_succ]
      refine wpAnyH_take (i := 12) (v := ?_) rfl (by kernel_rfl) (by kernel_rfl) (by kernel_rfl) (fun _ _ _ h => h) (Or.inl ⟨by rfl, ?_⟩) hS ?_
      rotate_left
      · (intro W hs; go_simp; first | done | with_reducible rfl)
      try simp only [Act.put, List.getElem_toArray, List.getElem_cons_zero, List.getElem_cons_succ, List.setIfInBounds_toArray, List.set_cons_zero, List.set_cons_succ]
      refine wpAnyH_take (i := 16) (v := ?_) rfl (by kernel_rfl) (by kernel_rfl) (by kernel_rfl) (fun _ _ _ h => h) (Or.inl ⟨by rfl, ?_⟩) hS ?_
      rotate_left
      · (intro W hs; go_simp; first | done | with_reducible rfl)
      try simp only [Act.put, List.getElem_toArray, List.getElem_cons_zero, List.getElem_cons_succ, List.setIfInBounds_toArray, List.set_cons_zero, List.set_cons_succ]
      refine wpAnyH_take (i := 18) (v := ?_) rfl (by kernel_rfl) (by kernel_rfl) (by kernel_rfl) (fun _ _ _ h => h) (Or.inl ⟨by rfl, ?_⟩) hS ?_
      rotate_left
      · (intro W hs; go_simp; first | done | with_reducible rfl)
      try simp only [Act.put, List.getElem_toArray, List.getElem_cons_zero, List.getElem_cons_succ, List.setIfInBounds_toArray, List.set_cons_zero, List.set_cons_succ]
      refine wpAnyH_take (i := 20) (v := ?_) rfl (by kernel_rfl) (by kernel_rfl) (by kernel_rfl) (fun _ _ _ h => h) (Or.inl ⟨by rfl, ?_⟩) hS ?_
      rotate_left
      · (intro W hs; go_simp; first | done | with_reducible rfl)
      try simp only [Act.put, List.getElem_toArray, List.getElem_cons_zero, List.getElem_cons_succ, List.setIfInBounds_toArray, List.set_cons_zero, List.set_cons_succ]
      refine wpAnyH_take (i := 22) (v := ?_) rfl (by kernel_rfl) (by kernel_rfl) (by kernel_rfl) (fun _ _ _ h => h) (Or.inl ⟨by rfl, ?_⟩) hS ?_
      rotate_left
      · (intro W hs; go_simp; first | done | with_reducible rfl)
      try simp only [Act.put, List.getElem_toArray, List.getElem_cons_zero, List.getElem_cons_succ, List.setIfInBounds_toArray, List.set_cons_zero, List.set_cons_succ]
      refine wpAnyH_take (i := 23) (v := ?_) rfl (by kernel_rfl) (by kernel_rfl) (by kernel_rfl) (fun _ _ _ h => h) (Or.inl ⟨by rfl, ?_⟩) hS ?_
      rotate_left
      · (intro W hs; go_simp; first | done | with_reducible rfl)
      try simp only [Act.put, List.getElem_toArray, List.getElem_cons_zero, List.getElem_cons_succ, List.setIfInBounds_toArray, List.set_cons_zero, List.set_cons_succ]
      refine wpAnyH_take (i := 2) (v := ?_) rfl (by kernel_rfl) (by kernel_rfl) (by kernel_rfl) (fun _ _ _ h => h) (Or.inl ⟨by rfl, ?_⟩) hS ?_
      rotate_left
      · (intro W hs; go_simp; first | done | with_reducible rfl)
      try simp only [Act.put, List.getElem_toArray, List.getElem_cons_zero, List.getElem_cons_succ, List.setIfInBounds_toArray, List.set_cons_zero, List.set_cons_succ]
      refine wpAnyH_take (i := 13) (v := ?_) rfl (by kernel_rfl) (by kernel_rfl) (by kernel_rfl) (fun _ _ _ h => h) (Or.inl ⟨by rfl, ?_⟩) hS ?_
      rotate_left
      · (intro W hs; go_simp; first | done | with_reducible rfl)
      try simp only [Act.put, List.getElem_toArray, List.getElem_cons_zero, List.getElem_cons_succ, List.setIfInBounds_toArray, List.set_cons_zero, List.set_cons_succ]
      refine wpAnyH_take (i := 24) (v := ?_) rfl (by kernel_rfl) (by kernel_rfl) (by kernel_rfl) (fun _ _ _ h => h) (Or.inl ⟨by rfl, ?_⟩) hS ?_
      rotate_left
      · (intro W hs; go_simp; first | done | with_reducible rfl)
      try simp only [Act.put, List.getElem_toArray, List.getElem_cons_zero, List.getElem_cons_succ, List.setIfInBounds_toArray, List.set_cons_zero, List.set_cons_succ]
      refine wpAnyH_take (i := 3) (v := ?_) rfl (by kernel_rfl) (by kernel_rfl) (by kernel_rfl) (fun _ _ _ h => h) (Or.inl ⟨by rfl, ?_⟩) hS ?_
      rotate_left
      · (intro W hs; go_simp; first | done | with_reducible rfl)
      try simp only [Act.put, List.getElem_toArray, List.getElem_cons_zero, List.getElem_cons_succ, List.setIfInBounds_toArray, List.set_cons_zero, List.set_cons_succ]
      refine wpAnyH_take (i := 14) (v := ?_) rfl (by kernel_rfl) (by kernel_rfl) (by kernel_rfl) (fun _ _ _ h => h) (Or.inl ⟨by rfl, ?_⟩) hS ?_
      rotate_left
      · (intro W hs; go_simp; first | done | with_reducible rfl)
      try simp only [Act.put, List.getElem_toArray, List.getElem_cons_zero, List.getElem_cons_succ, List.setIfInBounds_toArray, List.set_cons_zero, List.set_cons_succ]
      refine wpAnyH_take (i := 25) (v := ?_) rfl (by kernel_rfl) (by kernel_rfl) (by kernel_rfl) (fun _ _ _ h => h) (Or.inl ⟨by rfl, ?_⟩) hS ?_
      rotate_left
      · (intro W hs; go_simp; first | done | with_reducible rfl)
      try simp only [Act.put, List.getElem_toArray, List.getElem_cons_zero, List.getElem_cons_succ, List.setIfInBounds_toArray, List.set_cons_zero, List.set_cons_succ]
      refine wpAnyH_take (i := 4) (v := ?_) rfl (by kernel_rfl) (by kernel_rfl) (by kernel_rfl) (fun _ _ _ h => h) (Or.inl ⟨by rfl, ?_⟩) hS ?_
      rotate_left
      · (intro W hs; go_simp; first | done | with_reducible rfl)
      try simp only [Act.put, List.getElem_toArray, List.getElem_cons_zero, List.getElem_cons_succ, List.setIfInBounds_toArray, List.set_cons_zero, List.set_cons_succ]
      refine wpAnyH_take (i := 15) (v := ?_) rfl (by kernel_rfl) (by kernel_rfl) (by kernel_rfl) (fun _ _ _ h => h) (Or.inl ⟨by rfl, ?_⟩) hS ?_
      rotate_left
      · (intro W hs; go_simp; first | done | with_reducible rfl)
      try simp only [Act.put, List.getElem_toArray, List.getElem_cons_zero, List.getElem_cons_succ, List.setIfInBounds_toArray, List.set_cons_zero, List.set_cons_succ]
      refine wpAnyH_take (i := 26) (v := ?_) rfl (by kernel_rfl) (by kernel_rfl) (by kernel_rfl) (fun _ _ _ h => h) (Or.inl ⟨by rfl, ?_⟩) hS ?_
      rotate_left
      · (intro W hs; go_simp; first | done | with_reducible rfl)
      try simp only [Act.put, List.getElem_toArray, List.getElem_cons_zero, List.getElem_cons_succ, List.setIfInBounds_toArray, List.set_cons_zero, List.set_cons_succ]
      refine wpAnyH_take (i := 6) (v := ?_) rfl (by kernel_rfl) (by kernel_rfl) (by kernel_rfl) (fun _ _ _ h => h) (Or.inl ⟨by rfl, ?_⟩) hS ?_
      rotate_left
      · (intro W hs; go_simp; first | done | with_reducible rfl)
      try simp only [Act.put, List.getElem_toArray, List.getElem_cons_zero, List.getElem_cons_succ, List.setIfInBounds_toArray, List.set_cons_zero, List.set_cons_succ]
      refine wpAnyH_take (i := 17) (v := ?_) rfl (by kernel_rfl) (by kernel_rfl) (by kernel_rfl) (fun _ _ _ h => h) (Or.inl ⟨by rfl, ?_⟩) hS ?_
      rotate_left
      · (intro W hs; go_simp; first | done | with_reducible rfl)
      try simp only [Act.put, List.getElem_toArray, List.getElem_cons_zero, List.getElem_cons_succ, List.setIfInBounds_toArray, List.set_cons_zero, List.set_cons_succ]
      refine wpAnyH_take (i := 8) (v := ?_) rfl (by kernel_rfl) (by kernel_rfl) (by kernel_rfl) (fun _ _ _ h => h) (Or.inl ⟨by rfl, ?_⟩) hS ?_
      rotate_left
      · (intro W hs; go_simp; first | done | with_reducible rfl)
      try simp only [Act.put, List.getElem_toArray, List.getElem_cons_zero, List.getElem_cons_succ, List.setIfInBounds_toArray, List.set_cons_zero, List.set_cons_succ]
      refine wpAnyH_take (i := 19) (v := ?_) rfl (by kernel_rfl) (by kernel_rfl) (by kernel_rfl) (fun _ _ _ h => h) (Or.inl ⟨by rfl, ?_⟩) hS ?_
      rotate_left
      · (intro W hs; go_simp; first | done | with_reducible rfl)
      try simp only [Act.put, List.getElem_toArray, List.getElem_cons_zero, List.getElem_cons_succ, List.setIfInBounds_toArray, List.set_cons_zero, List.set_cons_succ]
      refine wpAnyH_take (i := 10) (v := ?_) rfl (by kernel_rfl) (by kernel_rfl) (by kernel_rfl) (fun _ _ _ h => h) (Or.inl ⟨by rfl, ?_⟩) hS ?_
      rotate_left
      · (intro W hs; go_simp; first | done | with_reducible rfl)
      try simp only [Act.put, List.getElem_toArray, List.getElem_cons_zero, List.getElem_cons_succ, List.setIfInBounds_toArray, List.set_cons_zero, List.set_cons_succ]
      refine wpAnyH_take (i := 21) (v := ?_) rfl (by kernel_rfl) (by kernel_rfl) (by kernel_rfl) (fun _ _ _ h => h) (Or.inl ⟨by rfl, ?_⟩) hS ?_
      rotate_left
      · (intro W hs; go_simp; first | done | with_reducible rfl)
      try simp only [Act.put, List.getElem_toArray, List.getElem_cons_zero, List.getElem_cons_succ, List.setIfInBounds_toArray, List.set_cons_zero, List.set_cons_succ]
      refine wpAnyH_take (i := 27) (v := ?_) rfl (by kernel_rfl) (by kernel_rfl) (by kernel_rfl) (fun _ _ _ h => h) (Or.inl ⟨by rfl, ?_⟩) hS ?_
      rotate_left
      · (intro W hs; go_simp; first | done | with_reducible rfl)
      try simp only [Act.put, List.getElem_toArray, List.getElem_cons_zero, List.getElem_cons_succ, List.setIfInBounds_toArray, List.set_cons_zero, List.set_cons_succ]
      refine wpH_one (i := 28) (by kernel_rfl) rfl (fun K hK => ?_)
      go_simp
      have hfi : Fx No y0 (y0.alloc (.cells #[.int .i64 0, .int .i64 0, .int .i64 0] 25)) := (Fx.refl No _).alloc _
      refine hK.out _ _ (hS.trans hfi) (fun hS' => ?_)
      clear hK K hS
      have hS := hS'
      clear hS'
      try simp only [Act.put, List.getElem_toArray, List.getElem_cons_zero, List.getElem_cons_succ, List.setIfInBounds_toArray, List.set_cons_zero, List.set_cons_succ]
      refine wpAnyH_hold (fun W' => Fx No y0 W' ∧ Fx No wr W' ∧ y0.heap.size < W'.heap.size ∧ (W'.cell? ⟨y0.heap.size, 0, none⟩ = some (.int .i64 0) ∧ W'.cell? ⟨y0.heap.size, 1, none⟩ = some (.int .i64 0) ∧ W'.cell? ⟨y0.heap.size, 2, none⟩ = some (.int .i64 0)) ∧ (W'.frozen? ⟨y0.heap.size, 0, none⟩ = false ∧ W'.frozen? ⟨y0.heap.size, 1, none⟩ = false ∧ W'.frozen? ⟨y0.heap.size, 2, none⟩ = false)) ⟨hfi, hS, by simp, ⟨by simp, by simp, by simp⟩, ⟨by simp, by simp, by simp⟩⟩ ?_
      clear hfi hS
      rintro y1 ⟨hfi, hS, hlt, hHXe, hHXz⟩
      obtain ⟨eb, heb⟩ : ∃ q, q = y0.heap.size := ⟨_, rfl⟩
      rw [← heb] at hHXe hHXz hlt ⊢
      have HXe := Lib.hid hHXe
      have HXz := Lib.hid hHXz
      have HLeb : Hid (eb < y1.heap.size) := Lib.hid hlt
      have HEeb : Hid (eb = y0.heap.size) := Lib.hid heb
      have HZy1 : Hid (y0.heap.size ≤ y1.heap.size) := Lib.hid hfi.size
      have HLe : Hid (wr.heap.size ≤ eb) := Lib.hid (by have h1 := HEeb.out; have h2 := hS0.size; omega)
      clear hHXe hHXz hlt heb hfi
      refine wpH_one (i := 29) (by kernel_rfl) rfl (fun K hK => ?_)
      obtain ⟨e0, e1, e2⟩ := HXe.out
      obtain ⟨z0, z1, z2⟩ := HXz.out
      have hle := HLe.out
      go_simp
      refine hK.out _ _ (hS.setCells3 _ _ _ hle) (fun hS' => ?_)
      clear hK K hS
      have hS := hS'
      clear hS'
      try simp only [Act.put, List.getElem_toArray, List.getElem_cons_zero, List.getElem_cons_succ, List.setIfInBounds_toArray, List.set_cons_zero, List.set_cons_succ]
      clear e0 e1 e2 z0 z1 z2 hle
      refine wpAnyH_done (by kernel_rfl) ?_ _
      have HFx := Lib.hid hS
      have HKe := Lib.hid (put_three y1 (.int .i64 (c1 : Nat)) (.int .i64 (c2 : Nat)) (.int .i64 xl) HXe.out.1 HXe.out.2.1 HXe.out.2.2)
      clear hS hS0 g1 g2 g3 a1 a2 a3 b1' b2' b3'
      refine pq_hold (fun W => Fx No wr W ∧ W.cell? ⟨eb, 0, none⟩ = some (.int .i64 (c1 : Nat)) ∧ W.cell? ⟨eb, 1, none⟩ = some (.int .i64 (c2 : Nat)) ∧ W.cell? ⟨eb, 2, none⟩ = some (.int .i64 xl)) ⟨HFx.out, HKe.out⟩ ?_
      rintro wx ⟨hfx, k0, k1, k2⟩
      have HFx2 := Lib.hid hfx
      have hxl := World.block_lt_of_cell? wx _ k0
      have hxl : eb < wx.heap.size := hxl
      have HKx : Hid (wx.cell? ⟨eb, 0, none⟩ = some (.int .i64 (c1 : Nat)) ∧ wx.cell? ⟨eb, 1, none⟩ = some (.int .i64 (c2 : Nat)) ∧ wx.cell? ⟨eb, 2, none⟩ = some (.int .i64 xl)) := Lib.hid ⟨k0, k1, k2⟩
      have HPx := Lib.hid (HP.out.no hfx)
      have HLt : Hid (EdsV (wx.alloc (.cells #[.int .i64 (c1 : Nat), .int .i64 (c2 : Nat), .int .i64 xl] 25)) (Iv wx.heap.size (wx.heap.size + 1)) (.slice (some ⟨wx.heap.size, 0, none⟩) 1 1) [⟨c1, c2, xl⟩]) := Lib.hid (EdsV.lit [⟨c1, c2, xl⟩] (by simp))
      have HEb : Hid (¬ D eb) := Lib.hid fun hd => by have h1 := HP.out.g.lt eb hd; have h2 := HLe.out; omega
      have HEr : Hid (¬ eb = rb) := Lib.hid fun e => by have h1 := World.block_lt_of_cell? wr _ HP.out.r0.1; have h1 : rb < wr.heap.size := h1; have h2 := HLe.out; omega
      obtain ⟨L2, hL2⟩ : ∃ x, x = addG N L [⟨c1, c2, xl⟩] := ⟨_, rfl⟩
      obtain ⟨cnt, hcnt⟩ : ∃ x, x = cntG N L [⟨c1, c2, xl⟩] := ⟨_, rfl⟩
      obtain ⟨code, hcode⟩ : ∃ x, x = codeG N [⟨c1, c2, xl⟩] := ⟨_, rfl⟩
      have HLn : Hid (L2.length ≤ k + 1) := Lib.hid (by have := addG_len N L [⟨c1, c2, xl⟩]; rw [hL2]; simp at this; omega)
      have CA : Hid (∀ W (u : Value) (E' : Nat → Prop), EdsV W R (.slice ro L.length rc) L → EdsV W E' u [⟨c1, c2, xl⟩] → Calls Tryz.prog 38 #[.agg #[.int .i64 (N : Nat), .slice ro L.length rc], u] W fun e w' => ∃ so sc, e = .returned (.tuple #[.agg #[.int .i64 (N : Nat), .slice so L2.length sc], .int .i64 (cnt : Nat), .int .i64 code]) ∧ Fx No W w' ∧ EdsV w' (fun k => (R k ∨ W.heap.size ≤ k) ∧ k < w'.heap.size) (.slice so L2.length sc) L2) := Lib.hid fun W u E' hr hu => (refAdd_both hr HP.out.g.asc hu N (by simp; omega)).mono fun e w' ⟨v', h1, h2, h3⟩ => by
        rw [← hL2] at h3
        obtain ⟨so, sc, rfl, _⟩ := EdsV.facts h3
        exact ⟨so, sc, by rw [h1, ← hcnt, ← hcode], h2, h3⟩
      have CG : Hid (Calls Tryz.prog 37 #[.pointer (some ⟨b, 0, none⟩), .slice (some ⟨wx.heap.size, 0, none⟩) 1 1] (wx.alloc (.cells #[.int .i64 (c1 : Nat), .int .i64 (c2 : Nat), .int .i64 xl] 25)) fun r w' => r = .returned (.tuple #[.int .i64 (cnt : Nat), .int .i64 code]) ∧ Fx D (wx.alloc (.cells #[.int .i64 (c1 : Nat), .int .i64 (c2 : Nat), .int .i64 xl] 25)) w' ∧ GraphV w' (DU D (wx.alloc (.cells #[.int .i64 (c1 : Nat), .int .i64 (c2 : Nat), .int .i64 xl] 25)) w') b N L2) := Lib.hid (by
        rw [hL2, hcnt, hcode]
        exact gAdd_both (HPx.out.g.no ((Fx.refl No _).alloc _)) HLt.out (fun k hk hd => by have := HPx.out.g.lt k hd; have := hk.1; omega) (fun x hx => by rw [List.mem_singleton] at hx; rw [hx]; exact HOkx.out) (by simp; omega))
      have HLi : Hid (Fx No wx (wx.alloc (.cells #[.int .i64 (c1 : Nat), .int .i64 (c2 : Nat), .int .i64 xl] 25))) := Lib.hid ((Fx.refl No _).alloc _)
      clear hL2 hcnt hcode hfx
      go_wp2_with fail
      refine CG.out.mono ?_
      rintro e w2 ⟨rfl, hfD, hg2⟩
      have HFD := Lib.hid hfD
      have HG2 := Lib.hid hg2
      have HKy : Hid (w2.cell? ⟨eb, 0, none⟩ = some (.int .i64 (c1 : Nat)) ∧ w2.cell? ⟨eb, 1, none⟩ = some (.int .i64 (c2 : Nat)) ∧ w2.cell? ⟨eb, 2, none⟩ = some (.int .i64 xl)) := Lib.hid ⟨hfD.cell' (HLi.out.cell' HKx.out.1 (fun h => h)) HEb.out, hfD.cell' (HLi.out.cell' HKx.out.2.1 (fun h => h)) HEb.out, hfD.cell' (HLi.out.cell' HKx.out.2.2 (fun h => h)) HEb.out⟩
      have HR2 : Hid (EdsV w2 R (.slice ro L.length rc) L) := Lib.hid ((HPx.out.row.no HLi.out).keep hfD fun j hj => (HPx.out.ap j hj).1)
      have HO0 := Lib.hid (hfD.cellF (HLi.out.cellF HPx.out.r0.1 HPx.out.r0.2 (fun h => h)).1 (HLi.out.cellF HPx.out.r0.1 HPx.out.r0.2 (fun h => h)).2 HPx.out.rD.1)
      have HO1 := Lib.hid (hfD.cellF (HLi.out.cellF HPx.out.r1.1 HPx.out.r1.2 (fun h => h)).1 (HLi.out.cellF HPx.out.r1.1 HPx.out.r1.2 (fun h => h)).2 HPx.out.rD.1)
      clear hfD hg2 k0 k1 k2
      have g0 : ∀ W, Fx No w2 W → W.cell? ⟨rb, 0, none⟩ = some (.int .i64 (N : Nat)) := fun W h => h.cell' HO0.out.1 (fun h => h)
      have g1 : ∀ W, Fx No w2 W → W.cell? ⟨rb, 1, none⟩ = some (.slice ro L.length rc) := fun W h => h.cell' HO1.out.1 (fun h => h)
      have g2 : ∀ W, Fx No w2 W → W.cell? ⟨eb, 0, none⟩ = some (.int .i64 (c1 : Nat)) := fun W h => h.cell' HKy.out.1 (fun h => h)
      have g3 : ∀ W, Fx No w2 W → W.cell? ⟨eb, 1, none⟩ = some (.int .i64 (c2 : Nat)) := fun W h => h.cell' HKy.out.2.1 (fun h => h)
      have g4 : ∀ W, Fx No w2 W → W.cell? ⟨eb, 2, none⟩ = some (.int .i64 xl) := fun W h => h.cell' HKy.out.2.2 (fun h => h)
      go_wp2_with fail
      refine wp_region_inv (act := ?act) (Inv := D9I w2 R ro rc N L L2 ⟨c1, c2, xl⟩ cnt code (fun W => ∃ (v9 : Value) (D9 R9 : Nat → Prop), PG wq W b rb N L2 v9 D9 R9 ∧ ∀ j, R9 j → wq.heap.size ≤ j)) (by kernel_rfl) (by kernel_rfl) (by kernel_rfl) ?hact ?h0 ?hs ?hdone
      case hact => intro x; simp only [actX, setAll, List.setIfInBounds_toArray, List.set_cons_zero, List.set_cons_succ]; rfl
      case h0 => exact ⟨trivial, fun _ => (Fx.refl _ _).drew, fun h0 => Bool.noConfusion h0, fun h0 => Bool.noConfusion h0, fun h0 h1 => Bool.noConfusion h0, fun h0 h1 => Bool.noConfusion h0, fun h0 h1 => Bool.noConfusion h0, fun h0 => Bool.noConfusion h0, fun h0 => Bool.noConfusion h0, fun h0 => Bool.noConfusion h0, fun h0 => Bool.noConfusion h0⟩
      case hs =>
        refine ⟨?_, ?_, ?_, ?_, ?_, ?_, ?_, ?_, ?_, ?_, trivial⟩
        · intro LL xx ww hI hL hD hC K hK
          dsimp only at hK ⊢
          have n4 : LL 4 = false := off_of hC hL 4 (by kernel_rfl)
          have n5 : LL 5 = false := off_of hC n4 5 (by kernel_rfl)
          have n6 : LL 6 = false := off_of hC n5 6 (by kernel_rfl)
          have n7 : LL 7 = false := off_of hC n5 7 (by kernel_rfl)
          have n8 : LL 8 = false := off_of hC n5 8 (by kernel_rfl)
          have n9 : LL 9 = false := off_of hC hL 9 (by kernel_rfl)
          have hS := hI.fS n9
          have p0 := g0 _ hS
          have p1 := g1 _ hS
          clear hD hC
          go_simp
          refine hK.out (.agg #[.int .i64 (N : Nat), .slice ro L.length rc]) _ _ rfl ⟨hI.base, hI.fS, fun h0 => rfl, hI.f1, hI.f2, hI.f3, fun h0 h1 => Bool.noConfusion ((show false = LL 4 from n4.symm).trans h0), fun h0 => Bool.noConfusion ((show false = LL 4 from n4.symm).trans h0), fun h0 => Bool.noConfusion ((show false = LL 5 from n5.symm).trans h0), fun h0 => Bool.noConfusion ((show false = LL 6 from n6.symm).trans h0), fun h0 => Bool.noConfusion ((show false = LL 9 from n9.symm).trans h0)⟩
        · intro LL xx ww hI hL hD hC K hK
          dsimp only at hK ⊢
          have n2 : LL 2 = false := off_of hC hL 2 (by kernel_rfl)
          have n3 : LL 3 = false := off_of hC n2 3 (by kernel_rfl)
          have n4 : LL 4 = false := off_of hC n3 4 (by kernel_rfl)
          have n5 : LL 5 = false := off_of hC n4 5 (by kernel_rfl)
          have n6 : LL 6 = false := off_of hC n5 6 (by kernel_rfl)
          have n7 : LL 7 = false := off_of hC n5 7 (by kernel_rfl)
          have n8 : LL 8 = false := off_of hC n5 8 (by kernel_rfl)
          have n9 : LL 9 = false := off_of hC hL 9 (by kernel_rfl)
          have hS := hI.fS n9
          have p0 := g2 _ hS
          have p1 := g3 _ hS
          have p2 := g4 _ hS
          clear hD hC
          go_simp
          refine hK.out (.agg #[.int .i64 (c1 : Nat), .int .i64 (c2 : Nat), .int .i64 xl]) _ _ rfl ⟨hI.base, hI.fS, hI.f0, fun h0 => rfl, fun h0 h1 => Bool.noConfusion ((show false = LL 2 from n2.symm).trans h0), fun h0 h1 => Bool.noConfusion ((show false = LL 3 from n3.symm).trans h0), fun h0 h1 => Bool.noConfusion ((show false = LL 4 from n4.symm).trans h0), fun h0 => Bool.noConfusion ((show false = LL 4 from n4.symm).trans h0), fun h0 => Bool.noConfusion ((show false = LL 5 from n5.symm).trans h0), fun h0 => Bool.noConfusion ((show false = LL 6 from n6.symm).trans h0), fun h0 => Bool.noConfusion ((show false = LL 9 from n9.symm).trans h0)⟩
        · intro LL xx ww hI hL hD hC K hK
          dsimp only at hK ⊢
          have d1 : LL 1 = true := dep_of hD 1 (by kernel_rfl)
          have n3 : LL 3 = false := off_of hC hL 3 (by kernel_rfl)
          have n4 : LL 4 = false := off_of hC n3 4 (by kernel_rfl)
          have n5 : LL 5 = false := off_of hC n4 5 (by kernel_rfl)
          have n6 : LL 6 = false := off_of hC n5 6 (by kernel_rfl)
          have n7 : LL 7 = false := off_of hC n5 7 (by kernel_rfl)
          have n8 : LL 8 = false := off_of hC n5 8 (by kernel_rfl)
          have n9 : LL 9 = false := off_of hC hL 9 (by kernel_rfl)
          have e1 := hI.f1 d1
          have hfi : Fx No ww (ww.alloc (.cells #[.int .i64 (c1 : Nat), .int .i64 (c2 : Nat), .int .i64 xl] 25)) := (Fx.refl No _).alloc _
          simp only [e1] at hK ⊢
          clear hD hC
          go_simp
          refine hK.out (.slice (some ⟨ww.heap.size, 0, none⟩) 1 1) _ _ rfl ⟨trivial, fun h0 => (hI.fS h0).trans hfi, hI.f0, hI.f1, fun h0 h1 => ⟨_, rfl, SlV.lit ww 25 #[.int .i64 (c1 : Nat), .int .i64 (c2 : Nat), .int .i64 xl] 3 1 rfl (by unfold maxLen; omega)⟩, fun h0 h1 => Bool.noConfusion ((show false = LL 3 from n3.symm).trans h0), fun h0 h1 => Bool.noConfusion ((show false = LL 4 from n4.symm).trans h0), fun h0 => Bool.noConfusion ((show false = LL 4 from n4.symm).trans h0), fun h0 => Bool.noConfusion ((show false = LL 5 from n5.symm).trans h0), fun h0 => Bool.noConfusion ((show false = LL 6 from n6.symm).trans h0), fun h0 => Bool.noConfusion ((show false = LL 9 from n9.symm).trans h0)⟩
        · intro LL xx ww hI hL hD hC K hK
          dsimp only at hK ⊢
          have d2 : LL 2 = true := dep_of hD 2 (by kernel_rfl)
          have n4 : LL 4 = false := off_of hC hL 4 (by kernel_rfl)
          have n5 : LL 5 = false := off_of hC n4 5 (by kernel_rfl)
          have n6 : LL 6 = false := off_of hC n5 6 (by kernel_rfl)
          have n7 : LL 7 = false := off_of hC n5 7 (by kernel_rfl)
          have n8 : LL 8 = false := off_of hC n5 8 (by kernel_rfl)
          have n9 : LL 9 = false := off_of hC hL 9 (by kernel_rfl)
          obtain ⟨q, e2, h2⟩ := hI.f2 d2 hL
          simp only [e2] at hK ⊢
          clear hD hC
          go_simp
          refine (docEdges_any h2 (by simp)).mono ?_
          rintro e w' ⟨u1, rfl, hfi, hu⟩
          refine hK.out (u1) _ _ rfl ⟨trivial, fun h0 => (hI.fS h0).trans hfi, hI.f0, hI.f1, fun h0 h1 => Bool.noConfusion (show true = false from h1), fun h0 h1 => ⟨_, OwnT.row hu⟩, fun h0 h1 => Bool.noConfusion ((show false = LL 4 from n4.symm).trans h0), fun h0 => Bool.noConfusion ((show false = LL 4 from n4.symm).trans h0), fun h0 => Bool.noConfusion ((show false = LL 5 from n5.symm).trans h0), fun h0 => Bool.noConfusion ((show false = LL 6 from n6.symm).trans h0), fun h0 => Bool.noConfusion ((show false = LL 9 from n9.symm).trans h0)⟩
        · intro LL xx ww hI hL hD hC K hK
          dsimp only at hK ⊢
          have d0 : LL 0 = true := dep_of hD 0 (by kernel_rfl)
          have d3 : LL 3 = true := dep_of hD 3 (by kernel_rfl)
          have n5 : LL 5 = false := off_of hC hL 5 (by kernel_rfl)
          have n6 : LL 6 = false := off_of hC n5 6 (by kernel_rfl)
          have n7 : LL 7 = false := off_of hC n5 7 (by kernel_rfl)
          have n8 : LL 8 = false := off_of hC n5 8 (by kernel_rfl)
          have n9 : LL 9 = false := off_of hC hL 9 (by kernel_rfl)
          have e0 := hI.f0 d0
          obtain ⟨E', h3⟩ := hI.f3 d3 hL
          have hS := hI.fS n9
          simp only [e0] at hK ⊢
          clear hD hC
          go_simp
          refine (CA.out _ _ _ (HR2.out.no hS) h3).mono ?_
          rintro e w' ⟨so, sc, rfl, hfi, hr⟩
          refine hK.out (.tuple #[.agg #[.int .i64 (N : Nat), .slice so L2.length sc], .int .i64 (cnt : Nat), .int .i64 code]) _ _ rfl ⟨trivial, fun h0 => (hI.fS h0).trans hfi, hI.f0, hI.f1, fun h0 h1 => Bool.noConfusion ((show true = LL 3 from d3.symm).trans h1), fun h0 h1 => Bool.noConfusion (show true = false from h1), fun h0 h1 => ⟨so, sc, rfl, hr.mono fun k hk => ⟨hk.1.imp id fun h => by have := hS.size; omega, hk.2⟩⟩, fun h0 => ⟨so, sc, rfl⟩, fun h0 => Bool.noConfusion ((show false = LL 5 from n5.symm).trans h0), fun h0 => Bool.noConfusion ((show false = LL 6 from n6.symm).trans h0), fun h0 => Bool.noConfusion ((show false = LL 9 from n9.symm).trans h0)⟩
        · intro LL xx ww hI hL hD hC K hK
          dsimp only at hK ⊢
          have d4 : LL 4 = true := dep_of hD 4 (by kernel_rfl)
          have n6 : LL 6 = false := off_of hC hL 6 (by kernel_rfl)
          have n7 : LL 7 = false := off_of hC hL 7 (by kernel_rfl)
          have n8 : LL 8 = false := off_of hC hL 8 (by kernel_rfl)
          have n9 : LL 9 = false := off_of hC hL 9 (by kernel_rfl)
          clear hD hC
          go_simp
          refine hK.out (xx 4) _ _ rfl ⟨hI.base, hI.fS, hI.f0, hI.f1, hI.f2, hI.f3, hI.f4, hI.f4e, fun h0 => rfl, fun h0 => Bool.noConfusion ((show false = LL 6 from n6.symm).trans h0), fun h0 => Bool.noConfusion ((show false = LL 9 from n9.symm).trans h0)⟩
        · intro LL xx ww hI hL hD hC K hK
          dsimp only at hK ⊢
          have d5 : LL 5 = true := dep_of hD 5 (by kernel_rfl)
          have n9 : LL 9 = false := off_of hC hL 9 (by kernel_rfl)
          have d4 : LL 4 = true := hC 5 _ rfl d5 { on := 4, ground := .data } (by simp) rfl
          have e5 := hI.f5 d5
          obtain ⟨so, sc, e4⟩ := hI.f4e d4
          simp only [e5, e4] at hK ⊢
          clear hD hC
          go_simp
          refine hK.out (.agg #[.int .i64 (N : Nat), .slice so L2.length sc]) _ _ rfl ⟨hI.base, hI.fS, hI.f0, hI.f1, hI.f2, hI.f3, hI.f4, hI.f4e, hI.f5, fun h0 => ⟨so, sc, e4, rfl⟩, fun h0 => Bool.noConfusion ((show false = LL 9 from n9.symm).trans h0)⟩
        · intro LL xx ww hI hL hD hC K hK
          dsimp only at hK ⊢
          have d5 : LL 5 = true := dep_of hD 5 (by kernel_rfl)
          have d4 : LL 4 = true := hC 5 _ rfl d5 { on := 4, ground := .data } (by simp) rfl
          have e5 := hI.f5 d5
          obtain ⟨so, sc, e4⟩ := hI.f4e d4
          simp only [e5, e4] at hK ⊢
          clear hD hC
          go_simp
          refine hK.out (.int .i64 (cnt : Nat)) _ _ rfl ⟨hI.base, hI.fS, hI.f0, hI.f1, hI.f2, hI.f3, hI.f4, hI.f4e, hI.f5, hI.f6, hI.f9⟩
        · intro LL xx ww hI hL hD hC K hK
          dsimp only at hK ⊢
          have d5 : LL 5 = true := dep_of hD 5 (by kernel_rfl)
          have d4 : LL 4 = true := hC 5 _ rfl d5 { on := 4, ground := .data } (by simp) rfl
          have e5 := hI.f5 d5
          obtain ⟨so, sc, e4⟩ := hI.f4e d4
          simp only [e5, e4] at hK ⊢
          clear hD hC
          go_simp
          refine hK.out (.int .i64 code) _ _ rfl ⟨hI.base, hI.fS, hI.f0, hI.f1, hI.f2, hI.f3, hI.f4, hI.f4e, hI.f5, hI.f6, hI.f9⟩
        · intro LL xx ww hI hL hD hC K hK
          dsimp only at hK ⊢
          have d0 : LL 0 = true := dep_of hD 0 (by kernel_rfl)
          have d1 : LL 1 = true := dep_of hD 1 (by kernel_rfl)
          have d2 : LL 2 = true := dep_of hD 2 (by kernel_rfl)
          have d3 : LL 3 = true := dep_of hD 3 (by kernel_rfl)
          have d4 : LL 4 = true := dep_of hD 4 (by kernel_rfl)
          have d5 : LL 5 = true := dep_of hD 5 (by kernel_rfl)
          have d6 : LL 6 = true := dep_of hD 6 (by kernel_rfl)
          obtain ⟨so, sc, e4, e6⟩ := hI.f6 d6
          obtain ⟨so', sc', e4', hr⟩ := hI.f4 d4 hL
          rw [e4] at e4'
          obtain ⟨rfl, rfl⟩ : so = so' ∧ sc = sc' := by simpa using e4'
          have hS := hI.fS hL
          obtain ⟨q0, p0⟩ := hS.cellF HO0.out.1 HO0.out.2 (fun h => h)
          obtain ⟨q1, p1⟩ := hS.cellF HO1.out.1 HO1.out.2 (fun h => h)
          simp only [e6, e4] at hK ⊢
          clear hD hC
          go_simp
          have HP3 := HP.out.step2 (HFx2.out.trans HLi.out) HFD.out HG2.out hS hr (fun k hk => hk)
          refine hK.out (undef) _ _ rfl ⟨trivial, fun h0 => Bool.noConfusion (show true = false from h0), hI.f0, hI.f1, fun h0 h1 => Bool.noConfusion ((show true = LL 3 from d3.symm).trans h1), fun h0 h1 => Bool.noConfusion ((show true = LL 4 from d4.symm).trans h1), fun h0 h1 => Bool.noConfusion (show true = false from h1), hI.f4e, hI.f5, hI.f6, fun h0 => ⟨_, _, _, HP3, fun j hj => by
              have h1 := HP.out.fx.size
              have h2 := HFx2.out.size
              have h3 := HLi.out.size
              have h4 := HFD.out.size
              rcases hj.1 with h | h
              · exact HRl.out j h
              · omega⟩⟩
      case hdone =>
        intro LL xx ww hI hL
        have l0 := hL 0 (by decide)
        have l1 := hL 1 (by decide)
        have l2 := hL 2 (by decide)
        have l3 := hL 3 (by decide)
        have l4 := hL 4 (by decide)
        have l5 := hL 5 (by decide)
        have l6 := hL 6 (by decide)
        have l7 := hL 7 (by decide)
        have l8 := hL 8 (by decide)
        have l9 := hL 9 (by decide)
        clear hL
        try dsimp only
        obtain ⟨v9, D9, R9, HP3, HR9⟩ := hI.f9 l9
        have HP3 := Lib.hid HP3
        have HR9 := Lib.hid HR9
        clear hI l0 l1 l2 l3 l4 l5 l6 l7 l8 l9 g0 g1 g2 g3 g4 CA CG
        go_wp2
        go_roundw
        case rel => exact ⟨k + 1, L2, v9, D9, R9, by go_num, by omega, HLn.out, HP3.out, HR9.out⟩
        case measure => simp [intOf]; omega
    · obtain ⟨q0, f0⟩ := HP.out.fx.cellF HQ0.out.1 HQ0.out.2 (fun h => h)
      obtain ⟨q1, f1⟩ := HP.out.fx.cellF HQ1.out.1 HQ1.out.2 (fun h => h)
      obtain ⟨r0, _⟩ := HP.out.r0
      obtain ⟨r1, _⟩ := HP.out.r1
      obtain ⟨k1, k2, k3, k4⟩ := put_two wr (qb := qb) (.int .i64 (N : Nat)) (.slice ro L.length rc) q0 q1
      have HK0 : Hid ((wr.setCell ⟨qb, 0, none⟩ (.int .i64 (N : Nat))).cell? ⟨qb, 0, none⟩ = some (.int .i64 (N : Nat))) := Lib.hid (World.cell?_setCell_same _ _ _ q0)
      have HK1 := Lib.hid k1
      have HK2 := Lib.hid k2
      have HK3 := Lib.hid k3
      have HK4 := Lib.hid k4
      have hqr : ¬ rb = qb := fun e => by have h1 := HP.out.rD.2; have h2 := HQb.out; have h3 := HZq.out; omega
      have s0 : Fx (fun j => j = qb) wr wr := Fx.refl _ _
      have g5 : ∀ W, Fx (fun j => j = qb) wr W → W.cell? ⟨rb, 0, none⟩ = some (.int .i64 (N : Nat)) := fun W h => h.cell' r0 hqr
      have g6 : ∀ W, Fx (fun j => j = qb) wr W → W.cell? ⟨rb, 1, none⟩ = some (.slice ro L.length rc) := fun W h => h.cell' r1 hqr
      have hex : (decide ((k : Int) < (l.length : Int)) = false ∧ decide (k < l.length) = false) ∨ (decide ((k : Int) < (l.length : Int)) = true ∧ decide (k < l.length) = true ∧ decide ((0 : Int) < (N : Int)) = false ∧ decide (0 < N) = false) := by
        by_cases h1 : k < l.length
        · exact .inr ⟨decide_eq_true (by omega), decide_eq_true (by omega), decide_eq_false (by omega), decide_eq_false (by omega)⟩
        · exact .inl ⟨decide_eq_false (by omega), decide_eq_false (by omega)⟩
      clear k1 k2 k3 k4 r0 r1 hlt hqr
      have HDr : Hid (∀ W, Fx (fun j => j = qb) wr W → Drw w W b N L (.slice ro L.length rc) D R) := Lib.hid fun W h => by
        have h1 := HQb.out
        have h2 := HZq.out
        have hD : ∀ j, D j → ¬ j = qb := fun j hj e => by have := HP.out.lo j hj; omega
        have hR : ∀ j, R j → ¬ j = qb := fun j hj e => by have := HRl.out j hj; omega
        refine ⟨(HFq.out.trans HP.out.fx).trans' h fun j e hl => by have e : j = qb := e; omega, HP.out.g.keep h hD, HP.out.row.keep h hR, fun j hj => by have := HP.out.lo j hj; omega, fun j hj => by have := HRl.out j hj; omega, fun j hj => (HP.out.ap j hj).1, fun j hj => Nat.lt_of_lt_of_le (HP.out.eb j hj) h.size⟩
      rcases hex with ⟨d1, d1'⟩ | ⟨d1, d1', d2, d2'⟩
      · go_wp2_with fail
        refine wp_region_H (fun W => Fx (fun j => j = qb) wr W) (by kernel_rfl) s0.drew ?_
        intro hS
        refine wpAnyH_take (i := 0) (v := ?_) rfl (by kernel_rfl) (by kernel_rfl) (by kernel_rfl) (fun _ _ _ h => h) (Or.inl ⟨by rfl, ?_⟩) hS ?_
        rotate_left
        · (intro W hs; go_simp; first | done | with_reducible rfl)
        try simp only [Act.put, List.getElem_toArray, List.getElem_cons_zero, List.setIfInBounds_toArray, List.set_cons_zero, List.set_cons_succ]
        refine wpAnyH_take (i := 1) (v := ?_) rfl (by kernel_rfl) (by kernel_rfl) (by kernel_rfl) (fun _ _ _ h => h) (Or.inl ⟨by rfl, ?_⟩) hS ?_
        rotate_left
        · (intro W hs; go_simp; first | done | with_reducible rfl)
        try simp only [Act.put, List.getElem_toArray, List.getElem_cons_zero, List.getElem_cons_succ, List.setIfInBounds_toArray, List.set_cons_zero, List.set_cons_succ]
        refine wpAnyH_take (i := 2) (v := ?_) rfl (by kernel_rfl) (by kernel_rfl) (by kernel_rfl) (fun _ _ _ h => h) (Or.inl ⟨by rfl, ?_⟩) hS ?_
        rotate_left
        · (intro W hs; go_simp; first | done | with_reducible rfl)
        try simp only [Act.put, List.getElem_toArray, List.getElem_cons_zero, List.getElem_cons_succ, List.setIfInBounds_toArray, List.set_cons_zero, List.set_cons_succ]
        refine wpH_one (i := 3) (by kernel_rfl) rfl (fun K hK => ?_)
        go_simp
        refine hK.out _ _ ((s0.drew.setCell (a := ⟨qb, 0, none⟩) (.inr rfl) _).setCell (a := ⟨qb, 1, none⟩) (.inr rfl) _) (fun hS' => ?_)
        clear hK K hS
        have hS := hS'
        clear hS'
        refine wpAnyH_done (by kernel_rfl) ?_ _
        have HFz := Lib.hid hS
        clear g5 g6 hS s0 q0 f0 q1 f1
        go_wp2
        refine bodyPost_ret (v := .tuple #[.pointer (some ⟨b, 0, none⟩), .agg #[.int .i64 (N : Nat), .slice ro L.length rc]]) (by have g0 := HK0.out; have g1 := HK1.out; have g2 := HK2.out; simp [results, Tryz.results9, go_sem, g1, g2]) rfl ⟨b, N, L, _, D, R, rfl, HDr.out _ HFz.out, hNm, by omega⟩
      · go_wp2_with fail
        refine wp_region_H (fun W => Fx (fun j => j = qb) wr W) (by kernel_rfl) s0.drew ?_
        intro hS
        refine wpAnyH_take (i := 0) (v := ?_) rfl (by kernel_rfl) (by kernel_rfl) (by kernel_rfl) (fun _ _ _ h => h) (Or.inl ⟨by rfl, ?_⟩) hS ?_
        rotate_left
        · (intro W hs; go_simp; first | done | with_reducible rfl)
        try simp only [Act.put, List.getElem_toArray, List.getElem_cons_zero, List.setIfInBounds_toArray, List.set_cons_zero, List.set_cons_succ]
        refine wpAnyH_take (i := 1) (v := ?_) rfl (by kernel_rfl) (by kernel_rfl) (by kernel_rfl) (fun _ _ _ h => h) (Or.inl ⟨by rfl, ?_⟩) hS ?_
        rotate_left
        · (intro W hs; go_simp; first | done | with_reducible rfl)
        try simp only [Act.put, List.getElem_toArray, List.getElem_cons_zero, List.getElem_cons_succ, List.setIfInBounds_toArray, List.set_cons_zero, List.set_cons_succ]
        refine wpAnyH_take (i := 2) (v := ?_) rfl (by kernel_rfl) (by kernel_rfl) (by kernel_rfl) (fun _ _ _ h => h) (Or.inl ⟨by rfl, ?_⟩) hS ?_
        rotate_left
        · (intro W hs; go_simp; first | done | with_reducible rfl)
        try simp only [Act.put, List.getElem_toArray, List.getElem_cons_zero, List.getElem_cons_succ, List.setIfInBounds_toArray, List.set_cons_zero, List.set_cons_succ]
        refine wpH_one (i := 3) (by kernel_rfl) rfl (fun K hK => ?_)
        go_simp
        refine hK.out _ _ ((s0.drew.setCell (a := ⟨qb, 0, none⟩) (.inr rfl) _).setCell (a := ⟨qb, 1, none⟩) (.inr rfl) _) (fun hS' => ?_)
        clear hK K hS
        have hS := hS'
        clear hS'
        refine wpAnyH_done (by kernel_rfl) ?_ _
        have HFz := Lib.hid hS
        clear g5 g6 hS s0 q0 f0 q1 f1
        go_wp2
        refine bodyPost_ret (v := .tuple #[.pointer (some ⟨b, 0, none⟩), .agg #[.int .i64 (N : Nat), .slice ro L.length rc]]) (by have g0 := HK0.out; have g1 := HK1.out; have g2 := HK2.out; simp [results, Tryz.results9, go_sem, g1, g2]) rfl ⟨b, N, L, _, D, R, rfl, HDr.out _ HFz.out, hNm, by omega⟩
end
#print axioms drawn_any
end Go.Proofs.YtgacknphjeiojaaGreat

namespace Go.Proofs.YtgacknphjeiojaaGreat
open Go.RowKit
set_option linter.unusedVariables false

theorem Fx.putObj {S : Nat → Prop} (W : World) (l : Nat) (o : Obj) (h : S l) : Fx S W (W.putObj l o) :=
  Fx.ofGrown (grownBy_putObj' W l o) fun k e _ => by cases e; exact h

/-- Kept by whatever turns blocks of S alone. -/
def Kept {β : Type} (S : Nat → Prop) (J : β → World → Prop) : Prop := ∀ s A B, J s A → Fx S A B → J s B

/-- how a round's body may be left -/
def rangeOut {α : Type} (Bd : Nat → Prop) (I : List α → World → Prop) (Ix : Code → List α → World → Prop) (xs : List α) (W : World) : Exit → Act → World → Prop
  | .normal, _, W' => Fx Bd W W' ∧ I xs W'
  | .ret, _, W' => Fx Bd W W' ∧ Ix .ret xs W'
  | .exit id, _, W' => Fx Bd W W' ∧ Ix (.exit id) xs W'
  | .goto t, _, W' => Fx Bd W W' ∧ Ix (.goto t) xs W'
  | .panic _, _, _ => False
  | .outgrown, _, _ => False

/-- what a round hands to the iterator -/
def RoundAt {α : Type} (n : Nat) (P : Program) (l : Nat) (encs : α → Array Value) (G : List α → α → Prop) (Bd : Nat → Prop) (J Jx : List α → World → Prop) : Prop :=
  ∀ pre x W, G pre x → J pre W → YieldAt Fence.wide n P l (encs x) W fun e W' =>
    (e = .returned (.bool true) ∧ J (pre ++ [x]) W' ∧ Fx (fun k => Bd k ∨ k = l) W W') ∨ (e = .returned (.bool false) ∧ Jx (pre ++ [x]) W')

theorem range_law {α : Type} {n : Nat} {P : Program} {g : Operand} {ps : Array Tmp} {assign body : Code} {Q : Exit → Act → World → Prop} {a : Act} {w : World}
    {gf : Nat} {lb : Array Value} (hg : a.eval g = .func (.func gf) #[] lb) (eg : ∀ args w, (callFunc gf args).run P w = .ok (.enter gf args) w)
    (encs : α → Array Value) (hps : ∀ x, (encs x).size = ps.size) (G : List α → α → Prop) (Pv Bd : Nat → Prop) (hB0 : ¬ Bd w.heap.size) (hB1 : ¬ Bd (w.heap.size + 1)) (hP0 : ¬ Pv w.heap.size) (hP1 : ¬ Pv (w.heap.size + 1))
    (S Sp : List α → Prop) (I : List α → World → Prop) (Ix : Code → List α → World → Prop) (hI : Kept (fun k => Pv k ∨ k = w.heap.size + 1) I) (hIx : ∀ c, Kept (fun k => Pv k ∨ k = w.heap.size + 1) (Ix c))
    (h0 : I [] w) (a₁ : α → Act)
    (hassign : ∀ (x : α) (W : World) (K : Act → World → Prop), K (a₁ x) W →
      assign.wpIn (Fence.wide.inRound (w.heap.size + 1)) (n - 1 - 1) P (Exit.then K (fun _ _ _ => False)) { tmps := (ps.zip (encs x)).foldl (fun t (p, v) => t.setIfInBounds p v) a.tmps, defers := [] } W)
    (hbody : ∀ (pre : List α) (x : α) (W : World), G pre x → I pre W → w.heap.size + 2 ≤ W.heap.size → body.wpIn (Fence.wide.inRound (w.heap.size + 1)) (n - 1 - 1) P (rangeOut Bd I Ix (pre ++ [x]) W) (a₁ x) W)
    (hit : ∀ (W : World) (J Jx : List α → World → Prop), Fx No w W → W.heap.size = w.heap.size + 2 → Kept Pv J → Kept Pv Jx → RoundAt (n - 1 - 1) P (w.heap.size + 1) encs G Bd J Jx → J [] W →
      CallsIn Fence.wide (n - 1) P gf (#[.func (.yield (w.heap.size + 1)) #[] #[]] ++ lb) W fun e W' => (∃ v, e = .returned v) ∧ ((∃ xs, S xs ∧ J xs W') ∨ (∃ pre, Sp pre ∧ Jx pre W')))
    (hdone : ∀ (xs : List α) (W : World), S xs → I xs W → W.heap[w.heap.size]? = some (.deferred (some [])) → Q .normal { a with defers := { target := .collected w.heap.size, args := #[] } :: a.defers } W)
    (hstop : ∀ (c : Code) (pre : List α) (W : World), Sp pre → Ix c pre W → W.heap[w.heap.size]? = some (.deferred (some [])) → c.wpIn Fence.wide n P Q { a with defers := { target := .collected w.heap.size, args := #[] } :: a.defers } W) :
    (Code.rangeFunc g ps assign body).wpIn Fence.wide n P Q a w := by
  refine wpIn_rangeFunc fun fn hfn => ?_
  obtain ⟨rec, hrec⟩ : ∃ rec : LoopState → Option Code → Loop, rec = fun st pe => { state := st, pending := pe, fn, tmps := a.tmps, params := ps, assign, body, defers := w.heap.size } := ⟨_, rfl⟩
  obtain ⟨W1, hW1⟩ : ∃ W1, (w.alloc (.deferred (some []))).alloc (.loop (rec .ready none)) = W1 := ⟨_, rfl⟩
  have f1 : Fx No w W1 := by rw [← hW1]; exact ((Fx.refl No w).alloc _).alloc _
  have s1 : W1.heap.size = w.heap.size + 2 := by rw [← hW1]; simp
  have hL1 : W1.heap[w.heap.size + 1]? = some (.loop (rec .ready none)) := by
    rw [← hW1]; have := World.alloc_heap_new (w.alloc (.deferred (some []))) (.loop (rec .ready none)); rwa [World.size_alloc] at this
  have hK1 : W1.heap[w.heap.size]? = some (.deferred (some [])) := by
    rw [← hW1]; exact (Below.heap_alloc _ _ _ (by simp)).trans (World.alloc_heap_new w _)
  have hI1 : I [] W1 := hI _ _ _ h0 f1.no
  refine ⟨w.heap.size + 1, [{ target := .collected w.heap.size, args := #[] }], W1, { target := .fn (.func gf) lb, args := #[.func (.yield (w.heap.size + 1)) #[] #[]] }, W1, gf,
    #[.func (.yield (w.heap.size + 1)) #[] #[]] ++ lb, W1, ?_, ?_, fun f' _ => trivial, ?_, (fun h => by cases h), ?_⟩
  · rw [← hW1, hrec]; exact run_enterLoop_outer _ _ _ _ _
  · simp only [resolve, hg]
    simp [go_sem]
  · simp [invoke, go_sem, eg]
  · -- the two facts of book-keeping ride beside the caller's own
    have keep : ∀ {W W' : World} {T : Nat → Prop} {st : LoopState} {pe : Option Code}, ¬ T w.heap.size → ¬ T (w.heap.size + 1) → Fx T W W' →
        W.heap[w.heap.size + 1]? = some (.loop (rec st pe)) ∧ W.heap[w.heap.size]? = some (.deferred (some [])) →
        W'.heap[w.heap.size + 1]? = some (.loop (rec st pe)) ∧ W'.heap[w.heap.size]? = some (.deferred (some [])) :=
      fun h1 h2 hf h => ⟨hf.at_ h.1 h2, hf.at_ h.2 h1⟩
    have turn : ∀ {W : World} {r : Loop} {r' : Loop}, W.heap[w.heap.size + 1]? = some (.loop r) ∧ W.heap[w.heap.size]? = some (.deferred (some [])) →
        (W.putObj (w.heap.size + 1) (.loop r')).heap[w.heap.size + 1]? = some (.loop r') ∧ (W.putObj (w.heap.size + 1) (.loop r')).heap[w.heap.size]? = some (.deferred (some [])) :=
      fun h => ⟨World.putObj_heap_same (Array.getElem?_eq_some_iff.1 h.1).1, (World.putObj_heap_other (by omega)).trans h.2⟩
    refine (hit W1
      (fun pre W => I pre W ∧ W.heap[w.heap.size + 1]? = some (.loop (rec .ready none)) ∧ W.heap[w.heap.size]? = some (.deferred (some [])))
      (fun pre W => ∃ c, Ix c pre W ∧ W.heap[w.heap.size + 1]? = some (.loop (rec .done (some c))) ∧ W.heap[w.heap.size]? = some (.deferred (some [])))
      f1 s1
      (fun s A B hs hf => ⟨hI s A B hs.1 (hf.mono fun _ _ h => .inl h), keep hP0 hP1 hf hs.2⟩)
      (fun s A B hs hf => let ⟨c, hc, hl⟩ := hs; ⟨c, hIx c s A B hc (hf.mono fun _ _ h => .inl h), keep hP0 hP1 hf hl⟩)
      ?_ ⟨hI1, hL1, hK1⟩).mono ?_
    · -- one round
      rintro pre x W hG ⟨hi, hl⟩
      have hlt : w.heap.size + 1 < W.heap.size := (Array.getElem?_eq_some_iff.1 hl.1).1
      have hy := run_yield (P := P) (args := encs x) hl.1 (by rw [hrec]; exact hps x)
      rw [hrec] at hy
      refine ⟨fn, _, assign, body, hy, roundIn_of_wpIn hfn (hassign x W _ ⟨_, run_beginRound hl.1 (by rw [hrec]), ?_⟩)⟩
      have hl2 := turn (r' := { rec .ready none with state := .busy }) hl
      have hf2 : Fx (fun k => Bd k ∨ k = w.heap.size + 1) W (W.putObj (w.heap.size + 1) (.loop { rec .ready none with state := .busy })) := Fx.putObj _ _ _ (.inr rfl)
      refine wpIn_mono (hbody pre x _ hG (hI _ _ _ hi (Fx.putObj _ _ _ (.inr rfl))) (Nat.le_trans (show w.heap.size + 2 ≤ W.heap.size by omega) (Fx.putObj (S := fun _ => True) W _ _ trivial).size)) ?_
      have fin : ∀ (jump : Option Code) (W3 : World), Fx Bd (W.putObj (w.heap.size + 1) (.loop { rec .ready none with state := .busy })) W3 →
          (Instr.endRound (w.heap.size + 1) jump).run P W3 = .ok (.bool jump.isNone) (W3.putObj (w.heap.size + 1) (.loop (rec (if jump.isNone then .ready else .done) jump))) ∧
          ((W3.putObj (w.heap.size + 1) (.loop (rec (if jump.isNone then .ready else .done) jump))).heap[w.heap.size + 1]? = some (.loop (rec (if jump.isNone then .ready else .done) jump)) ∧
          (W3.putObj (w.heap.size + 1) (.loop (rec (if jump.isNone then .ready else .done) jump))).heap[w.heap.size]? = some (.deferred (some []))) := fun jump W3 hk3 => by
        have hl3 := keep (st := .busy) (pe := none) hB0 hB1 hk3 (by rw [hrec] at hl2 ⊢; exact hl2)
        have := run_endRound (P := P) jump hl3.1
        refine ⟨?_, turn hl3⟩
        rw [hrec] at this ⊢
        exact this
      rintro e a3 W3 hp
      cases e with
      | normal =>
        obtain ⟨hk3, hi3⟩ := hp
        obtain ⟨hr, hl4⟩ := fin none W3 hk3
        exact ⟨_, _, hr, .inl ⟨rfl, ⟨hI _ _ _ hi3 (Fx.putObj _ _ _ (.inr rfl)), hl4⟩, (hf2.trans (hk3.mono fun _ _ h => .inl h)).trans (Fx.putObj _ _ _ (.inr rfl))⟩⟩
      | ret =>
        obtain ⟨hk3, hi3⟩ := hp
        obtain ⟨hr, hl4⟩ := fin (some .ret) W3 hk3
        exact ⟨_, _, hr, .inr ⟨rfl, .ret, hIx _ _ _ _ hi3 (Fx.putObj _ _ _ (.inr rfl)), hl4⟩⟩
      | exit id =>
        obtain ⟨hk3, hi3⟩ := hp
        obtain ⟨hr, hl4⟩ := fin (some (.exit id)) W3 hk3
        exact ⟨_, _, hr, .inr ⟨rfl, .exit id, hIx _ _ _ _ hi3 (Fx.putObj _ _ _ (.inr rfl)), hl4⟩⟩
      | goto t =>
        obtain ⟨hk3, hi3⟩ := hp
        obtain ⟨hr, hl4⟩ := fin (some (.goto t)) W3 hk3
        exact ⟨_, _, hr, .inr ⟨rfl, .goto t, hIx _ _ _ _ hi3 (Fx.putObj _ _ _ (.inr rfl)), hl4⟩⟩
      | panic ch => exact hp.elim
      | outgrown => exact hp.elim
    · -- behind the iterator
      rintro e W2 ⟨⟨v, rfl⟩, (⟨xs, hS, hi, hl⟩ | ⟨pre, hSp, c, hi, hl⟩)⟩
      · exact ⟨none, _, by have := run_endLoop (P := P) hl.1 (by rw [hrec]; simp); rw [hrec] at this; exact this, hdone xs _ hS (hI _ _ _ hi (Fx.putObj _ _ _ (.inr rfl))) (turn hl).2⟩
      · exact ⟨some c, _, by have := run_endLoop (P := P) hl.1 (by rw [hrec]; simp); rw [hrec] at this; exact this, hstop c pre _ hSp (hIx c _ _ _ hi (Fx.putObj _ _ _ (.inr rfl))) (turn hl).2⟩
#print axioms range_law
end Go.Proofs.YtgacknphjeiojaaGreat

namespace Go.Proofs.YtgacknphjeiojaaGreat
open Go.RowKit
set_option linter.unusedVariables false

theorem range_law3 {α : Type} {n : Nat} {P : Program} {g : Operand} {ps : Array Tmp} {assign body : Code} {Q : Exit → Act → World → Prop} {a : Act} {w : World}
    {gf : Nat} {lb : Array Value} (hg : a.eval g = .func (.func gf) #[] lb) (eg : ∀ args w, (callFunc gf args).run P w = .ok (.enter gf args) w)
    (encs : α → Array Value) (hps : ∀ x, (encs x).size = ps.size) (G : List α → α → Prop) (Pv Bd : Nat → Prop) (hB0 : ¬ Bd w.heap.size) (hB1 : ¬ Bd (w.heap.size + 1)) (hP0 : ¬ Pv w.heap.size) (hP1 : ¬ Pv (w.heap.size + 1))
    (S Sp : List α → Prop) (I : List α → World → Prop) (Ix : Code → List α → World → Prop) (hI : Kept (fun k => Pv k ∨ k = w.heap.size + 1) I) (hIx : ∀ c, Kept (fun k => Pv k ∨ k = w.heap.size + 1) (Ix c))
    (h0 : I [] w) (A : α → World → World) (hA : ∀ x W, Fx No W (A x W)) (a₁ : α → World → Act)
    (hassign : ∀ (x : α) (W : World) (K : Act → World → Prop), K (a₁ x W) (A x W) →
      assign.wpIn (Fence.wide.inRound (w.heap.size + 1)) (n - 1 - 1) P (Exit.then K (fun _ _ _ => False)) { tmps := (ps.zip (encs x)).foldl (fun t (p, v) => t.setIfInBounds p v) a.tmps, defers := [] } W)
    (hbody : ∀ (pre : List α) (x : α) (W0 W : World), G pre x → I pre W → w.heap.size + 2 ≤ W0.heap.size → Fx (fun k => k = w.heap.size + 1) (A x W0) W → body.wpIn (Fence.wide.inRound (w.heap.size + 1)) (n - 1 - 1) P (rangeOut Bd I Ix (pre ++ [x]) W) (a₁ x W0) W)
    (hit : ∀ (W : World) (J Jx : List α → World → Prop), Fx No w W → W.heap.size = w.heap.size + 2 → Kept Pv J → Kept Pv Jx → RoundAt (n - 1 - 1) P (w.heap.size + 1) encs G Bd J Jx → J [] W →
      CallsIn Fence.wide (n - 1) P gf (#[.func (.yield (w.heap.size + 1)) #[] #[]] ++ lb) W fun e W' => (∃ v, e = .returned v) ∧ ((∃ xs, S xs ∧ J xs W') ∨ (∃ pre, Sp pre ∧ Jx pre W')))
    (hdone : ∀ (xs : List α) (W : World), S xs → I xs W → W.heap[w.heap.size]? = some (.deferred (some [])) → Q .normal { a with defers := { target := .collected w.heap.size, args := #[] } :: a.defers } W)
    (hstop : ∀ (c : Code) (pre : List α) (W : World), Sp pre → Ix c pre W → W.heap[w.heap.size]? = some (.deferred (some [])) → c.wpIn Fence.wide n P Q { a with defers := { target := .collected w.heap.size, args := #[] } :: a.defers } W) :
    (Code.rangeFunc g ps assign body).wpIn Fence.wide n P Q a w := by
  refine wpIn_rangeFunc fun fn hfn => ?_
  obtain ⟨rec, hrec⟩ : ∃ rec : LoopState → Option Code → Loop, rec = fun st pe => { state := st, pending := pe, fn, tmps := a.tmps, params := ps, assign, body, defers := w.heap.size } := ⟨_, rfl⟩
  obtain ⟨W1, hW1⟩ : ∃ W1, (w.alloc (.deferred (some []))).alloc (.loop (rec .ready none)) = W1 := ⟨_, rfl⟩
  have f1 : Fx No w W1 := by rw [← hW1]; exact ((Fx.refl No w).alloc _).alloc _
  have s1 : W1.heap.size = w.heap.size + 2 := by rw [← hW1]; simp
  have hL1 : W1.heap[w.heap.size + 1]? = some (.loop (rec .ready none)) := by
    rw [← hW1]; have := World.alloc_heap_new (w.alloc (.deferred (some []))) (.loop (rec .ready none)); rwa [World.size_alloc] at this
  have hK1 : W1.heap[w.heap.size]? = some (.deferred (some [])) := by
    rw [← hW1]; exact (Below.heap_alloc _ _ _ (by simp)).trans (World.alloc_heap_new w _)
  have hI1 : I [] W1 := hI _ _ _ h0 f1.no
  refine ⟨w.heap.size + 1, [{ target := .collected w.heap.size, args := #[] }], W1, { target := .fn (.func gf) lb, args := #[.func (.yield (w.heap.size + 1)) #[] #[]] }, W1, gf,
    #[.func (.yield (w.heap.size + 1)) #[] #[]] ++ lb, W1, ?_, ?_, fun f' _ => trivial, ?_, (fun h => by cases h), ?_⟩
  · rw [← hW1, hrec]; exact run_enterLoop_outer _ _ _ _ _
  · simp only [resolve, hg]
    simp [go_sem]
  · simp [invoke, go_sem, eg]
  · -- the two facts of book-keeping ride beside the caller's own
    have keep : ∀ {W W' : World} {T : Nat → Prop} {st : LoopState} {pe : Option Code}, ¬ T w.heap.size → ¬ T (w.heap.size + 1) → Fx T W W' →
        W.heap[w.heap.size + 1]? = some (.loop (rec st pe)) ∧ W.heap[w.heap.size]? = some (.deferred (some [])) →
        W'.heap[w.heap.size + 1]? = some (.loop (rec st pe)) ∧ W'.heap[w.heap.size]? = some (.deferred (some [])) :=
      fun h1 h2 hf h => ⟨hf.at_ h.1 h2, hf.at_ h.2 h1⟩
    have turn : ∀ {W : World} {r : Loop} {r' : Loop}, W.heap[w.heap.size + 1]? = some (.loop r) ∧ W.heap[w.heap.size]? = some (.deferred (some [])) →
        (W.putObj (w.heap.size + 1) (.loop r')).heap[w.heap.size + 1]? = some (.loop r') ∧ (W.putObj (w.heap.size + 1) (.loop r')).heap[w.heap.size]? = some (.deferred (some [])) :=
      fun h => ⟨World.putObj_heap_same (Array.getElem?_eq_some_iff.1 h.1).1, (World.putObj_heap_other (by omega)).trans h.2⟩
    refine (hit W1
      (fun pre W => I pre W ∧ W.heap[w.heap.size + 1]? = some (.loop (rec .ready none)) ∧ W.heap[w.heap.size]? = some (.deferred (some [])))
      (fun pre W => ∃ c, Ix c pre W ∧ W.heap[w.heap.size + 1]? = some (.loop (rec .done (some c))) ∧ W.heap[w.heap.size]? = some (.deferred (some [])))
      f1 s1
      (fun s A B hs hf => ⟨hI s A B hs.1 (hf.mono fun _ _ h => .inl h), keep hP0 hP1 hf hs.2⟩)
      (fun s A B hs hf => let ⟨c, hc, hl⟩ := hs; ⟨c, hIx c s A B hc (hf.mono fun _ _ h => .inl h), keep hP0 hP1 hf hl⟩)
      ?_ ⟨hI1, hL1, hK1⟩).mono ?_
    · -- one round
      rintro pre x W hG ⟨hi, hl⟩
      have hlt : w.heap.size + 1 < W.heap.size := (Array.getElem?_eq_some_iff.1 hl.1).1
      have hy := run_yield (P := P) (args := encs x) hl.1 (by rw [hrec]; exact hps x)
      rw [hrec] at hy
      have hlA := keep (T := No) (fun h => h) (fun h => h) (hA x W) hl
      refine ⟨fn, _, assign, body, hy, roundIn_of_wpIn hfn (hassign x W _ ⟨_, run_beginRound hlA.1 (by rw [hrec]), ?_⟩)⟩
      have hl2 := turn (r' := { rec .ready none with state := .busy }) hlA
      have hf1 : Fx (fun k => k = w.heap.size + 1) (A x W) ((A x W).putObj (w.heap.size + 1) (.loop { rec .ready none with state := .busy })) := Fx.putObj _ _ _ rfl
      have hf2 : Fx (fun k => Bd k ∨ k = w.heap.size + 1) W ((A x W).putObj (w.heap.size + 1) (.loop { rec .ready none with state := .busy })) := (hA x W).no.trans (hf1.mono fun _ _ e => .inr e)
      refine wpIn_mono (hbody pre x W _ hG (hI _ _ _ (hI _ _ _ hi (hA x W).no) (hf1.mono fun _ _ e => .inr e)) (by omega) hf1) ?_
      have fin : ∀ (jump : Option Code) (W3 : World), Fx Bd ((A x W).putObj (w.heap.size + 1) (.loop { rec .ready none with state := .busy })) W3 →
          (Instr.endRound (w.heap.size + 1) jump).run P W3 = .ok (.bool jump.isNone) (W3.putObj (w.heap.size + 1) (.loop (rec (if jump.isNone then .ready else .done) jump))) ∧
          ((W3.putObj (w.heap.size + 1) (.loop (rec (if jump.isNone then .ready else .done) jump))).heap[w.heap.size + 1]? = some (.loop (rec (if jump.isNone then .ready else .done) jump)) ∧
          (W3.putObj (w.heap.size + 1) (.loop (rec (if jump.isNone then .ready else .done) jump))).heap[w.heap.size]? = some (.deferred (some []))) := fun jump W3 hk3 => by
        have hl3 := keep (st := .busy) (pe := none) hB0 hB1 hk3 (by rw [hrec] at hl2 ⊢; exact hl2)
        have := run_endRound (P := P) jump hl3.1
        refine ⟨?_, turn hl3⟩
        rw [hrec] at this ⊢
        exact this
      rintro e a3 W3 hp
      cases e with
      | normal =>
        obtain ⟨hk3, hi3⟩ := hp
        obtain ⟨hr, hl4⟩ := fin none W3 hk3
        exact ⟨_, _, hr, .inl ⟨rfl, ⟨hI _ _ _ hi3 (Fx.putObj _ _ _ (.inr rfl)), hl4⟩, (hf2.trans (hk3.mono fun _ _ h => .inl h)).trans (Fx.putObj _ _ _ (.inr rfl))⟩⟩
      | ret =>
        obtain ⟨hk3, hi3⟩ := hp
        obtain ⟨hr, hl4⟩ := fin (some .ret) W3 hk3
        exact ⟨_, _, hr, .inr ⟨rfl, .ret, hIx _ _ _ _ hi3 (Fx.putObj _ _ _ (.inr rfl)), hl4⟩⟩
      | exit id =>
        obtain ⟨hk3, hi3⟩ := hp
        obtain ⟨hr, hl4⟩ := fin (some (.exit id)) W3 hk3
        exact ⟨_, _, hr, .inr ⟨rfl, .exit id, hIx _ _ _ _ hi3 (Fx.putObj _ _ _ (.inr rfl)), hl4⟩⟩
      | goto t =>
        obtain ⟨hk3, hi3⟩ := hp
        obtain ⟨hr, hl4⟩ := fin (some (.goto t)) W3 hk3
        exact ⟨_, _, hr, .inr ⟨rfl, .goto t, hIx _ _ _ _ hi3 (Fx.putObj _ _ _ (.inr rfl)), hl4⟩⟩
      | panic ch => exact hp.elim
      | outgrown => exact hp.elim
    · -- behind the iterator
      rintro e W2 ⟨⟨v, rfl⟩, (⟨xs, hS, hi, hl⟩ | ⟨pre, hSp, c, hi, hl⟩)⟩
      · exact ⟨none, _, by have := run_endLoop (P := P) hl.1 (by rw [hrec]; simp); rw [hrec] at this; exact this, hdone xs _ hS (hI _ _ _ hi (Fx.putObj _ _ _ (.inr rfl))) (turn hl).2⟩
      · exact ⟨some c, _, by have := run_endLoop (P := P) hl.1 (by rw [hrec]; simp); rw [hrec] at this; exact this, hstop c pre _ hSp (hIx c _ _ _ hi (Fx.putObj _ _ _ (.inr rfl))) (turn hl).2⟩
#print axioms range_law3
end Go.Proofs.YtgacknphjeiojaaGreat

namespace Go.Proofs.YtgacknphjeiojaaGreat
open Go.RowKit Go.Shelf
set_option linter.unusedVariables false
attribute [local go_sem] Oper.semAt_some

theorem ranges_fx {w w' : World} {S : Nat → Prop} {k : TypeId} {R : Value → Option (DataW Unit × List MemPlace)} {b r n : Nat} {D : DataW Unit} {left : Lit → Bool} {cnt : Nat} (h : w.ranges Tryz.prog k R b r n D left cnt) (hf : Fx S w w') (hb : ¬ S b) (hr : ¬ S r) : w'.ranges Tryz.prog k R b r n D left cnt := by
  obtain ⟨es, clock, since, seen, c0, h1, h2, h3, h4, h5, rest⟩ := h
  exact ⟨es, clock, since, seen, c0, hf.at_ h1 hb, h2, h3, h4, hf.at_ h5 hr, rest⟩
def encE (x : Ed) : Array Value := #[.agg #[.int .i64 x.f, .int .i64 x.t, .int .i64 x.l]]
section
variable {w w' : World} {D S E : Nat → Prop} {b n : Nat} {L : List Ed}
theorem keys_any (mb : Nat) (w : World) : Calls Tryz.prog 86 #[.map (some mb)] w fun e w' => e = .returned (.func (.func 99) #[] #[.pointer (some ⟨w.heap.size, 0, none⟩)]) ∧
      w' = w.alloc (.cells #[.map (some mb)] 77) := by
  go_enter Tryz.func86, Tryz.ntmps86
  go_wp2
  go_ret
  exact ⟨rfl, rfl⟩
set_option maxRecDepth 100000 in
set_option maxHeartbeats 2000000 in
theorem keys1_iter {m l cb mb : Nat} {Bd : Nat → Prop} {J Jx : List Ed → World → Prop} {W : World} (hc : W.cell? ⟨cb, 0, none⟩ = some (.map (some mb))) (hm : MapE W mb L) (hbm : ¬ Bd mb ∧ mb ≠ l) (hbr : ¬ Bd W.heap.size ∧ W.heap.size ≠ l)
    (hJ : Kept (fun k => k = W.heap.size) J) (hY : RoundAt (m - 1) Tryz.prog l encE (fun _ x => x ∈ L) Bd J Jx) (h0 : J [] W) :
    CallsIn Fence.wide m Tryz.prog 99 #[.func (.yield l) #[] #[], .pointer (some ⟨cb, 0, none⟩)] W fun e W' => (∃ v, e = .returned v) ∧
      ((∃ xs, (∀ x, x ∈ xs ↔ x ∈ L) ∧ J xs W') ∨ (∃ pre, pre ≠ [] ∧ Jx pre W')) := by
  obtain ⟨hok, DD, hown, hhas, hsz, hinv⟩ := hm
  have HOwn := Lib.hid hown
  have HHas := Lib.hid hhas
  have HOk := Lib.hid hok
  have HJ := Lib.hid hJ
  have HY := Lib.hid hY
  have HJ0 := Lib.hid h0
  have Hbm := Lib.hid hbm
  have Hbr := Lib.hid hbr
  clear hown hhas hok hsz hinv hJ hY h0 hbm hbr
  refine callsIn_of_wp Tryz.func99 rfl trivial ?_ rfl
  simp only [Tryz.ntmps99, List.size_toArray, List.length_cons, List.length_nil, Nat.reduceAdd, Nat.reduceSub, Array.replicate_succ, Array.replicate_zero, List.push_toArray, List.append_toArray, List.nil_append, List.cons_append]
  gi_wp2_with (first | (gi_at_range; refine wpListIn_range_own _ rfl _ 77 rfl 25 102 law_edge Tryz.underlying77 unitR mb L.length DD rfl HOwn.out ?_; intro w0 hrg0 hg0 hs0) | gi_in)
  go_frame
  obtain ⟨r, hr⟩ : ∃ r, r = W.heap.size := ⟨_, rfl⟩
  rw [← hr] at hrg0 Hbr HJ ⊢
  have HF0 : Hid (Fx No W w0) := Lib.hid (Fx.ofGrown hg0 fun k h _ => by cases h)
  have HRg0 := Lib.hid hrg0
  clear hrg0 hg0 hs0 hr
  gi_loopw [3] (fun _ ws => ∃ (left : Lit → Bool) (cnt : Nat) (pre : List Ed), ws.ranges Tryz.prog 25 unitR mb r L.length DD left cnt ∧ (∀ kl, left kl = true → Maps.has DD kl = true) ∧ (∀ x ∈ L, left (keyE x) = false → x ∈ pre) ∧ (∀ x ∈ pre, x ∈ L) ∧ J pre ws) (fun _ ws => ws.rangeLeft mb r)
  case atStart => exact ⟨_, _, [], HRg0.out, fun _ h => h, fun x hx h => (by rw [HHas.out x (HOk.out x hx), decide_eq_true hx] at h; cases h), fun x hx => (by simp at hx), HJ.out _ _ _ HJ0.out HF0.out.no⟩
  case round =>
    obtain ⟨left, cnt, pre, hrg, hle, hsub, hpl, hJp⟩ := hrel
    have HRg := Lib.hid hrg
    have HLe := Lib.hid hle
    have HSub := Lib.hid hsub
    have HPl := Lib.hid hpl
    have HJp := Lib.hid hJp
    clear hrg hle hsub hpl hJp
    gi_wp2_with (first | (gi_at_next; refine wpListIn_next_ranges _ rfl _ rfl 25 law_edge unitR evE (fun _ : Unit => Value.agg #[]) (fun key kl h => by obtain ⟨x, h1, _⟩ := key_inv h; exact ⟨x, h1⟩) (fun v y h => ⟨(), (unitElem_inv h).1⟩) mb r L.length DD left cnt rfl HRg.out ?_ ?_) | gi_in)
    · intro hc0 hl0
      have HAll : Hid (∀ x, x ∈ pre ↔ x ∈ L) := Lib.hid fun x => ⟨HPl.out x, fun hx => HSub.out x hx (hl0 _)⟩
      clear hl0
      gi_wp2
      go_end0
      exact ⟨⟨_, rfl⟩, .inl ⟨pre, HAll.out, HJp.out⟩⟩
    · intro x kl y1 y2 w1 cnt1 hkx hlx hy hat hrg1 hlt hg1 hs1 hen
      obtain ⟨x', hx', hokx⟩ := key_inv hkx
      obtain rfl : x = x' := by simp [evE] at hx'; exact Ed.ext' hx'.1 hx'.2.1 hx'.2.2
      obtain rfl : kl = keyE x := Option.some.inj (hkx.symm.trans (key_edge hokx))
      have hxL : x ∈ L := by
        have h1 := HLe.out _ hlx
        rw [HHas.out x hokx] at h1
        exact of_decide_eq_true h1
      have HF1 : Hid (Fx (fun j => j = r) wr w1) := Lib.hid (Fx.ofGrown hg1 fun k hk _ => by simpa using hk.symm)
      have HRg1 := Lib.hid hrg1
      have hms : w1.rangeLeft mb r < wr.rangeLeft mb r := by rw [HRg.out.left_eq, hrg1.left_eq]; exact hlt
      have HMs := Lib.hid hms
      have HXL := Lib.hid hxL
      have HLe2 : Hid (∀ kl, (left kl && !kl.sameKey (keyE x)) = true → Maps.has DD kl = true) := Lib.hid fun kl h => HLe.out kl (by simp at h; exact h.1)
      have HSub2 : Hid (∀ z ∈ L, (left (keyE z) && !(keyE z).sameKey (keyE x)) = false → z ∈ pre ++ [x]) := Lib.hid fun z hz h => by
        cases hlz : left (keyE z) with
        | false => exact List.mem_append_left _ (HSub.out z hz hlz)
        | true =>
          rw [hlz] at h
          by_cases hzx : keyE z = keyE x
          · rw [keyE_inj (HOk.out z hz) (HOk.out _ HXL.out) hzx]; simp
          · rw [Maps.sameKey_ne hzx] at h; simp at h
      have HPl2 : Hid (∀ z ∈ pre ++ [x], z ∈ L) := Lib.hid fun z hz => by
        rcases List.mem_append.1 hz with h | h
        · exact HPl.out z h
        · rw [List.mem_singleton] at h; rw [h]; exact HXL.out
      obtain ⟨x1, x2, x3⟩ := x
      unfold evE at hen ⊢
      simp only at hen ⊢
      have HJ1 : Hid (J pre (w1.alloc (.cells #[.int .i64 x1, .int .i64 x2, .int .i64 x3] 25))) := Lib.hid (HJ.out _ _ _ (HJ.out _ _ _ HJp.out HF1.out) ((Fx.refl No _).alloc _).no)
      have HRg2 := Lib.hid (HRg1.out.alloc (.cells #[.int .i64 x1, .int .i64 x2, .int .i64 x3] 25))
      obtain ⟨fn, tmps, assign, body, hy, hRd⟩ := HY.out pre ⟨x1, x2, x3⟩ _ HXL.out HJ1.out
      unfold encE at hy
      have HRd := Lib.hid hRd
      clear hx' hkx hlx hat hrg1 hlt hg1 hs1 hms hxL hRd hokx
      gi_wp2_with fail
      refine ⟨(fun h => by cases h), HRd.out.mono ?_⟩
      rintro e W3 (⟨rfl, hJ3, hk3⟩ | ⟨rfl, hJx3⟩)
      · have HJ3 := Lib.hid hJ3
        have HRg3 := Lib.hid (ranges_fx HRg2.out hk3 (by rintro (h | h); exact Hbm.out.1 h; exact Hbm.out.2 h) (by rintro (h | h); exact Hbr.out.1 h; exact Hbr.out.2 h))
        clear hk3 hJ3
        gi_wp2
        go_roundw
        case rel => exact ⟨_, cnt1, pre ++ [⟨x1, x2, x3⟩], HRg3.out, HLe2.out, HSub2.out, HPl2.out, HJ3.out⟩
        case measure => rw [HRg3.out.left_eq, ← HRg1.out.left_eq]; exact HMs.out
      · have HJx3 := Lib.hid hJx3
        clear hJx3
        gi_wp2
        refine bodyPost_ret (results_none rfl _ _ _) rfl ⟨⟨_, rfl⟩, .inr ⟨_, ?_, HJx3.out⟩⟩
        simp
set_option maxRecDepth 100000 in
theorem turned_any (x : Ed) (w : World) : Calls Tryz.prog 87 #[.agg #[.int .i64 x.f, .int .i64 x.t, .int .i64 x.l]] w fun e w' => e = .returned (.agg #[.int .i64 x.t, .int .i64 x.f, .int .i64 x.l]) ∧ Fx No w w' := by
  go_enter Tryz.func87, Tryz.ntmps87
  go_wp2
  refine bodyPost_ret (v := .agg #[.int .i64 x.t, .int .i64 x.f, .int .i64 x.l]) (by simp [results, Tryz.results87, go_sem]) rfl ⟨rfl, ((Fx.refl No w).alloc _).alloc _⟩
end
#print axioms keys1_iter
#print axioms turned_any
end Go.Proofs.YtgacknphjeiojaaGreat

namespace Go.Proofs.YtgacknphjeiojaaGreat
open Go.RowKit Go.Shelf
set_option linter.unusedVariables false
attribute [local go_sem] Oper.semAt_some

/-- between two rounds: what has been added -/
structure BackI (w : World) (hs bb b' n : Nat) (L : List Ed) (pre : List Ed) (W : World) : Prop where
  fx : Fx No w W
  g : ∃ D, GraphV W D b' n (addL [] (pre.map turnE)) ∧ ∀ j, D j → w.heap.size ≤ j ∧ (j < hs ∨ hs + 3 ≤ j) ∧ j ≠ bb
  box : W.cell? ⟨bb, 0, none⟩ = some (.pointer (some ⟨b', 0, none⟩))
  sub : ∀ x ∈ pre, x ∈ L
theorem BackI.fx' {w : World} {hs bb b' n : Nat} {L pre : List Ed} {A B : World} (h : BackI w hs bb b' n L pre A) {S : Nat → Prop} (hf : Fx S A B) (hS : ∀ j, S j → hs ≤ j ∧ j < hs + 3) (hb : bb < hs) (hw : w.heap.size ≤ hs) : BackI w hs bb b' n L pre B := by
  obtain ⟨D, h1, h2⟩ := h.g
  exact ⟨h.fx.trans' hf fun j h3 h4 => by have := hS j h3; omega, ⟨D, h1.keep hf fun j h3 h4 => by have := (h2 j h3).2.1; have := hS j h4; omega, h2⟩, hf.cell' h.box fun h3 => by have := hS _ h3; have h3 : hs ≤ bb := this.1; omega, h.sub⟩
theorem addL_len_le {L pre : List Ed} (hp : pre.Nodup) (hs : ∀ x ∈ pre, x ∈ L) (ha : Asc L) : (addL [] (pre.map turnE)).length ≤ L.length := by
  refine Nat.le_trans ?_ (backL_len L)
  refine asc_len (backL_asc L) (addL_asc Asc.nil _) fun x hx => ?_
  rw [mem_addL] at hx
  rw [mem_backL]
  rcases hx with hx | hx
  · simp at hx
  · obtain ⟨y, hy, rfl⟩ := List.mem_map.1 hx
    exact hs y hy
theorem addL_len_sub {L pre : List Ed} (hs : ∀ x ∈ pre, x ∈ L) : (addL [] (pre.map turnE)).length ≤ L.length := by
  refine Nat.le_trans ?_ (backL_len L)
  refine asc_len (backL_asc L) (addL_asc Asc.nil _) fun x hx => ?_
  rw [mem_addL] at hx
  rw [mem_backL]
  rcases hx with hx | hx
  · simp at hx
  · obtain ⟨y, hy, rfl⟩ := List.mem_map.1 hx
    exact hs y hy
theorem backL_all {L xs : List Ed} (h : ∀ x, x ∈ xs ↔ x ∈ L) : addL [] (xs.map turnE) = backL L :=
  Asc.same (addL_asc Asc.nil _) (backL_asc L) fun x => by
    rw [mem_addL, mem_backL, List.mem_map]
    constructor
    · rintro (h1 | ⟨y, hy, rfl⟩)
      · simp at h1
      · exact (h y).1 hy
    · intro h1; exact .inr ⟨_, (h _).2 h1, rfl⟩
section
variable {w w' : World} {D : Nat → Prop} {b n : Nat} {L : List Ed}
set_option maxRecDepth 100000 in
set_option maxHeartbeats 4000000 in
theorem gBack_any (h : GraphV w D b n L) (hl : L.length ≤ 999999) : Calls Tryz.prog 68 #[.pointer (some ⟨b, 0, none⟩)] w fun e w' => ∃ b', e = .returned (.pointer (some ⟨b', 0, none⟩)) ∧ Fx No w w' ∧ ∃ D', GraphV w' D' b' n (backL L) ∧ ∀ x, D' x → w.heap.size ≤ x := by
  have H := Lib.hid h
  obtain ⟨ob, ib, mb, DO, DI, hp⟩ := h.ex
  have HP := Lib.hid hp
  have HAs := Lib.hid h.asc
  have HNd := Lib.hid h.nodes
  have HOkL := Lib.hid hp.map.ok
  have hnn := h.nn
  have hmix : Tryz.prog.follows .mixedOrders = true := by kernel_rfl
  clear h hp
  refine (callsIn_wide (n := 6)).1 ?_
  refine callsIn_of_wp_marks Tryz.func68 rfl trivial ?_ rfl
  simp only [Tryz.ntmps68, List.size_toArray, List.length_cons, List.length_nil, Nat.reduceAdd, Nat.reduceSub, Array.replicate_succ, Array.replicate_zero, List.push_toArray, List.append_toArray, List.nil_append, List.cons_append]
  gi_wp2_with fail
  refine ⟨trivial, (callsIn_wide.2 (gLen_any H.out)).mono ?_⟩
  rintro e w' ⟨rfl, rfl⟩
  gi_wp2_with fail
  refine ⟨trivial, (callsIn_wide.2 (gMade_any n _ hnn)).mono ?_⟩
  rintro e w1 ⟨b', rfl, hf, hg⟩
  have c2 := hf.cell' HP.out.c2 (fun h => h)
  have hlt2 := World.block_lt_of_cell? w1 _ c2
  have hlt2 : b < w1.heap.size := hlt2
  have HF1 := Lib.hid hf
  have HG1 := Lib.hid hg
  clear hf hg
  gi_wp2_with fail
  refine ⟨trivial, (callsIn_wide.2 (keys_any mb _)).mono ?_⟩
  rintro e w' ⟨rfl, rfl⟩
  simp only [World.size_alloc]
  obtain ⟨wq, hwq⟩ : ∃ wq, (w1.alloc (.cells #[.pointer (some ⟨b', 0, none⟩)] 31)).alloc (.cells #[.map (some mb)] 77) = wq := ⟨_, rfl⟩
  have hsq : wq.heap.size = w1.heap.size + 2 := by rw [← hwq]; simp
  have hfq : Fx No w1 wq := by rw [← hwq]; exact ((Fx.refl No w1).alloc _).alloc _
  have q0 : wq.cell? ⟨w1.heap.size, 0, none⟩ = some (.pointer (some ⟨b', 0, none⟩)) := by rw [← hwq]; clear hwq hfq hsq; go_simp
  have q1 : wq.cell? ⟨w1.heap.size + 1, 0, none⟩ = some (.map (some mb)) := by rw [← hwq]; clear hwq hfq hsq; go_simp
  rw [hwq]
  clear hwq
  have HFq := Lib.hid hfq
  have HQ1 := Lib.hid q1
  have hw1 := HF1.out.size
  have HMb : Hid (MapE wq mb L) := Lib.hid ((HP.out.map.no HF1.out).no hfq)
  have hmlt : mb < w.heap.size := HP.out.map.lt
  have hI0 : BackI w wq.heap.size w1.heap.size b' n L [] wq := by
    refine ⟨HF1.out.trans hfq, ⟨_, HG1.out.no hfq, fun j hj => ⟨hj.1, .inl (by have := hj.2; omega), by have := hj.2; omega⟩⟩, q0, by simp⟩
  have HI0 := Lib.hid hI0
  obtain ⟨hs, hhs⟩ : ∃ s, s = wq.heap.size := ⟨_, rfl⟩
  clear hfq hI0 c2 hlt2 q1
  gi_wp2_with fail
  refine range_law3 (gf := 99) (lb := #[.pointer (some ⟨w1.heap.size + 1, 0, none⟩)]) rfl (enters_of Tryz.func99 (by kernel_rfl) rfl)
    encE (fun _ => rfl) (fun _ x => x ∈ L) (fun k => k = hs + 2) (fun k => w.heap.size ≤ k ∧ (k < hs ∨ hs + 3 ≤ k) ∧ k ≠ w1.heap.size) (by omega) (by omega) (by omega) (by omega)
    (fun xs => ∀ x, x ∈ xs ↔ x ∈ L) (fun pre => pre ≠ [])
    (fun pre W => BackI w hs w1.heap.size b' n L pre W) (fun _ _ _ => False) ?kI ?kX (by rw [hhs]; exact HI0.out)
    (fun x W => W.alloc (.cells #[.int .i64 x.f, .int .i64 x.t, .int .i64 x.l] 25)) (fun x W => (Fx.refl No W).alloc _) ?a1 ?assign ?body ?hit ?done ?stop
  case assign =>
    intro x W K hK
    unfold encE
    gi_wp2
    exact hK
  case kI =>
    intro s A B h1 hf
    exact h1.fx' hf (fun j h2 => by rcases h2 with h2 | h2 <;> omega) (by omega) (by omega)
  case kX => intro c s A B h1 _; exact h1
  case stop => intro c pre W _ h1; exact h1.elim
  case hit =>
    intro W J Jx hf hsz hJ hJx hR hJ0
    refine (keys1_iter (hf.cell' HQ1.out (fun h => h)) (HMb.out.no hf) ⟨by omega, by omega⟩ ⟨by omega, by omega⟩ (fun s A B h1 h2 => hJ s A B h1 (h2.mono fun k _ e => by have e : k = W.heap.size := e; show k = hs + 2; omega)) hR hJ0)
  case done =>
    intro xs W hx hI hK
    have HX := Lib.hid (backL_all hx)
    have HI := Lib.hid hI
    have HK := Lib.hid hK
    have c0 := hI.box
    clear hx hI hK
    gi_wp2
    refine ⟨by simp, .inl ⟨_, _, rfl, run_takeDeferred HK.out, ?_⟩⟩
    have hp := Fx.putObj (S := fun k => k = wq.heap.size) W wq.heap.size (.deferred none) rfl
    refine ⟨.pointer (some ⟨b', 0, none⟩), by simp [results, Tryz.results68, go_sem], ?_⟩
    have hI2 := HI.out.fx' hp (fun j h2 => by have h2 : j = wq.heap.size := h2; omega) (by omega) (by omega)
    obtain ⟨D', h1, h2⟩ := hI2.g
    exact ⟨b', rfl, hI2.fx, D', by rw [← HX.out]; exact h1, fun x hx => (h2 x hx).1⟩
  case body =>
    intro pre x W0 W hxL hI hsz0 hfA
    have hzW := hfA.size
    rw [World.size_alloc] at hzW
    have e0 := hfA.cell' (a := ⟨W0.heap.size, 0, none⟩) (v := .int .i64 x.f) (by simp) (by simp; omega)
    have e1 := hfA.cell' (a := ⟨W0.heap.size, 1, none⟩) (v := .int .i64 x.t) (by simp) (by simp; omega)
    have e2 := hfA.cell' (a := ⟨W0.heap.size, 2, none⟩) (v := .int .i64 x.l) (by simp) (by simp; omega)
    have c0 := hI.box
    have HI := Lib.hid hI
    have HXL := Lib.hid hxL
    obtain ⟨D1, hg1, hD1⟩ := hI.g
    have HG := Lib.hid hg1
    have HD1 := Lib.hid hD1
    have HSb : Hid (∀ y ∈ pre ++ [x], y ∈ L) := Lib.hid fun y hy => by
      rcases List.mem_append.1 hy with h | h
      · exact HI.out.sub y h
      · rw [List.mem_singleton] at h; rw [h]; exact HXL.out
    have CG : Hid (∀ W2, Fx No W W2 → Calls Tryz.prog 37 #[.pointer (some ⟨b', 0, none⟩), .slice (some ⟨W2.heap.size, 0, none⟩) 1 1] (W2.alloc (.cells #[.int .i64 x.t, .int .i64 x.f, .int .i64 x.l] 25)) fun r w' => (∃ v, r = .returned v) ∧
        Hid (Fx (fun k => w.heap.size ≤ k ∧ (k < hs ∨ hs + 3 ≤ k) ∧ k ≠ w1.heap.size) W w' ∧ BackI w hs w1.heap.size b' n L (pre ++ [x]) w')) := Lib.hid fun W2 hf2 => by
      have hz2 := hf2.size
      have hA : Fx No W2 (W2.alloc (.cells #[.int .i64 x.t, .int .i64 x.f, .int .i64 x.l] 25)) := (Fx.refl No W2).alloc _
      have hlit : EdsV (W2.alloc (.cells #[.int .i64 x.t, .int .i64 x.f, .int .i64 x.l] 25)) (Iv W2.heap.size (W2.heap.size + 1)) (.slice (some ⟨W2.heap.size, 0, none⟩) 1 1) [turnE x] := EdsV.lit [turnE x] (by simp)
      have hnd := HNd.out x HXL.out
      have hokx := HOkL.out x HXL.out
      have hlen := addL_len_sub HI.out.sub
      refine (gAdd_any ((HG.out.no hf2).no hA) hlit (fun k h1 h2 => by have h3 := HG.out.lt k h2; have := h1.1; omega) (fun y hy => by rw [List.mem_singleton] at hy; rw [hy]; exact ⟨hokx.t, hokx.f, hokx.l⟩) (good_mk fun y hy => by rw [List.mem_singleton] at hy; rw [hy]; exact ⟨hnd.2, hnd.1⟩) (by simp; omega)).mono ?_
      rintro e w' ⟨rfl, hfD, hgD⟩
      refine ⟨⟨_, rfl⟩, Lib.hid ⟨?_, ?_⟩⟩
      · refine ((hf2.trans hA).no.trans (hfD.mono fun k _ hk => ?_))
        have := HD1.out k hk
        exact this
      · have hgD' : GraphV w' (DU D1 (W2.alloc (.cells #[.int .i64 x.t, .int .i64 x.f, .int .i64 x.l] 25)) w') b' n (addL [] ((pre ++ [x]).map turnE)) := by
          rw [List.map_append, List.map_singleton, addL_snoc]
          exact hgD
        refine ⟨?_, ⟨_, hgD', ?_⟩, ?_, HSb.out⟩
        · exact ((HI.out.fx.trans hf2).trans hA).trans' hfD fun j h1 h2 => by have := (HD1.out j h1).1; omega
        · rintro j (h1 | h1)
          · exact HD1.out j h1
          · have h2 := h1.1
            rw [World.size_alloc] at h2
            exact ⟨by omega, .inr (by omega), by omega⟩
        · refine hfD.cell' (hA.cell' (hf2.cell' HI.out.box (fun h => h)) (fun h => h)) fun h1 => (HD1.out _ h1).2.2 rfl
    obtain ⟨xf, xt, xl⟩ := x
    simp only at e0 e1 e2 CG
    clear hI hg1 hD1 hxL hfA
    gi_wp2_with fail
    refine wpIn_region_any (by assumption) ?_
    change wpAnyIn _ _ _ _ _ _ _ _ _ (World.drew _)
    refine wpAnyIn_ready (rs := [0, 1]) (by kernel_rfl) (by simp) ?_
    refine AllReadyIn.cons rfl (fun K hK => ?_) ?_
    · go_simp
      refine hK _ _ ?_
      clear hK K
      refine wpAnyIn_ready (rs := [1]) (by kernel_rfl) (by simp) ?_
      refine AllReadyIn.cons rfl (fun K hK => ?_) ?_
      · go_simp
        refine hK _ _ ?_
        clear hK K
        refine wpAnyIn_ready (rs := [2]) (by kernel_rfl) (by simp) ?_
        refine AllReadyIn.cons rfl (fun K hK => ?_) ?_
        · go_simp
          refine ⟨trivial, CallsIn.inRound _ ((callsIn_wide.2 (turned_any ⟨xf, xt, xl⟩ _)).mono ?_)⟩
          rintro e w' ⟨rfl, hfi⟩
          have c0 := ((Fx.refl No W).drew.trans hfi).cell' c0 (fun h => h)
          have hlt : w1.heap.size < w'.heap.size := World.block_lt_of_cell? _ _ c0
          refine hK _ _ ?_
          clear hK K
          refine wpAnyIn_ready (rs := [3]) (by kernel_rfl) (by simp) ?_
          refine AllReadyIn.cons rfl (fun K hK => ?_) ?_
          · go_simp
            refine hK _ _ ?_
            clear hK K
            refine wpAnyIn_ready (rs := [4]) (by kernel_rfl) (by simp) ?_
            refine AllReadyIn.cons rfl (fun K hK => ?_) ?_
            · go_simp
              refine ⟨trivial, CallsIn.inRound _ ((callsIn_wide.2 (CG.out _ ((Fx.refl No W).drew.trans hfi))).mono ?_)⟩
              rintro e w'' ⟨⟨v, rfl⟩, HR⟩
              refine hK _ _ ?_
              clear hK K
              refine wpAnyIn_done (by kernel_rfl) ?_ _
              exact HR.out
            exact AllReadyIn.nil
          exact AllReadyIn.nil
        exact AllReadyIn.nil
      exact AllReadyIn.nil
    refine AllReadyIn.cons rfl (fun K hK => ?_) ?_
    · go_simp
      refine hK _ _ ?_
      clear hK K
      refine wpAnyIn_ready (rs := [0, 2]) (by kernel_rfl) (by simp) ?_
      refine AllReadyIn.cons rfl (fun K hK => ?_) ?_
      · go_simp
        refine hK _ _ ?_
        clear hK K
        refine wpAnyIn_ready (rs := [2]) (by kernel_rfl) (by simp) ?_
        refine AllReadyIn.cons rfl (fun K hK => ?_) ?_
        · go_simp
          refine ⟨trivial, CallsIn.inRound _ ((callsIn_wide.2 (turned_any ⟨xf, xt, xl⟩ _)).mono ?_)⟩
          rintro e w' ⟨rfl, hfi⟩
          have c0 := ((Fx.refl No W).drew.trans hfi).cell' c0 (fun h => h)
          have hlt : w1.heap.size < w'.heap.size := World.block_lt_of_cell? _ _ c0
          refine hK _ _ ?_
          clear hK K
          refine wpAnyIn_ready (rs := [3]) (by kernel_rfl) (by simp) ?_
          refine AllReadyIn.cons rfl (fun K hK => ?_) ?_
          · go_simp
            refine hK _ _ ?_
            clear hK K
            refine wpAnyIn_ready (rs := [4]) (by kernel_rfl) (by simp) ?_
            refine AllReadyIn.cons rfl (fun K hK => ?_) ?_
            · go_simp
              refine ⟨trivial, CallsIn.inRound _ ((callsIn_wide.2 (CG.out _ ((Fx.refl No W).drew.trans hfi))).mono ?_)⟩
              rintro e w'' ⟨⟨v, rfl⟩, HR⟩
              refine hK _ _ ?_
              clear hK K
              refine wpAnyIn_done (by kernel_rfl) ?_ _
              exact HR.out
            exact AllReadyIn.nil
          exact AllReadyIn.nil
        exact AllReadyIn.nil
      refine AllReadyIn.cons rfl (fun K hK => ?_) ?_
      · go_simp
        refine ⟨trivial, CallsIn.inRound _ ((callsIn_wide.2 (turned_any ⟨xf, xt, xl⟩ _)).mono ?_)⟩
        rintro e w' ⟨rfl, hfi⟩
        have c0 := ((Fx.refl No W).drew.trans hfi).cell' c0 (fun h => h)
        have hlt : w1.heap.size < w'.heap.size := World.block_lt_of_cell? _ _ c0
        refine hK _ _ ?_
        clear hK K
        refine wpAnyIn_ready (rs := [0, 3]) (by kernel_rfl) (by simp) ?_
        refine AllReadyIn.cons rfl (fun K hK => ?_) ?_
        · go_simp
          refine hK _ _ ?_
          clear hK K
          refine wpAnyIn_ready (rs := [3]) (by kernel_rfl) (by simp) ?_
          refine AllReadyIn.cons rfl (fun K hK => ?_) ?_
          · go_simp
            refine hK _ _ ?_
            clear hK K
            refine wpAnyIn_ready (rs := [4]) (by kernel_rfl) (by simp) ?_
            refine AllReadyIn.cons rfl (fun K hK => ?_) ?_
            · go_simp
              refine ⟨trivial, CallsIn.inRound _ ((callsIn_wide.2 (CG.out _ ((Fx.refl No W).drew.trans hfi))).mono ?_)⟩
              rintro e w'' ⟨⟨v, rfl⟩, HR⟩
              refine hK _ _ ?_
              clear hK K
              refine wpAnyIn_done (by kernel_rfl) ?_ _
              exact HR.out
            exact AllReadyIn.nil
          exact AllReadyIn.nil
        refine AllReadyIn.cons rfl (fun K hK => ?_) ?_
        · go_simp
          refine hK _ _ ?_
          clear hK K
          refine wpAnyIn_ready (rs := [0]) (by kernel_rfl) (by simp) ?_
          refine AllReadyIn.cons rfl (fun K hK => ?_) ?_
          · go_simp
            refine hK _ _ ?_
            clear hK K
            refine wpAnyIn_ready (rs := [4]) (by kernel_rfl) (by simp) ?_
            refine AllReadyIn.cons rfl (fun K hK => ?_) ?_
            · go_simp
              refine ⟨trivial, CallsIn.inRound _ ((callsIn_wide.2 (CG.out _ ((Fx.refl No W).drew.trans hfi))).mono ?_)⟩
              rintro e w'' ⟨⟨v, rfl⟩, HR⟩
              refine hK _ _ ?_
              clear hK K
              refine wpAnyIn_done (by kernel_rfl) ?_ _
              exact HR.out
            exact AllReadyIn.nil
          exact AllReadyIn.nil
        exact AllReadyIn.nil
      exact AllReadyIn.nil
    exact AllReadyIn.nil
end
#print axioms gBack_any
end Go.Proofs.YtgacknphjeiojaaGreat
