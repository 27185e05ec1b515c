/- A graph that is drawn, and the reference's. -/
import Derived.Test.YteafkafkbipcmaaM6
import Derived.Test.YteafkafkbipcmaaM5

namespace Go.Proofs.Yteafkafkbipcmaa
open Go.RowKit
set_option linter.unusedVariables false

theorem put_three (W : World) {qb : Nat} {a b c : Value} (x y z : Value) (q0 : W.cell? ⟨qb, 0, none⟩ = some a) (q1 : W.cell? ⟨qb, 1, none⟩ = some b) (q2 : W.cell? ⟨qb, 2, none⟩ = some c) :
    (((W.setCell ⟨qb, 0, none⟩ x).setCell ⟨qb, 1, none⟩ y).setCell ⟨qb, 2, none⟩ z).cell? ⟨qb, 0, none⟩ = some x ∧ (((W.setCell ⟨qb, 0, none⟩ x).setCell ⟨qb, 1, none⟩ y).setCell ⟨qb, 2, none⟩ z).cell? ⟨qb, 1, none⟩ = some y ∧
    (((W.setCell ⟨qb, 0, none⟩ x).setCell ⟨qb, 1, none⟩ y).setCell ⟨qb, 2, none⟩ z).cell? ⟨qb, 2, none⟩ = some z := by
  have ne : ∀ i j : Nat, i ≠ j → (⟨qb, i, none⟩ : Addr) ≠ ⟨qb, j, none⟩ := fun i j h e => by injection e; omega
  obtain ⟨g1, g2, _, _⟩ := put_two W x y q0 q1
  refine ⟨?_, ?_, ?_⟩
  · rw [World.cell?_setCell_other _ _ _ _ (ne 2 0 (by omega))]; exact g1
  · rw [World.cell?_setCell_other _ _ _ _ (ne 2 1 (by omega))]; exact g2
  · refine World.cell?_setCell_same _ _ _ (?_ : _ = some c)
    rw [World.cell?_setCell_other _ _ _ _ (ne 1 2 (by omega)), World.cell?_setCell_other _ _ _ _ (ne 0 2 (by omega))]; exact q2
theorem Fx.setCells3 {S : Nat → Prop} {w w1 : World} {b : Nat} (h : Fx S w w1) (x y z : Value) (hb : w.heap.size ≤ b) : Fx S w (((w1.setCell ⟨b, 0, none⟩ x).setCell ⟨b, 1, none⟩ y).setCell ⟨b, 2, none⟩ z) :=
  ((h.setCell (.inl hb) _).setCell (.inl hb) _).setCell (.inl hb) _
/-- a graph and its reference -/
structure Drw (w ws : World) (b N : Nat) (L : List Ed) (rv : Value) (D R : Nat → Prop) : Prop where
  fx : Fx No w ws
  g : GraphV ws D b N L
  row : EdsV ws R rv L
  lo : ∀ j, D j → w.heap.size ≤ j
  rlo : ∀ j, R j → w.heap.size ≤ j
  ap : ∀ j, R j → ¬ D j
  rlt : ∀ j, R j → j < ws.heap.size
theorem PG.step2 {w0 ws wx wy wz : World} {b rb N : Nat} {L L' : List Ed} {rv rv' : Value} {D E E' : Nat → Prop} (h : PG w0 ws b rb N L rv D E) (hx : Fx No ws wx) (hy : Fx D wx wy) (hg : GraphV wy (DU D wx wy) b N L')
    (hz : Fx No wy wz) (hr : EdsV wz E' rv' L') (hE : ∀ k, E' k → (E k ∨ wy.heap.size ≤ k) ∧ k < wz.heap.size) :
    PG w0 ((wz.setCell ⟨rb, 0, none⟩ (.int .i64 (N : Nat))).setCell ⟨rb, 1, none⟩ rv') b rb N L' rv' (DU D wx wy) E' := by
  have h1 := h.no hx
  have r0 := hz.cellF (hy.cellF h1.r0.1 h1.r0.2 h1.rD.1).1 (hy.cellF h1.r0.1 h1.r0.2 h1.rD.1).2 (fun h => h)
  have r1 := hz.cellF (hy.cellF h1.r1.1 h1.r1.2 h1.rD.1).1 (hy.cellF h1.r1.1 h1.r1.2 h1.rD.1).2 (fun h => h)
  obtain ⟨g1, g2, g3, g4⟩ := put_two wz (qb := rb) (.int .i64 (N : Nat)) rv' r0.1 r1.1
  have hsx := h1.fx.size
  have hsy := hy.size
  have hsz := hz.size
  have hrl : rb < wx.heap.size := World.block_lt_of_cell? wx _ h1.r0.1
  have nr : ∀ j, DU D wx wy j → ¬ j = rb := fun j hj e => by
    rcases hj with hj | hj
    · exact h1.rD.1 (e ▸ hj)
    · have := hj.1; omega
  have ap : ∀ j, E' j → ¬ DU D wx wy j ∧ j ≠ rb := fun j hj => by
    rcases (hE j hj).1 with h2 | h2
    · have h3 := h1.ap j h2
      have h4 := h1.eb j h2
      refine ⟨?_, h3.2⟩
      rintro (h5 | h5)
      · exact h3.1 h5
      · have := h5.1; omega
    · refine ⟨?_, by omega⟩
      rintro (h5 | h5)
      · have := h1.g.lt j h5; omega
      · have := h5.2; omega
  refine ⟨?_, (hg.no hz).keep g3 nr, ?_, ⟨g1, by simpa using r0.2⟩, ⟨g2, by simpa using r1.2⟩, hr.keep g3 fun j hj => (ap j hj).2, ap, fun j hj => by rw [g4]; exact (hE j hj).2, ⟨?_, h1.rD.2⟩⟩
  · refine Fx.trans' (Fx.trans' h1.fx (hy.trans (hz.no)) fun j h2 h3 => ?_) g3 fun j h2 h3 => ?_
    · have := h1.lo j h2; omega
    · have h2 : j = rb := h2
      have := h1.rD.2; omega
  · rintro j (h2 | h2)
    · exact h1.lo j h2
    · have := h2.1; omega
  · exact fun h2 => nr rb h2 rfl
structure D9I (w2 : World) (R : Nat → Prop) (ro : Option Addr) (rc N : Nat) (Lg L2 : List Ed) (ed : Ed) (cnt : Nat) (code : Int) (Fin : World → Prop) (L : Nat → Bool) (x : Nat → Value) (w : World) : Prop where
  base : True
  fS : L 9 = false → (Fx No w2 w)
  f0 : L 0 = true → (x 0 = .agg #[.int .i64 (N : Nat), .slice ro Lg.length rc])
  f1 : L 1 = true → (x 1 = .agg #[.int .i64 ed.f, .int .i64 ed.t, .int .i64 ed.l])
  f2 : L 2 = true → L 3 = false → (∃ q : Nat, x 2 = .slice (some ⟨q, 0, none⟩) 1 1 ∧ EdsV w (fun _ => True) (.slice (some ⟨q, 0, none⟩) 1 1) [ed])
  f3 : L 3 = true → L 4 = false → (∃ E : Nat → Prop, EdsV w E (x 3) [ed])
  f4 : L 4 = true → L 9 = false → (∃ so sc, x 4 = .tuple #[.agg #[.int .i64 (N : Nat), .slice so L2.length sc], .int .i64 (cnt : Nat), .int .i64 code] ∧ EdsV w (fun k => (R k ∨ w2.heap.size ≤ k) ∧ k < w.heap.size) (.slice so L2.length sc) L2)
  f4e : L 4 = true → (∃ so sc, x 4 = .tuple #[.agg #[.int .i64 (N : Nat), .slice so L2.length sc], .int .i64 (cnt : Nat), .int .i64 code])
  f5 : L 5 = true → (x 5 = x 4)
  f6 : L 6 = true → (∃ so sc, x 4 = .tuple #[.agg #[.int .i64 (N : Nat), .slice so L2.length sc], .int .i64 (cnt : Nat), .int .i64 code] ∧ x 6 = .agg #[.int .i64 (N : Nat), .slice so L2.length sc])
  f9 : L 9 = true → (Fin w)
theorem pq_hold {Q : Exit → Act → World → Prop} {e : Exit} {a : Act} {W : World} (R : World → Prop) (hR : R W) (h : ∀ W', R W' → Q e a W') : Q e a W := h W hR
section
variable {w w' : World} {E : Nat → Prop} {l : List Ed} {v : Value}
set_option maxRecDepth 100000 in
set_option maxHeartbeats 4000000 in
theorem drawn_any (h : EdsV w E v l) (hok : ∀ x ∈ l, x.ok) (hl : l.length ≤ 1000) (n : Int) (most : Nat) (hmost : most ≤ 1000) : Calls Try.prog 9 #[.int .i64 n, .int .i64 (most : Nat), v] w fun e w' =>
    ∃ (b N : Nat) (L : List Ed) (rv : Value) (D R : Nat → Prop), e = .returned (.tuple #[.pointer (some ⟨b, 0, none⟩), .agg #[.int .i64 (N : Nat), rv]]) ∧ Drw w w' b N L rv D R ∧ N ≤ most ∧ L.length ≤ l.length := by
  obtain ⟨ao, cap, rfl, hcl, hcm, hc⟩ := EdsV.facts h
  have HC := Lib.hid hc
  have HOK := Lib.hid hok
  obtain ⟨r, hr⟩ : ∃ r, n.tmod ((most : Int) + 1) = r := ⟨_, rfl⟩
  have l1 : r < (most : Int) + 1 := by rw [← hr]; exact Int.tmod_lt_of_pos n (by omega)
  have l2 : -((most : Int) + 1) < r := by rw [← hr]; exact Int.lt_tmod_of_pos n (by omega)
  obtain ⟨N, hN, hNm⟩ : ∃ N : Nat, (r + (most : Int) + 1).tmod ((most : Int) + 1) = (N : Int) ∧ N ≤ most := by
    have h1 : (r + (most : Int) + 1).tmod ((most : Int) + 1) < (most : Int) + 1 := Int.tmod_lt_of_pos _ (by omega)
    have h2 : 0 ≤ (r + (most : Int) + 1).tmod ((most : Int) + 1) := Int.tmod_nonneg _ (by omega)
    exact ⟨((r + (most : Int) + 1).tmod ((most : Int) + 1)).toNat, by omega, by omega⟩
  have hm0 : (most : Int) + 1 ≠ 0 := by omega
  clear h hc hok
  go_enter Try.func9, Try.ntmps9
  go_wp2_with fail
  refine calls_hold (fun W => Fx No w W ∧ W.heap.size = w.heap.size + 1 ∧ (W.cell? ⟨w.heap.size, 0, none⟩ = some (.int .i64 0) ∧ W.frozen? ⟨w.heap.size, 0, none⟩ = false) ∧ (W.cell? ⟨w.heap.size, 1, none⟩ = some (.slice none 0 0) ∧ W.frozen? ⟨w.heap.size, 1, none⟩ = false))
    ⟨(Fx.refl No _).alloc (.cells #[.int .i64 0, .slice none 0 0] 27), by simp, ⟨by go_simp, by go_simp⟩, ⟨by go_simp, by go_simp⟩⟩ ?_
  rintro wq ⟨hfq, hzq, q0, q1⟩
  refine (gNew_any N _ (by omega)).mono ?_
  rintro e w1 ⟨b, rfl, hf, hg⟩
  obtain ⟨qb, hqb⟩ : ∃ q, q = w.heap.size := ⟨_, rfl⟩
  rw [← hqb] at q0 q1 ⊢
  have HFq := Lib.hid hfq
  have HQ0 := Lib.hid q0
  have HQ1 := Lib.hid q1
  have HQb : Hid (qb = w.heap.size) := Lib.hid hqb
  have HZq : Hid (wq.heap.size = w.heap.size + 1) := Lib.hid hzq
  have HF1 := Lib.hid hf
  have HG1 := Lib.hid hg
  clear hfq q0 q1 hqb hzq hf hg hr hN l1 l2 hm0
  go_wp2_with fail
  refine wp_hold (fun W => PG wq W b w1.heap.size N [] (.slice none 0 0) (Iv wq.heap.size w1.heap.size) No) ?_ ?_
  · have z1 := HF1.out.size
    refine ⟨HF1.out.alloc _, HG1.out.no ((Fx.refl No _).alloc _), fun j hj => hj.1, ⟨by simp, by simp⟩, ⟨by simp, by simp⟩, RowV.nil _ _, fun j hj => hj.elim, fun j hj => hj.elim, ⟨fun hj => ?_, by omega⟩⟩
    have := hj.2
    omega
  rintro W0 hP
  obtain ⟨rb, hrb⟩ : ∃ r, r = w1.heap.size := ⟨_, rfl⟩
  rw [← hrb] at hP ⊢
  have HP0 := Lib.hid hP
  clear hP hrb
  go_loopw [11, 12] (fun i _ ws => ∃ (k : Nat) (L : List Ed) (rv : Value) (D R : Nat → Prop), i = .int .i64 k ∧ k ≤ l.length ∧ L.length ≤ k ∧ PG wq ws b rb N L rv D R ∧ ∀ j, R j → wq.heap.size ≤ j) (fun i _ _ => l.length - (intOf i).toNat)
  case atStart => exact ⟨0, [], _, _, _, rfl, Nat.zero_le _, Nat.le_refl _, HP0.out, fun j hj => hj.elim⟩
  case round =>
    obtain ⟨k, L, rv, D, R, rfl, hk, hL, hP, hRl⟩ := hrel
    have HRl := Lib.hid hRl
    have HP := Lib.hid hP
    obtain ⟨ro, rc, rfl, _⟩ := EdsV.facts hP.row
    have hsm : L.length ≤ 1000 := by omega
    clear hP hRl
    by_cases hlt : k < l.length ∧ 0 < N
    · obtain ⟨hlt, hNp⟩ := hlt
      have hk1 : (k : Int) < (l.length : Int) := by omega
      have hk0 : (0 : Int) ≤ (k : Int) := by omega
      have hNp' : (0 : Int) < (N : Int) := by omega
      have hN0 : (N : Int) ≠ 0 := by omega
      have hN1 : ¬ N = 0 := by omega
      obtain ⟨b2, o2, rfl, _, p1, p2, p3⟩ := HC.out k hlt
      have hgo : (gt l k).ok := HOK.out _ (gt_mem hlt)
      obtain ⟨x, hx⟩ : ∃ x, x = gt l k := ⟨_, rfl⟩
      rw [← hx] at p1 p2 p3 hgo
      obtain ⟨xf, xt, xl⟩ := x
      simp only at p1 p2 p3
      have HXl : Hid (Ok64 xl) := Lib.hid hgo.l
      have arith : ∀ z : Int, ∃ (r : Int) (c : Nat), z.tmod (N : Int) = r ∧ IntKind.i64.wrap (r + (N : Int)) = r + (N : Int) ∧ (r + (N : Int)).tmod (N : Int) = (c : Int) ∧ Ok64 (c : Int) := fun z => by
        have l1 : z.tmod (N : Int) < (N : Int) := Int.tmod_lt_of_pos z hNp'
        have l2 : -(N : Int) < z.tmod (N : Int) := Int.lt_tmod_of_pos z hNp'
        have h1 : (z.tmod (N : Int) + (N : Int)).tmod (N : Int) < (N : Int) := Int.tmod_lt_of_pos _ hNp'
        have h2 : 0 ≤ (z.tmod (N : Int) + (N : Int)).tmod (N : Int) := Int.tmod_nonneg _ (by omega)
        refine ⟨_, ((z.tmod (N : Int) + (N : Int)).tmod (N : Int)).toNat, rfl, ?_, by omega, by unfold Ok64; omega⟩
        rw [IntKind.wrap_i64]
        omega
      obtain ⟨r1, c1, a1, a2, a3, ok1⟩ := arith xf
      obtain ⟨r2, c2, b1', b2', b3', ok2⟩ := arith xt
      have HOkx : Hid ((⟨c1, c2, xl⟩ : Ed).ok) := Lib.hid ⟨ok1, ok2, HXl.out⟩
      have g1 : ∀ W, Fx No wr W → W.cell? ⟨b2, o2 + k * 3, none⟩ = some (.int .i64 xf) := fun W h => ((HFq.out.trans HP.out.fx).trans h).cell' p1 (fun h => h)
      have g2 : ∀ W, Fx No wr W → W.cell? ⟨b2, o2 + k * 3 + 1, none⟩ = some (.int .i64 xt) := fun W h => ((HFq.out.trans HP.out.fx).trans h).cell' p2 (fun h => h)
      have g3 : ∀ W, Fx No wr W → W.cell? ⟨b2, o2 + k * 3 + 2, none⟩ = some (.int .i64 xl) := fun W h => ((HFq.out.trans HP.out.fx).trans h).cell' p3 (fun h => h)
      clear p1 p2 p3 hgo hx arith ok1 ok2
      go_wp2_with fail
      refine wp_region_H (fun W => Fx No wr W) (by kernel_rfl) ((Fx.refl _ _).drew) ?_
      intro hS
      refine wpAnyH_hold (fun W' => Fx No wr W') hS ?_
      clear hS
      rintro y0 hS
      have hS0 := hS
      refine wpAnyH_take (i := 0) (v := ?_) rfl (by kernel_rfl) (by kernel_rfl) (by kernel_rfl) (fun _ _ _ h => h) (Or.inl ⟨by rfl, ?_⟩) hS ?_
      rotate_left
      · (intro W hs; go_simp; first | done | with_reducible rfl)
      try simp only [Act.put, List.getElem_toArray, List.getElem_cons_zero, List.setIfInBounds_toArray, List.set_cons_zero, List.set_cons_succ]
      refine wpAnyH_take (i := 1) (v := ?_) rfl (by kernel_rfl) (by kernel_rfl) (by kernel_rfl) (fun _ _ _ h => h) (Or.inl ⟨by rfl, ?_⟩) hS ?_
      rotate_left
      · (intro W hs; go_simp; first | done | with_reducible rfl)
      try simp only [Act.put, List.getElem_toArray, List.getElem_cons_zero, List.getElem_cons_succ, List.setIfInBounds_toArray, List.set_cons_zero, List.set_cons_succ]
      refine wpAnyH_take (i := 5) (v := ?_) rfl (by kernel_rfl) (by kernel_rfl) (by kernel_rfl) (fun _ _ _ h => h) (Or.inl ⟨by rfl, ?_⟩) hS ?_
      rotate_left
      · (intro W hs; go_simp; first | done | with_reducible rfl)
      try simp only [Act.put, List.getElem_toArray, List.getElem_cons_zero, List.getElem_cons_succ, List.setIfInBounds_toArray, List.set_cons_zero, List.set_cons_succ]
      refine wpAnyH_take (i := 7) (v := ?_) rfl (by kernel_rfl) (by kernel_rfl) (by kernel_rfl) (fun _ _ _ h => h) (Or.inl ⟨by rfl, ?_⟩) hS ?_
      rotate_left
      · (intro W hs; go_simp; first | done | with_reducible rfl)
      try simp only [Act.put, List.getElem_toArray, List.getElem_cons_zero, List.getElem_cons_succ, List.setIfInBounds_toArray, List.set_cons_zero, List.set_cons_succ]
      refine wpAnyH_take (i := 9) (v := ?_) rfl (by kernel_rfl) (by kernel_rfl) (by kernel_rfl) (fun _ _ _ h => h) (Or.inl ⟨by rfl, ?_⟩) hS ?_
      rotate_left
      · (intro W hs; go_simp; first | done | with_reducible rfl)
      try simp only [Act.put, List.getElem_toArray, List.getElem_cons_zero, List.getElem_cons_succ, List.setIfInBounds_toArray, List.set_cons_zero, List.set_cons_succ]
      refine wpAnyH_take (i := 11) (v := ?_) rfl (by kernel_rfl) (by kernel_rfl) (by kernel_rfl) (fun _ _ _ h => h) (Or.inl ⟨by rfl, ?_⟩) hS ?_
      rotate_left
      · (intro W hs; go_simp; first | done | with_reducible rfl)
      try simp only [Act.put, List.getElem_toArray, List.getElem_cons_zero, List.getElem_cons_succ, List.setIfInBounds_toArray, List.set_cons_zero, List.set_cons_succ]
      refine wpAnyH_take (i := 12) (v := ?_) rfl (by kernel_rfl) (by kernel_rfl) (by kernel_rfl) (fun _ _ _ h => h) (Or.inl ⟨by rfl, ?_⟩) hS ?_
      rotate_left
      · (intro W hs; go_simp; first | done | with_reducible rfl)
      try simp only [Act.put, List.getElem_toArray, List.getElem_cons_zero, List.getElem_cons_succ, List.setIfInBounds_toArray, List.set_cons_zero, List.set_cons_succ]
      refine wpAnyH_take (i := 16) (v := ?_) rfl (by kernel_rfl) (by kernel_rfl) (by kernel_rfl) (fun _ _ _ h => h) (Or.inl ⟨by rfl, ?_⟩) hS ?_
      rotate_left
      · (intro W hs; go_simp; first | done | with_reducible rfl)
      try simp only [Act.put, List.getElem_toArray, List.getElem_cons_zero, List.getElem_cons_succ, List.setIfInBounds_toArray, List.set_cons_zero, List.set_cons_succ]
      refine wpAnyH_take (i := 18) (v := ?_) rfl (by kernel_rfl) (by kernel_rfl) (by kernel_rfl) (fun _ _ _ h => h) (Or.inl ⟨by rfl, ?_⟩) hS ?_
      rotate_left
      · (intro W hs; go_simp; first | done | with_reducible rfl)
      try simp only [Act.put, List.getElem_toArray, List.getElem_cons_zero, List.getElem_cons_succ, List.setIfInBounds_toArray, List.set_cons_zero, List.set_cons_succ]
      refine wpAnyH_take (i := 20) (v := ?_) rfl (by kernel_rfl) (by kernel_rfl) (by kernel_rfl) (fun _ _ _ h => h) (Or.inl ⟨by rfl, ?_⟩) hS ?_
      rotate_left
      · (intro W hs; go_simp; first | done | with_reducible rfl)
      try simp only [Act.put, List.getElem_toArray, List.getElem_cons_zero, List.getElem_cons_succ, List.setIfInBounds_toArray, List.set_cons_zero, List.set_cons_succ]
      refine wpAnyH_take (i := 22) (v := ?_) rfl (by kernel_rfl) (by kernel_rfl) (by kernel_rfl) (fun _ _ _ h => h) (Or.inl ⟨by rfl, ?_⟩) hS ?_
      rotate_left
      · (intro W hs; go_simp; first | done | with_reducible rfl)
      try simp only [Act.put, List.getElem_toArray, List.getElem_cons_zero, List.getElem_cons_succ, List.setIfInBounds_toArray, List.set_cons_zero, List.set_cons_succ]
      refine wpAnyH_take (i := 23) (v := ?_) rfl (by kernel_rfl) (by kernel_rfl) (by kernel_rfl) (fun _ _ _ h => h) (Or.inl ⟨by rfl, ?_⟩) hS ?_
      rotate_left
      · (intro W hs; go_simp; first | done | with_reducible rfl)
      try simp only [Act.put, List.getElem_toArray, List.getElem_cons_zero, List.getElem_cons_succ, List.setIfInBounds_toArray, List.set_cons_zero, List.set_cons_succ]
      refine wpAnyH_take (i := 2) (v := ?_) rfl (by kernel_rfl) (by kernel_rfl) (by kernel_rfl) (fun _ _ _ h => h) (Or.inl ⟨by rfl, ?_⟩) hS ?_
      rotate_left
      · (intro W hs; go_simp; first | done | with_reducible rfl)
      try simp only [Act.put, List.getElem_toArray, List.getElem_cons_zero, List.getElem_cons_succ, List.setIfInBounds_toArray, List.set_cons_zero, List.set_cons_succ]
      refine wpAnyH_take (i := 13) (v := ?_) rfl (by kernel_rfl) (by kernel_rfl) (by kernel_rfl) (fun _ _ _ h => h) (Or.inl ⟨by rfl, ?_⟩) hS ?_
      rotate_left
      · (intro W hs; go_simp; first | done | with_reducible rfl)
      try simp only [Act.put, List.getElem_toArray, List.getElem_cons_zero, List.getElem_cons_succ, List.setIfInBounds_toArray, List.set_cons_zero, List.set_cons_succ]
      refine wpAnyH_take (i := 24) (v := ?_) rfl (by kernel_rfl) (by kernel_rfl) (by kernel_rfl) (fun _ _ _ h => h) (Or.inl ⟨by rfl, ?_⟩) hS ?_
      rotate_left
      · (intro W hs; go_simp; first | done | with_reducible rfl)
      try simp only [Act.put, List.getElem_toArray, List.getElem_cons_zero, List.getElem_cons_succ, List.setIfInBounds_toArray, List.set_cons_zero, List.set_cons_succ]
      refine wpAnyH_take (i := 3) (v := ?_) rfl (by kernel_rfl) (by kernel_rfl) (by kernel_rfl) (fun _ _ _ h => h) (Or.inl ⟨by rfl, ?_⟩) hS ?_
      rotate_left
      · (intro W hs; go_simp; first | done | with_reducible rfl)
      try simp only [Act.put, List.getElem_toArray, List.getElem_cons_zero, List.getElem_cons_succ, List.setIfInBounds_toArray, List.set_cons_zero, List.set_cons_succ]
      refine wpAnyH_take (i := 14) (v := ?_) rfl (by kernel_rfl) (by kernel_rfl) (by kernel_rfl) (fun _ _ _ h => h) (Or.inl ⟨by rfl, ?_⟩) hS ?_
      rotate_left
      · (intro W hs; go_simp; first | done | with_reducible rfl)
      try simp only [Act.put, List.getElem_toArray, List.getElem_cons_zero, List.getElem_cons_succ, List.setIfInBounds_toArray, List.set_cons_zero, List.set_cons_succ]
      refine wpAnyH_take (i := 25) (v := ?_) rfl (by kernel_rfl) (by kernel_rfl) (by kernel_rfl) (fun _ _ _ h => h) (Or.inl ⟨by rfl, ?_⟩) hS ?_
      rotate_left
      · (intro W hs; go_simp; first | done | with_reducible rfl)
      try simp only [Act.put, List.getElem_toArray, List.getElem_cons_zero, List.getElem_cons_succ, List.setIfInBounds_toArray, List.set_cons_zero, List.set_cons_succ]
      refine wpAnyH_take (i := 4) (v := ?_) rfl (by kernel_rfl) (by kernel_rfl) (by kernel_rfl) (fun _ _ _ h => h) (Or.inl ⟨by rfl, ?_⟩) hS ?_
      rotate_left
      · (intro W hs; go_simp; first | done | with_reducible rfl)
      try simp only [Act.put, List.getElem_toArray, List.getElem_cons_zero, List.getElem_cons_succ, List.setIfInBounds_toArray, List.set_cons_zero, List.set_cons_succ]
      refine wpAnyH_take (i := 15) (v := ?_) rfl (by kernel_rfl) (by kernel_rfl) (by kernel_rfl) (fun _ _ _ h => h) (Or.inl ⟨by rfl, ?_⟩) hS ?_
      rotate_left
      · (intro W hs; go_simp; first | done | with_reducible rfl)
      try simp only [Act.put, List.getElem_toArray, List.getElem_cons_zero, List.getElem_cons_succ, List.setIfInBounds_toArray, List.set_cons_zero, List.set_cons_succ]
      refine wpAnyH_take (i := 26) (v := ?_) rfl (by kernel_rfl) (by kernel_rfl) (by kernel_rfl) (fun _ _ _ h => h) (Or.inl ⟨by rfl, ?_⟩) hS ?_
      rotate_left
      · (intro W hs; go_simp; first | done | with_reducible rfl)
      try simp only [Act.put, List.getElem_toArray, List.getElem_cons_zero, List.getElem_cons_succ, List.setIfInBounds_toArray, List.set_cons_zero, List.set_cons_succ]
      refine wpAnyH_take (i := 6) (v := ?_) rfl (by kernel_rfl) (by kernel_rfl) (by kernel_rfl) (fun _ _ _ h => h) (Or.inl ⟨by rfl, ?_⟩) hS ?_
      rotate_left
      · (intro W hs; go_simp; first | done | with_reducible rfl)
      try simp only [Act.put, List.getElem_toArray, List.getElem_cons_zero, List.getElem_cons_succ, List.setIfInBounds_toArray, List.set_cons_zero, List.set_cons_succ]
      refine wpAnyH_take (i := 17) (v := ?_) rfl (by kernel_rfl) (by kernel_rfl) (by kernel_rfl) (fun _ _ _ h => h) (Or.inl ⟨by rfl, ?_⟩) hS ?_
      rotate_left
      · (intro W hs; go_simp; first | done | with_reducible rfl)
      try simp only [Act.put, List.getElem_toArray, List.getElem_cons_zero, List.getElem_cons_succ, List.setIfInBounds_toArray, List.set_cons_zero, List.set_cons_succ]
      refine wpAnyH_take (i := 8) (v := ?_) rfl (by kernel_rfl) (by kernel_rfl) (by kernel_rfl) (fun _ _ _ h => h) (Or.inl ⟨by rfl, ?_⟩) hS ?_
      rotate_left
      · (intro W hs; go_simp; first | done | with_reducible rfl)
      try simp only [Act.put, List.getElem_toArray, List.getElem_cons_zero, List.getElem_cons_succ, List.setIfInBounds_toArray, List.set_cons_zero, List.set_cons_succ]
      refine wpAnyH_take (i := 19) (v := ?_) rfl (by kernel_rfl) (by kernel_rfl) (by kernel_rfl) (fun _ _ _ h => h) (Or.inl ⟨by rfl, ?_⟩) hS ?_
      rotate_left
      · (intro W hs; go_simp; first | done | with_reducible rfl)
      try simp only [Act.put, List.getElem_toArray, List.getElem_cons_zero, List.getElem_cons_succ, List.setIfInBounds_toArray, List.set_cons_zero, List.set_cons_succ]
      refine wpAnyH_take (i := 10) (v := ?_) rfl (by kernel_rfl) (by kernel_rfl) (by kernel_rfl) (fun _ _ _ h => h) (Or.inl ⟨by rfl, ?_⟩) hS ?_
      rotate_left
      · (intro W hs; go_simp; first | done | with_reducible rfl)
      try simp only [Act.put, List.getElem_toArray, List.getElem_cons_zero, List.getElem_cons_succ, List.setIfInBounds_toArray, List.set_cons_zero, List.set_cons_succ]
      refine wpAnyH_take (i := 21) (v := ?_) rfl (by kernel_rfl) (by kernel_rfl) (by kernel_rfl) (fun _ _ _ h => h) (Or.inl ⟨by rfl, ?_⟩) hS ?_
      rotate_left
      · (intro W hs; go_simp; first | done | with_reducible rfl)
      try simp only [Act.put, List.getElem_toArray, List.getElem_cons_zero, List.getElem_cons_succ, List.setIfInBounds_toArray, List.set_cons_zero, List.set_cons_succ]
      refine wpAnyH_take (i := 27) (v := ?_) rfl (by kernel_rfl) (by kernel_rfl) (by kernel_rfl) (fun _ _ _ h => h) (Or.inl ⟨by rfl, ?_⟩) hS ?_
      rotate_left
      · (intro W hs; go_simp; first | done | with_reducible rfl)
      try simp only [Act.put, List.getElem_toArray, List.getElem_cons_zero, List.getElem_cons_succ, List.setIfInBounds_toArray, List.set_cons_zero, List.set_cons_succ]
      refine wpH_one (i := 28) (by kernel_rfl) rfl (fun K hK => ?_)
      go_simp
      have hfi : Fx No y0 (y0.alloc (.cells #[.int .i64 0, .int .i64 0, .int .i64 0] 57)) := (Fx.refl No _).alloc _
      refine hK.out _ _ (hS.trans hfi) (fun hS' => ?_)
      clear hK K hS
      have hS := hS'
      clear hS'
      try simp only [Act.put, List.getElem_toArray, List.getElem_cons_zero, List.getElem_cons_succ, List.setIfInBounds_toArray, List.set_cons_zero, List.set_cons_succ]
      refine wpAnyH_hold (fun W' => Fx No y0 W' ∧ Fx No wr W' ∧ y0.heap.size < W'.heap.size ∧ (W'.cell? ⟨y0.heap.size, 0, none⟩ = some (.int .i64 0) ∧ W'.cell? ⟨y0.heap.size, 1, none⟩ = some (.int .i64 0) ∧ W'.cell? ⟨y0.heap.size, 2, none⟩ = some (.int .i64 0)) ∧ (W'.frozen? ⟨y0.heap.size, 0, none⟩ = false ∧ W'.frozen? ⟨y0.heap.size, 1, none⟩ = false ∧ W'.frozen? ⟨y0.heap.size, 2, none⟩ = false)) ⟨hfi, hS, by simp, ⟨by simp, by simp, by simp⟩, ⟨by simp, by simp, by simp⟩⟩ ?_
      clear hfi hS
      rintro y1 ⟨hfi, hS, hlt, hHXe, hHXz⟩
      obtain ⟨eb, heb⟩ : ∃ q, q = y0.heap.size := ⟨_, rfl⟩
      rw [← heb] at hHXe hHXz hlt ⊢
      have HXe := Lib.hid hHXe
      have HXz := Lib.hid hHXz
      have HLeb : Hid (eb < y1.heap.size) := Lib.hid hlt
      have HEeb : Hid (eb = y0.heap.size) := Lib.hid heb
      have HZy1 : Hid (y0.heap.size ≤ y1.heap.size) := Lib.hid hfi.size
      have HLe : Hid (wr.heap.size ≤ eb) := Lib.hid (by have h1 := HEeb.out; have h2 := hS0.size; omega)
      clear hHXe hHXz hlt heb hfi
      refine wpH_one (i := 29) (by kernel_rfl) rfl (fun K hK => ?_)
      obtain ⟨e0, e1, e2⟩ := HXe.out
      obtain ⟨z0, z1, z2⟩ := HXz.out
      have hle := HLe.out
      go_simp
      refine hK.out _ _ (hS.setCells3 _ _ _ hle) (fun hS' => ?_)
      clear hK K hS
      have hS := hS'
      clear hS'
      try simp only [Act.put, List.getElem_toArray, List.getElem_cons_zero, List.getElem_cons_succ, List.setIfInBounds_toArray, List.set_cons_zero, List.set_cons_succ]
      clear e0 e1 e2 z0 z1 z2 hle
      refine wpAnyH_done (by kernel_rfl) ?_ _
      have HFx := Lib.hid hS
      have HKe := Lib.hid (put_three y1 (.int .i64 (c1 : Nat)) (.int .i64 (c2 : Nat)) (.int .i64 xl) HXe.out.1 HXe.out.2.1 HXe.out.2.2)
      clear hS hS0 g1 g2 g3 a1 a2 a3 b1' b2' b3'
      refine pq_hold (fun W => Fx No wr W ∧ W.cell? ⟨eb, 0, none⟩ = some (.int .i64 (c1 : Nat)) ∧ W.cell? ⟨eb, 1, none⟩ = some (.int .i64 (c2 : Nat)) ∧ W.cell? ⟨eb, 2, none⟩ = some (.int .i64 xl)) ⟨HFx.out, HKe.out⟩ ?_
      rintro wx ⟨hfx, k0, k1, k2⟩
      have HFx2 := Lib.hid hfx
      have hxl := World.block_lt_of_cell? wx _ k0
      have hxl : eb < wx.heap.size := hxl
      have HKx : Hid (wx.cell? ⟨eb, 0, none⟩ = some (.int .i64 (c1 : Nat)) ∧ wx.cell? ⟨eb, 1, none⟩ = some (.int .i64 (c2 : Nat)) ∧ wx.cell? ⟨eb, 2, none⟩ = some (.int .i64 xl)) := Lib.hid ⟨k0, k1, k2⟩
      have HPx := Lib.hid (HP.out.no hfx)
      have HLt : Hid (EdsV (wx.alloc (.cells #[.int .i64 (c1 : Nat), .int .i64 (c2 : Nat), .int .i64 xl] 57)) (Iv wx.heap.size (wx.heap.size + 1)) (.slice (some ⟨wx.heap.size, 0, none⟩) 1 1) [⟨c1, c2, xl⟩]) := Lib.hid (EdsV.lit [⟨c1, c2, xl⟩] (by simp))
      have HEb : Hid (¬ D eb) := Lib.hid fun hd => by have h1 := HP.out.g.lt eb hd; have h2 := HLe.out; omega
      have HEr : Hid (¬ eb = rb) := Lib.hid fun e => by have h1 := World.block_lt_of_cell? wr _ HP.out.r0.1; have h1 : rb < wr.heap.size := h1; have h2 := HLe.out; omega
      obtain ⟨L2, hL2⟩ : ∃ x, x = addG N L [⟨c1, c2, xl⟩] := ⟨_, rfl⟩
      obtain ⟨cnt, hcnt⟩ : ∃ x, x = cntG N L [⟨c1, c2, xl⟩] := ⟨_, rfl⟩
      obtain ⟨code, hcode⟩ : ∃ x, x = codeG N [⟨c1, c2, xl⟩] := ⟨_, rfl⟩
      have HLn : Hid (L2.length ≤ k + 1) := Lib.hid (by have := addG_len N L [⟨c1, c2, xl⟩]; rw [hL2]; simp at this; omega)
      have CA : Hid (∀ W (u : Value) (E' : Nat → Prop), EdsV W R (.slice ro L.length rc) L → EdsV W E' u [⟨c1, c2, xl⟩] → Calls Try.prog 29 #[.agg #[.int .i64 (N : Nat), .slice ro L.length rc], u] W fun e w' => ∃ so sc, e = .returned (.tuple #[.agg #[.int .i64 (N : Nat), .slice so L2.length sc], .int .i64 (cnt : Nat), .int .i64 code]) ∧ Fx No W w' ∧ EdsV w' (fun k => (R k ∨ W.heap.size ≤ k) ∧ k < w'.heap.size) (.slice so L2.length sc) L2) := Lib.hid fun W u E' hr hu => (refAdd_both hr HP.out.g.asc hu N (by simp; omega)).mono fun e w' ⟨v', h1, h2, h3⟩ => by
        rw [← hL2] at h3
        obtain ⟨so, sc, rfl, _⟩ := EdsV.facts h3
        exact ⟨so, sc, by rw [h1, ← hcnt, ← hcode], h2, h3⟩
      have CG : Hid (Calls Try.prog 28 #[.pointer (some ⟨b, 0, none⟩), .slice (some ⟨wx.heap.size, 0, none⟩) 1 1] (wx.alloc (.cells #[.int .i64 (c1 : Nat), .int .i64 (c2 : Nat), .int .i64 xl] 57)) fun r w' => r = .returned (.tuple #[.int .i64 (cnt : Nat), .int .i64 code]) ∧ Fx D (wx.alloc (.cells #[.int .i64 (c1 : Nat), .int .i64 (c2 : Nat), .int .i64 xl] 57)) w' ∧ GraphV w' (DU D (wx.alloc (.cells #[.int .i64 (c1 : Nat), .int .i64 (c2 : Nat), .int .i64 xl] 57)) w') b N L2) := Lib.hid (by
        rw [hL2, hcnt, hcode]
        exact gAdd_both (HPx.out.g.no ((Fx.refl No _).alloc _)) HLt.out (fun k hk hd => by have := HPx.out.g.lt k hd; have := hk.1; omega) (fun x hx => by rw [List.mem_singleton] at hx; rw [hx]; exact HOkx.out) (by simp; omega))
      have HLi : Hid (Fx No wx (wx.alloc (.cells #[.int .i64 (c1 : Nat), .int .i64 (c2 : Nat), .int .i64 xl] 57))) := Lib.hid ((Fx.refl No _).alloc _)
      clear hL2 hcnt hcode hfx
      go_wp2_with fail
      refine CG.out.mono ?_
      rintro e w2 ⟨rfl, hfD, hg2⟩
      have HFD := Lib.hid hfD
      have HG2 := Lib.hid hg2
      have HKy : Hid (w2.cell? ⟨eb, 0, none⟩ = some (.int .i64 (c1 : Nat)) ∧ w2.cell? ⟨eb, 1, none⟩ = some (.int .i64 (c2 : Nat)) ∧ w2.cell? ⟨eb, 2, none⟩ = some (.int .i64 xl)) := Lib.hid ⟨hfD.cell' (HLi.out.cell' HKx.out.1 (fun h => h)) HEb.out, hfD.cell' (HLi.out.cell' HKx.out.2.1 (fun h => h)) HEb.out, hfD.cell' (HLi.out.cell' HKx.out.2.2 (fun h => h)) HEb.out⟩
      have HR2 : Hid (EdsV w2 R (.slice ro L.length rc) L) := Lib.hid ((HPx.out.row.no HLi.out).keep hfD fun j hj => (HPx.out.ap j hj).1)
      have HO0 := Lib.hid (hfD.cellF (HLi.out.cellF HPx.out.r0.1 HPx.out.r0.2 (fun h => h)).1 (HLi.out.cellF HPx.out.r0.1 HPx.out.r0.2 (fun h => h)).2 HPx.out.rD.1)
      have HO1 := Lib.hid (hfD.cellF (HLi.out.cellF HPx.out.r1.1 HPx.out.r1.2 (fun h => h)).1 (HLi.out.cellF HPx.out.r1.1 HPx.out.r1.2 (fun h => h)).2 HPx.out.rD.1)
      clear hfD hg2 k0 k1 k2
      have g0 : ∀ W, Fx No w2 W → W.cell? ⟨rb, 0, none⟩ = some (.int .i64 (N : Nat)) := fun W h => h.cell' HO0.out.1 (fun h => h)
      have g1 : ∀ W, Fx No w2 W → W.cell? ⟨rb, 1, none⟩ = some (.slice ro L.length rc) := fun W h => h.cell' HO1.out.1 (fun h => h)
      have g2 : ∀ W, Fx No w2 W → W.cell? ⟨eb, 0, none⟩ = some (.int .i64 (c1 : Nat)) := fun W h => h.cell' HKy.out.1 (fun h => h)
      have g3 : ∀ W, Fx No w2 W → W.cell? ⟨eb, 1, none⟩ = some (.int .i64 (c2 : Nat)) := fun W h => h.cell' HKy.out.2.1 (fun h => h)
      have g4 : ∀ W, Fx No w2 W → W.cell? ⟨eb, 2, none⟩ = some (.int .i64 xl) := fun W h => h.cell' HKy.out.2.2 (fun h => h)
      go_wp2_with fail
      refine wp_region_inv (act := ?act) (Inv := D9I w2 R ro rc N L L2 ⟨c1, c2, xl⟩ cnt code (fun W => ∃ (v9 : Value) (D9 R9 : Nat → Prop), PG wq W b rb N L2 v9 D9 R9 ∧ ∀ j, R9 j → wq.heap.size ≤ j)) (by kernel_rfl) (by kernel_rfl) (by kernel_rfl) ?hact ?h0 ?hs ?hdone
      case hact => intro x; simp only [actX, setAll, List.setIfInBounds_toArray, List.set_cons_zero, List.set_cons_succ]; rfl
      case h0 => exact ⟨trivial, fun _ => (Fx.refl _ _).drew, fun h0 => Bool.noConfusion h0, fun h0 => Bool.noConfusion h0, fun h0 h1 => Bool.noConfusion h0, fun h0 h1 => Bool.noConfusion h0, fun h0 h1 => Bool.noConfusion h0, fun h0 => Bool.noConfusion h0, fun h0 => Bool.noConfusion h0, fun h0 => Bool.noConfusion h0, fun h0 => Bool.noConfusion h0⟩
      case hs =>
        refine ⟨?_, ?_, ?_, ?_, ?_, ?_, ?_, ?_, ?_, ?_, trivial⟩
        · intro LL xx ww hI hL hD hC K hK
          dsimp only at hK ⊢
          have n4 : LL 4 = false := off_of hC hL 4 (by kernel_rfl)
          have n5 : LL 5 = false := off_of hC n4 5 (by kernel_rfl)
          have n6 : LL 6 = false := off_of hC n5 6 (by kernel_rfl)
          have n7 : LL 7 = false := off_of hC n5 7 (by kernel_rfl)
          have n8 : LL 8 = false := off_of hC n5 8 (by kernel_rfl)
          have n9 : LL 9 = false := off_of hC hL 9 (by kernel_rfl)
          have hS := hI.fS n9
          have p0 := g0 _ hS
          have p1 := g1 _ hS
          clear hD hC
          go_simp
          refine hK.out (.agg #[.int .i64 (N : Nat), .slice ro L.length rc]) _ _ rfl ⟨hI.base, hI.fS, fun h0 => rfl, hI.f1, hI.f2, hI.f3, fun h0 h1 => Bool.noConfusion ((show false = LL 4 from n4.symm).trans h0), fun h0 => Bool.noConfusion ((show false = LL 4 from n4.symm).trans h0), fun h0 => Bool.noConfusion ((show false = LL 5 from n5.symm).trans h0), fun h0 => Bool.noConfusion ((show false = LL 6 from n6.symm).trans h0), fun h0 => Bool.noConfusion ((show false = LL 9 from n9.symm).trans h0)⟩
        · intro LL xx ww hI hL hD hC K hK
          dsimp only at hK ⊢
          have n2 : LL 2 = false := off_of hC hL 2 (by kernel_rfl)
          have n3 : LL 3 = false := off_of hC n2 3 (by kernel_rfl)
          have n4 : LL 4 = false := off_of hC n3 4 (by kernel_rfl)
          have n5 : LL 5 = false := off_of hC n4 5 (by kernel_rfl)
          have n6 : LL 6 = false := off_of hC n5 6 (by kernel_rfl)
          have n7 : LL 7 = false := off_of hC n5 7 (by kernel_rfl)
          have n8 : LL 8 = false := off_of hC n5 8 (by kernel_rfl)
          have n9 : LL 9 = false := off_of hC hL 9 (by kernel_rfl)
          have hS := hI.fS n9
          have p0 := g2 _ hS
          have p1 := g3 _ hS
          have p2 := g4 _ hS
          clear hD hC
          go_simp
          refine hK.out (.agg #[.int .i64 (c1 : Nat), .int .i64 (c2 : Nat), .int .i64 xl]) _ _ rfl ⟨hI.base, hI.fS, hI.f0, fun h0 => rfl, fun h0 h1 => Bool.noConfusion ((show false = LL 2 from n2.symm).trans h0), fun h0 h1 => Bool.noConfusion ((show false = LL 3 from n3.symm).trans h0), fun h0 h1 => Bool.noConfusion ((show false = LL 4 from n4.symm).trans h0), fun h0 => Bool.noConfusion ((show false = LL 4 from n4.symm).trans h0), fun h0 => Bool.noConfusion ((show false = LL 5 from n5.symm).trans h0), fun h0 => Bool.noConfusion ((show false = LL 6 from n6.symm).trans h0), fun h0 => Bool.noConfusion ((show false = LL 9 from n9.symm).trans h0)⟩
        · intro LL xx ww hI hL hD hC K hK
          dsimp only at hK ⊢
          have d1 : LL 1 = true := dep_of hD 1 (by kernel_rfl)
          have n3 : LL 3 = false := off_of hC hL 3 (by kernel_rfl)
          have n4 : LL 4 = false := off_of hC n3 4 (by kernel_rfl)
          have n5 : LL 5 = false := off_of hC n4 5 (by kernel_rfl)
          have n6 : LL 6 = false := off_of hC n5 6 (by kernel_rfl)
          have n7 : LL 7 = false := off_of hC n5 7 (by kernel_rfl)
          have n8 : LL 8 = false := off_of hC n5 8 (by kernel_rfl)
          have n9 : LL 9 = false := off_of hC hL 9 (by kernel_rfl)
          have e1 := hI.f1 d1
          have hfi : Fx No ww (ww.alloc (.cells #[.int .i64 (c1 : Nat), .int .i64 (c2 : Nat), .int .i64 xl] 57)) := (Fx.refl No _).alloc _
          simp only [e1] at hK ⊢
          clear hD hC
          go_simp
          refine hK.out (.slice (some ⟨ww.heap.size, 0, none⟩) 1 1) _ _ rfl ⟨trivial, fun h0 => (hI.fS h0).trans hfi, hI.f0, hI.f1, fun h0 h1 => ⟨_, rfl, SlV.lit ww 57 #[.int .i64 (c1 : Nat), .int .i64 (c2 : Nat), .int .i64 xl] 3 1 rfl (by unfold maxLen; omega)⟩, fun h0 h1 => Bool.noConfusion ((show false = LL 3 from n3.symm).trans h0), fun h0 h1 => Bool.noConfusion ((show false = LL 4 from n4.symm).trans h0), fun h0 => Bool.noConfusion ((show false = LL 4 from n4.symm).trans h0), fun h0 => Bool.noConfusion ((show false = LL 5 from n5.symm).trans h0), fun h0 => Bool.noConfusion ((show false = LL 6 from n6.symm).trans h0), fun h0 => Bool.noConfusion ((show false = LL 9 from n9.symm).trans h0)⟩
        · intro LL xx ww hI hL hD hC K hK
          dsimp only at hK ⊢
          have d2 : LL 2 = true := dep_of hD 2 (by kernel_rfl)
          have n4 : LL 4 = false := off_of hC hL 4 (by kernel_rfl)
          have n5 : LL 5 = false := off_of hC n4 5 (by kernel_rfl)
          have n6 : LL 6 = false := off_of hC n5 6 (by kernel_rfl)
          have n7 : LL 7 = false := off_of hC n5 7 (by kernel_rfl)
          have n8 : LL 8 = false := off_of hC n5 8 (by kernel_rfl)
          have n9 : LL 9 = false := off_of hC hL 9 (by kernel_rfl)
          obtain ⟨q, e2, h2⟩ := hI.f2 d2 hL
          simp only [e2] at hK ⊢
          clear hD hC
          go_simp
          refine (docEdges_any h2 (by simp)).mono ?_
          rintro e w' ⟨u1, rfl, hfi, hu⟩
          refine hK.out (u1) _ _ rfl ⟨trivial, fun h0 => (hI.fS h0).trans hfi, hI.f0, hI.f1, fun h0 h1 => Bool.noConfusion (show true = false from h1), fun h0 h1 => ⟨_, OwnT.row hu⟩, fun h0 h1 => Bool.noConfusion ((show false = LL 4 from n4.symm).trans h0), fun h0 => Bool.noConfusion ((show false = LL 4 from n4.symm).trans h0), fun h0 => Bool.noConfusion ((show false = LL 5 from n5.symm).trans h0), fun h0 => Bool.noConfusion ((show false = LL 6 from n6.symm).trans h0), fun h0 => Bool.noConfusion ((show false = LL 9 from n9.symm).trans h0)⟩
        · intro LL xx ww hI hL hD hC K hK
          dsimp only at hK ⊢
          have d0 : LL 0 = true := dep_of hD 0 (by kernel_rfl)
          have d3 : LL 3 = true := dep_of hD 3 (by kernel_rfl)
          have n5 : LL 5 = false := off_of hC hL 5 (by kernel_rfl)
          have n6 : LL 6 = false := off_of hC n5 6 (by kernel_rfl)
          have n7 : LL 7 = false := off_of hC n5 7 (by kernel_rfl)
          have n8 : LL 8 = false := off_of hC n5 8 (by kernel_rfl)
          have n9 : LL 9 = false := off_of hC hL 9 (by kernel_rfl)
          have e0 := hI.f0 d0
          obtain ⟨E', h3⟩ := hI.f3 d3 hL
          have hS := hI.fS n9
          simp only [e0] at hK ⊢
          clear hD hC
          go_simp
          refine (CA.out _ _ _ (HR2.out.no hS) h3).mono ?_
          rintro e w' ⟨so, sc, rfl, hfi, hr⟩
          refine hK.out (.tuple #[.agg #[.int .i64 (N : Nat), .slice so L2.length sc], .int .i64 (cnt : Nat), .int .i64 code]) _ _ rfl ⟨trivial, fun h0 => (hI.fS h0).trans hfi, hI.f0, hI.f1, fun h0 h1 => Bool.noConfusion ((show true = LL 3 from d3.symm).trans h1), fun h0 h1 => Bool.noConfusion (show true = false from h1), fun h0 h1 => ⟨so, sc, rfl, hr.mono fun k hk => ⟨hk.1.imp id fun h => by have := hS.size; omega, hk.2⟩⟩, fun h0 => ⟨so, sc, rfl⟩, fun h0 => Bool.noConfusion ((show false = LL 5 from n5.symm).trans h0), fun h0 => Bool.noConfusion ((show false = LL 6 from n6.symm).trans h0), fun h0 => Bool.noConfusion ((show false = LL 9 from n9.symm).trans h0)⟩
        · intro LL xx ww hI hL hD hC K hK
          dsimp only at hK ⊢
          have d4 : LL 4 = true := dep_of hD 4 (by kernel_rfl)
          have n6 : LL 6 = false := off_of hC hL 6 (by kernel_rfl)
          have n7 : LL 7 = false := off_of hC hL 7 (by kernel_rfl)
          have n8 : LL 8 = false := off_of hC hL 8 (by kernel_rfl)
          have n9 : LL 9 = false := off_of hC hL 9 (by kernel_rfl)
          clear hD hC
          go_simp
          refine hK.out (xx 4) _ _ rfl ⟨hI.base, hI.fS, hI.f0, hI.f1, hI.f2, hI.f3, hI.f4, hI.f4e, fun h0 => rfl, fun h0 => Bool.noConfusion ((show false = LL 6 from n6.symm).trans h0), fun h0 => Bool.noConfusion ((show false = LL 9 from n9.symm).trans h0)⟩
        · intro LL xx ww hI hL hD hC K hK
          dsimp only at hK ⊢
          have d5 : LL 5 = true := dep_of hD 5 (by kernel_rfl)
          have n9 : LL 9 = false := off_of hC hL 9 (by kernel_rfl)
          have d4 : LL 4 = true := hC 5 _ rfl d5 { on := 4, ground := .data } (by simp) rfl
          have e5 := hI.f5 d5
          obtain ⟨so, sc, e4⟩ := hI.f4e d4
          simp only [e5, e4] at hK ⊢
          clear hD hC
          go_simp
          refine hK.out (.agg #[.int .i64 (N : Nat), .slice so L2.length sc]) _ _ rfl ⟨hI.base, hI.fS, hI.f0, hI.f1, hI.f2, hI.f3, hI.f4, hI.f4e, hI.f5, fun h0 => ⟨so, sc, e4, rfl⟩, fun h0 => Bool.noConfusion ((show false = LL 9 from n9.symm).trans h0)⟩
        · intro LL xx ww hI hL hD hC K hK
          dsimp only at hK ⊢
          have d5 : LL 5 = true := dep_of hD 5 (by kernel_rfl)
          have d4 : LL 4 = true := hC 5 _ rfl d5 { on := 4, ground := .data } (by simp) rfl
          have e5 := hI.f5 d5
          obtain ⟨so, sc, e4⟩ := hI.f4e d4
          simp only [e5, e4] at hK ⊢
          clear hD hC
          go_simp
          refine hK.out (.int .i64 (cnt : Nat)) _ _ rfl ⟨hI.base, hI.fS, hI.f0, hI.f1, hI.f2, hI.f3, hI.f4, hI.f4e, hI.f5, hI.f6, hI.f9⟩
        · intro LL xx ww hI hL hD hC K hK
          dsimp only at hK ⊢
          have d5 : LL 5 = true := dep_of hD 5 (by kernel_rfl)
          have d4 : LL 4 = true := hC 5 _ rfl d5 { on := 4, ground := .data } (by simp) rfl
          have e5 := hI.f5 d5
          obtain ⟨so, sc, e4⟩ := hI.f4e d4
          simp only [e5, e4] at hK ⊢
          clear hD hC
          go_simp
          refine hK.out (.int .i64 code) _ _ rfl ⟨hI.base, hI.fS, hI.f0, hI.f1, hI.f2, hI.f3, hI.f4, hI.f4e, hI.f5, hI.f6, hI.f9⟩
        · intro LL xx ww hI hL hD hC K hK
          dsimp only at hK ⊢
          have d0 : LL 0 = true := dep_of hD 0 (by kernel_rfl)
          have d1 : LL 1 = true := dep_of hD 1 (by kernel_rfl)
          have d2 : LL 2 = true := dep_of hD 2 (by kernel_rfl)
          have d3 : LL 3 = true := dep_of hD 3 (by kernel_rfl)
          have d4 : LL 4 = true := dep_of hD 4 (by kernel_rfl)
          have d5 : LL 5 = true := dep_of hD 5 (by kernel_rfl)
          have d6 : LL 6 = true := dep_of hD 6 (by kernel_rfl)
          obtain ⟨so, sc, e4, e6⟩ := hI.f6 d6
          obtain ⟨so', sc', e4', hr⟩ := hI.f4 d4 hL
          rw [e4] at e4'
          obtain ⟨rfl, rfl⟩ : so = so' ∧ sc = sc' := by simpa using e4'
          have hS := hI.fS hL
          obtain ⟨q0, p0⟩ := hS.cellF HO0.out.1 HO0.out.2 (fun h => h)
          obtain ⟨q1, p1⟩ := hS.cellF HO1.out.1 HO1.out.2 (fun h => h)
          simp only [e6, e4] at hK ⊢
          clear hD hC
          go_simp
          have HP3 := HP.out.step2 (HFx2.out.trans HLi.out) HFD.out HG2.out hS hr (fun k hk => hk)
          refine hK.out (undef) _ _ rfl ⟨trivial, fun h0 => Bool.noConfusion (show true = false from h0), hI.f0, hI.f1, fun h0 h1 => Bool.noConfusion ((show true = LL 3 from d3.symm).trans h1), fun h0 h1 => Bool.noConfusion ((show true = LL 4 from d4.symm).trans h1), fun h0 h1 => Bool.noConfusion (show true = false from h1), hI.f4e, hI.f5, hI.f6, fun h0 => ⟨_, _, _, HP3, fun j hj => by
              have h1 := HP.out.fx.size
              have h2 := HFx2.out.size
              have h3 := HLi.out.size
              have h4 := HFD.out.size
              rcases hj.1 with h | h
              · exact HRl.out j h
              · omega⟩⟩
      case hdone =>
        intro LL xx ww hI hL
        have l0 := hL 0 (by decide)
        have l1 := hL 1 (by decide)
        have l2 := hL 2 (by decide)
        have l3 := hL 3 (by decide)
        have l4 := hL 4 (by decide)
        have l5 := hL 5 (by decide)
        have l6 := hL 6 (by decide)
        have l7 := hL 7 (by decide)
        have l8 := hL 8 (by decide)
        have l9 := hL 9 (by decide)
        clear hL
        try dsimp only
        obtain ⟨v9, D9, R9, HP3, HR9⟩ := hI.f9 l9
        have HP3 := Lib.hid HP3
        have HR9 := Lib.hid HR9
        clear hI l0 l1 l2 l3 l4 l5 l6 l7 l8 l9 g0 g1 g2 g3 g4 CA CG
        go_wp2
        go_roundw
        case rel => exact ⟨k + 1, L2, v9, D9, R9, by go_num, by omega, HLn.out, HP3.out, HR9.out⟩
        case measure => simp [intOf]; omega
    · obtain ⟨q0, f0⟩ := HP.out.fx.cellF HQ0.out.1 HQ0.out.2 (fun h => h)
      obtain ⟨q1, f1⟩ := HP.out.fx.cellF HQ1.out.1 HQ1.out.2 (fun h => h)
      obtain ⟨r0, _⟩ := HP.out.r0
      obtain ⟨r1, _⟩ := HP.out.r1
      obtain ⟨k1, k2, k3, k4⟩ := put_two wr (qb := qb) (.int .i64 (N : Nat)) (.slice ro L.length rc) q0 q1
      have HK0 : Hid ((wr.setCell ⟨qb, 0, none⟩ (.int .i64 (N : Nat))).cell? ⟨qb, 0, none⟩ = some (.int .i64 (N : Nat))) := Lib.hid (World.cell?_setCell_same _ _ _ q0)
      have HK1 := Lib.hid k1
      have HK2 := Lib.hid k2
      have HK3 := Lib.hid k3
      have HK4 := Lib.hid k4
      have hqr : ¬ rb = qb := fun e => by have h1 := HP.out.rD.2; have h2 := HQb.out; have h3 := HZq.out; omega
      have s0 : Fx (fun j => j = qb) wr wr := Fx.refl _ _
      have g5 : ∀ W, Fx (fun j => j = qb) wr W → W.cell? ⟨rb, 0, none⟩ = some (.int .i64 (N : Nat)) := fun W h => h.cell' r0 hqr
      have g6 : ∀ W, Fx (fun j => j = qb) wr W → W.cell? ⟨rb, 1, none⟩ = some (.slice ro L.length rc) := fun W h => h.cell' r1 hqr
      have hex : (decide ((k : Int) < (l.length : Int)) = false ∧ decide (k < l.length) = false) ∨ (decide ((k : Int) < (l.length : Int)) = true ∧ decide (k < l.length) = true ∧ decide ((0 : Int) < (N : Int)) = false ∧ decide (0 < N) = false) := by
        by_cases h1 : k < l.length
        · exact .inr ⟨decide_eq_true (by omega), decide_eq_true (by omega), decide_eq_false (by omega), decide_eq_false (by omega)⟩
        · exact .inl ⟨decide_eq_false (by omega), decide_eq_false (by omega)⟩
      clear k1 k2 k3 k4 r0 r1 hlt hqr
      have HDr : Hid (∀ W, Fx (fun j => j = qb) wr W → Drw w W b N L (.slice ro L.length rc) D R) := Lib.hid fun W h => by
        have h1 := HQb.out
        have h2 := HZq.out
        have hD : ∀ j, D j → ¬ j = qb := fun j hj e => by have := HP.out.lo j hj; omega
        have hR : ∀ j, R j → ¬ j = qb := fun j hj e => by have := HRl.out j hj; omega
        refine ⟨(HFq.out.trans HP.out.fx).trans' h fun j e hl => by have e : j = qb := e; omega, HP.out.g.keep h hD, HP.out.row.keep h hR, fun j hj => by have := HP.out.lo j hj; omega, fun j hj => by have := HRl.out j hj; omega, fun j hj => (HP.out.ap j hj).1, fun j hj => Nat.lt_of_lt_of_le (HP.out.eb j hj) h.size⟩
      rcases hex with ⟨d1, d1'⟩ | ⟨d1, d1', d2, d2'⟩
      · go_wp2_with fail
        refine wp_region_H (fun W => Fx (fun j => j = qb) wr W) (by kernel_rfl) s0.drew ?_
        intro hS
        refine wpAnyH_take (i := 0) (v := ?_) rfl (by kernel_rfl) (by kernel_rfl) (by kernel_rfl) (fun _ _ _ h => h) (Or.inl ⟨by rfl, ?_⟩) hS ?_
        rotate_left
        · (intro W hs; go_simp; first | done | with_reducible rfl)
        try simp only [Act.put, List.getElem_toArray, List.getElem_cons_zero, List.setIfInBounds_toArray, List.set_cons_zero, List.set_cons_succ]
        refine wpAnyH_take (i := 1) (v := ?_) rfl (by kernel_rfl) (by kernel_rfl) (by kernel_rfl) (fun _ _ _ h => h) (Or.inl ⟨by rfl, ?_⟩) hS ?_
        rotate_left
        · (intro W hs; go_simp; first | done | with_reducible rfl)
        try simp only [Act.put, List.getElem_toArray, List.getElem_cons_zero, List.getElem_cons_succ, List.setIfInBounds_toArray, List.set_cons_zero, List.set_cons_succ]
        refine wpAnyH_take (i := 2) (v := ?_) rfl (by kernel_rfl) (by kernel_rfl) (by kernel_rfl) (fun _ _ _ h => h) (Or.inl ⟨by rfl, ?_⟩) hS ?_
        rotate_left
        · (intro W hs; go_simp; first | done | with_reducible rfl)
        try simp only [Act.put, List.getElem_toArray, List.getElem_cons_zero, List.getElem_cons_succ, List.setIfInBounds_toArray, List.set_cons_zero, List.set_cons_succ]
        refine wpH_one (i := 3) (by kernel_rfl) rfl (fun K hK => ?_)
        go_simp
        refine hK.out _ _ ((s0.drew.setCell (a := ⟨qb, 0, none⟩) (.inr rfl) _).setCell (a := ⟨qb, 1, none⟩) (.inr rfl) _) (fun hS' => ?_)
        clear hK K hS
        have hS := hS'
        clear hS'
        refine wpAnyH_done (by kernel_rfl) ?_ _
        have HFz := Lib.hid hS
        clear g5 g6 hS s0 q0 f0 q1 f1
        go_wp2
        refine bodyPost_ret (v := .tuple #[.pointer (some ⟨b, 0, none⟩), .agg #[.int .i64 (N : Nat), .slice ro L.length rc]]) (by have g0 := HK0.out; have g1 := HK1.out; have g2 := HK2.out; simp [results, Try.results9, go_sem, g1, g2]) rfl ⟨b, N, L, _, D, R, rfl, HDr.out _ HFz.out, hNm, by omega⟩
      · go_wp2_with fail
        refine wp_region_H (fun W => Fx (fun j => j = qb) wr W) (by kernel_rfl) s0.drew ?_
        intro hS
        refine wpAnyH_take (i := 0) (v := ?_) rfl (by kernel_rfl) (by kernel_rfl) (by kernel_rfl) (fun _ _ _ h => h) (Or.inl ⟨by rfl, ?_⟩) hS ?_
        rotate_left
        · (intro W hs; go_simp; first | done | with_reducible rfl)
        try simp only [Act.put, List.getElem_toArray, List.getElem_cons_zero, List.setIfInBounds_toArray, List.set_cons_zero, List.set_cons_succ]
        refine wpAnyH_take (i := 1) (v := ?_) rfl (by kernel_rfl) (by kernel_rfl) (by kernel_rfl) (fun _ _ _ h => h) (Or.inl ⟨by rfl, ?_⟩) hS ?_
        rotate_left
        · (intro W hs; go_simp; first | done | with_reducible rfl)
        try simp only [Act.put, List.getElem_toArray, List.getElem_cons_zero, List.getElem_cons_succ, List.setIfInBounds_toArray, List.set_cons_zero, List.set_cons_succ]
        refine wpAnyH_take (i := 2) (v := ?_) rfl (by kernel_rfl) (by kernel_rfl) (by kernel_rfl) (fun _ _ _ h => h) (Or.inl ⟨by rfl, ?_⟩) hS ?_
        rotate_left
        · (intro W hs; go_simp; first | done | with_reducible rfl)
        try simp only [Act.put, List.getElem_toArray, List.getElem_cons_zero, List.getElem_cons_succ, List.setIfInBounds_toArray, List.set_cons_zero, List.set_cons_succ]
        refine wpH_one (i := 3) (by kernel_rfl) rfl (fun K hK => ?_)
        go_simp
        refine hK.out _ _ ((s0.drew.setCell (a := ⟨qb, 0, none⟩) (.inr rfl) _).setCell (a := ⟨qb, 1, none⟩) (.inr rfl) _) (fun hS' => ?_)
        clear hK K hS
        have hS := hS'
        clear hS'
        refine wpAnyH_done (by kernel_rfl) ?_ _
        have HFz := Lib.hid hS
        clear g5 g6 hS s0 q0 f0 q1 f1
        go_wp2
        refine bodyPost_ret (v := .tuple #[.pointer (some ⟨b, 0, none⟩), .agg #[.int .i64 (N : Nat), .slice ro L.length rc]]) (by have g0 := HK0.out; have g1 := HK1.out; have g2 := HK2.out; simp [results, Try.results9, go_sem, g1, g2]) rfl ⟨b, N, L, _, D, R, rfl, HDr.out _ HFz.out, hNm, by omega⟩
end
#print axioms drawn_any
end Go.Proofs.Yteafkafkbipcmaa
