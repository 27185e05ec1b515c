/- The reference of closures: Node, Has, less, Add. | The reference of closures: Add. | The reference of closures: Without. -/
import Derived.Test.YtfpggeiphbekoaaGreatDoorA6

namespace Go.Proofs.YtfpggeiphbekoaaGreatDoor
open Go.RowKit
set_option linter.unusedVariables false

section
variable {w w' : World} {D S : Nat → Prop} {L : List (Int × Int)} {v : Value}
theorem refNode_any (h : PairsV w D v L) (N x : Int) : Calls Tryz.prog 11 #[.agg #[.int .i64 N, v], .int .i64 x] w fun e w' => e = .returned (.bool (decide (0 ≤ x ∧ x < N))) ∧ Fx No w w' := by
  obtain ⟨ao, cap, rfl, _⟩ := h.facts
  clear h
  by_cases h0 : 0 ≤ x
  · have d0 : decide (0 ≤ x) = true := decide_eq_true h0
    have HR : Hid (decide (0 ≤ x ∧ x < N) = decide (x < N)) := Lib.hid (by simp [h0])
    clear h0
    go_enter Tryz.func11, Tryz.ntmps11
    go_wp2
    go_ret
    exact ⟨by rw [HR.out]; rfl, (Fx.refl No w).alloc _⟩
  · have d0 : decide (0 ≤ x) = false := decide_eq_false h0
    have HR : Hid (decide (0 ≤ x ∧ x < N) = false) := Lib.hid (by simp [h0])
    clear h0
    go_enter Tryz.func11, Tryz.ntmps11
    go_wp2
    go_ret
    exact ⟨by rw [HR.out]; rfl, (Fx.refl No w).alloc _⟩
theorem refLess_any (x y z u : Int) (w : World) : Calls Tryz.prog 39 #[.agg #[.int .i64 x, .int .i64 y], .agg #[.int .i64 z, .int .i64 u]] w fun e w' => e = .returned (.bool (lessP (x, y) (z, u))) ∧ Fx No w w' := by
  have HF : Hid (∀ a b, Fx No w ((w.alloc a).alloc b)) := Lib.hid fun a b => ((Fx.refl No w).alloc a).alloc b
  by_cases h0 : x < z
  · have d0 : decide (x < z) = true := decide_eq_true h0
    have HR : Hid (lessP (x, y) (z, u) = true) := Lib.hid (lessP_iff.2 (.inl h0))
    clear h0
    go_enter Tryz.func39, Tryz.ntmps39
    go_wp2
    go_ret
    exact ⟨by rw [HR.out]; rfl, HF.out _ _⟩
  · have d0 : decide (x < z) = false := decide_eq_false h0
    by_cases h1 : x = z
    · subst h1
      have HR : Hid (lessP (x, y) (x, u) = decide (y < u)) := Lib.hid (by simp [lessP])
      clear h0
      go_enter Tryz.func39, Tryz.ntmps39
      go_wp2
      go_ret
      exact ⟨by rw [HR.out]; rfl, HF.out _ _⟩
    · have d1 : (x == z) = false := by simpa using h1
      have HR : Hid (lessP (x, y) (z, u) = false) := Lib.hid (by simp [lessP, h1, h0])
      clear h0 h1
      go_enter Tryz.func39, Tryz.ntmps39
      go_wp2
      go_ret
      exact ⟨by rw [HR.out]; rfl, HF.out _ _⟩
set_option maxHeartbeats 1000000 in
theorem refHas_any (h : PairsV w D v L) (N x y : Int) : Calls Tryz.prog 38 #[.agg #[.int .i64 N, v], .agg #[.int .i64 x, .int .i64 y]] w fun e w' => e = .returned (.bool (decide ((x, y) ∈ L))) ∧ Fx No w w' := by
  obtain ⟨ao, cap, rfl, _, _, hc⟩ := h.facts
  have HC := Lib.hid hc
  clear h hc
  go_enter Tryz.func38, Tryz.ntmps38
  go_wp2_with fail
  refine wp_hold (fun W => Fx No w W ∧ W.cell? ⟨w.heap.size, 1, none⟩ = some (.slice ao L.length cap) ∧ W.cell? ⟨w.heap.size + 1, 0, none⟩ = some (.int .i64 x) ∧ W.cell? ⟨w.heap.size + 1, 1, none⟩ = some (.int .i64 y)) ⟨((Fx.refl No w).alloc _).alloc _, by simp, by simp, by simp⟩ ?_
  rintro w1 ⟨hf, k1, k2, k3⟩
  obtain ⟨eb, heb⟩ : ∃ e, e = w.heap.size := ⟨_, rfl⟩
  rw [← heb] at k1 k2 k3 ⊢
  have HF := Lib.hid hf
  have HK1 := Lib.hid k1
  have HK2 := Lib.hid k2
  have HK3 := Lib.hid k3
  clear hf heb k1 k2 k3
  go_loopw [5] (fun i ws => ∃ q : Nat, i = .int .i64 q ∧ q ≤ L.length ∧ Fx No w1 ws ∧ ∀ i, i < q → gt L i ≠ (x, y)) (fun i _ => L.length - (intOf i).toNat)
  case atStart => exact ⟨0, rfl, Nat.zero_le _, Fx.refl _ _, fun i hi => by omega⟩
  case round =>
    obtain ⟨q, rfl, hq, hf, hA⟩ := hrel
    have HFq := Lib.hid hf
    have HA := Lib.hid hA
    have k1 := hf.cell' HK1.out (fun h => h)
    have k2 := hf.cell' HK2.out (fun h => h)
    have k3 := hf.cell' HK3.out (fun h => h)
    clear hf hA
    by_cases hql : q < L.length
    · obtain ⟨b, o, rfl, _, c1, c2⟩ := HC.out q hql
      have c1 := HFq.out.cell' (HF.out.cell' c1 (fun h => h)) (fun h => h)
      have c2 := HFq.out.cell' (HF.out.cell' c2 (fun h => h)) (fun h => h)
      obtain ⟨z, hz⟩ : ∃ z, z = (gt L q).1 := ⟨_, rfl⟩
      obtain ⟨u, hu⟩ : ∃ z, z = (gt L q).2 := ⟨_, rfl⟩
      rw [← hz] at c1
      rw [← hu] at c2
      have HG : Hid (gt L q = (z, u)) := Lib.hid (Prod.ext hz.symm hu.symm)
      have HM := Lib.hid (gt_mem hql)
      clear hz hu
      have hx : ∀ W, (Op.equalIn 10000 44 (.agg #[.int .i64 z, .int .i64 u]) (.agg #[.int .i64 x, .int .i64 y])).run Tryz.prog W = .ok (z == x && u == y) W := fun W => run_eqe z u x y W
      obtain ⟨t, ht⟩ : ∃ t, t = (z == x && u == y) := ⟨_, rfl⟩
      rw [← ht] at hx
      have HTt := Lib.hid ht
      have hql2 : (q : Int) < (L.length : Int) := by omega
      clear ht
      go_wp2_with fail
      go_quiet (fail)
      all_goals
        have HF2 := Lib.hid (HFq.out.drewN nq)
        generalize wr.drewN nq = wr at *
        clear hx k1 k2 k3 c1 c2
        cases t
        · go_wp2
          go_roundw
          case rel => exact ⟨q + 1, by go_num, by omega, HF2.out, fun i hi => by
            by_cases e : i = q
            · subst e
              rw [HG.out]
              intro e
              simp only [Prod.mk.injEq] at e
              have := HTt.out
              simp [e.1, e.2] at this
            · exact HA.out i (by omega)⟩
          case measure => simp [intOf]; omega
        · have HR : Hid (decide ((x, y) ∈ L) = true) := Lib.hid (by
            have h1 := HTt.out
            have h2 : z = x ∧ u = y := by simpa using h1.symm
            rw [decide_eq_true_eq, ← h2.1, ← h2.2, ← HG.out]
            exact HM.out)
          go_wp2
          go_ret
          exact ⟨by rw [HR.out]; rfl, HF.out.trans HF2.out⟩
    · obtain rfl : q = L.length := by omega
      have HR : Hid (decide ((x, y) ∈ L) = false) := Lib.hid (by
        rw [decide_eq_false_iff_not]
        intro hm
        obtain ⟨i, hi, e⟩ := List.getElem_of_mem hm
        exact HA.out i hi (by rw [← e]; simp [gt, hi]))
      go_wp2
      go_ret
      exact ⟨by rw [HR.out]; rfl, HF.out.trans HFq.out⟩
end
#print axioms refHas_any
#print axioms refLess_any
#print axioms refNode_any
end Go.Proofs.YtfpggeiphbekoaaGreatDoor

namespace Go.Proofs.YtfpggeiphbekoaaGreatDoor
open Go.RowKit
set_option linter.unusedVariables false

theorem info_edge17 : (Tryz.prog.info? 44).map (fun i => (i.zero, i.size, i.bytes)) = some (some (.agg #[.int .i64 0, .int .i64 0]), 2, 16) := by kernel_rfl
abbrev OwnE (w : World) (base : Nat) (v : Value) (ps : List (Int × Int)) : Prop := OwnT 44 e2 2 w base v ps
/-- a reference's closure under way: its edges are of the call's own -/
structure AccS (w ws : World) (ob : Nat) (N : Int) (vs : Value) (acc : List (Int × Int)) : Prop where
  fx : Fx No w ws
  o0 : ws.cell? ⟨ob, 0, none⟩ = some (.int .i64 N)
  o1 : ws.cell? ⟨ob, 1, none⟩ = some vs ∧ ws.frozen? ⟨ob, 1, none⟩ = false
  own : OwnE ws (ob + 1) vs acc
  lo : w.heap.size ≤ ob ∧ ob < ws.heap.size
theorem AccS.no {w ws w' : World} {ob : Nat} {N : Int} {vs : Value} {acc : List (Int × Int)} (h : AccS w ws ob N vs acc) (hf : Fx No ws w') : AccS w w' ob N vs acc :=
  ⟨h.fx.trans hf, hf.cell' h.o0 (fun h => h), hf.cellF h.o1.1 h.o1.2 (fun h => h), h.own.no hf, h.lo.1, by have := hf.size; have := h.lo.2; omega⟩
theorem AccS.snoc {w wr W w2 : World} {ob : Nat} {N : Int} {vs v' : Value} {acc : List (Int × Int)} {x : Int × Int} (h : AccS w wr ob N vs acc) (hW : Fx No wr W) (hfx : Fx (fun b => vs.ownBlock = some b) W w2)
    (ho : w2.ownsRow (ob + 1) 44 2 v' (acc.length + 1) (icells e2 acc ++ ints (e2 x))) :
    AccS w (w2.setCell ⟨ob, 1, none⟩ v') ob N v' (acc ++ [x]) := by
  obtain ⟨l1, l2⟩ := h.lo
  have hfa : Fx (fun b => vs.ownBlock = some b) wr w2 := hW.no.trans hfx
  have hob : ¬ vs.ownBlock = some ob := fun e => by have := (h.own.lt e).1; omega
  have hf2 : Fx (fun j => j = ob) w2 (w2.setCell ⟨ob, 1, none⟩ v') := Fx.put _ _ _ _
  have hsz := hfa.size
  refine ⟨?_, ?_, ?_, ?_, l1, by simp [World.setCell]; omega⟩
  · exact (h.fx.trans' hfa fun g e hl => by have := (h.own.lt e).1; omega).setCell (.inl l1) _
  · rw [World.cell?_setCell_other _ _ _ _ (by intro e; injection e; omega)]
    exact hfa.cell' h.o0 hob
  · obtain ⟨c1, c2⟩ := hfa.cellF h.o1.1 h.o1.2 hob
    exact ⟨World.cell?_setCell_same _ _ _ c1, by simpa using c2⟩
  · exact (OwnT.snoc ho).fx hf2 fun g e e2 => by have := (World.ownsRow.lt ho g e).1; omega
theorem put_two (W : World) {qb : Nat} {a b : Value} (x y : Value) (q0 : W.cell? ⟨qb, 0, none⟩ = some a) (q1 : W.cell? ⟨qb, 1, none⟩ = some b) :
    ((W.setCell ⟨qb, 0, none⟩ x).setCell ⟨qb, 1, none⟩ y).cell? ⟨qb, 0, none⟩ = some x ∧ ((W.setCell ⟨qb, 0, none⟩ x).setCell ⟨qb, 1, none⟩ y).cell? ⟨qb, 1, none⟩ = some y ∧
    Fx (fun j => j = qb) W ((W.setCell ⟨qb, 0, none⟩ x).setCell ⟨qb, 1, none⟩ y) ∧ ((W.setCell ⟨qb, 0, none⟩ x).setCell ⟨qb, 1, none⟩ y).heap.size = W.heap.size := by
  refine ⟨?_, ?_, (Fx.put _ _ _ _).trans (Fx.put _ _ _ _), by simp [World.setCell]⟩
  · rw [World.cell?_setCell_other _ _ _ _ (by intro e; injection e; omega)]; exact World.cell?_setCell_same _ _ _ q0
  · exact World.cell?_setCell_same _ _ _ (by rw [World.cell?_setCell_other _ _ _ _ (by intro e; injection e; omega)]; exact q1)
section
variable {w w' : World} {D S : Nat → Prop} {L : List (Int × Int)} {v : Value}
/-- what Add and Without tell: a closure of the reference, in memory that is new or was D's -/
def RefR (D : Nat → Prop) (N : Int) (L' : List (Int × Int)) (w : World) (e : Ending) (w' : World) : Prop := ∃ v', e = .returned (.agg #[.int .i64 N, v']) ∧ Fx No w w' ∧ PairsV w' (fun k => (D k ∨ w.heap.size ≤ k) ∧ k < w'.heap.size) v' L'
set_option maxRecDepth 100000 in
set_option maxHeartbeats 4000000 in
theorem refAdd_any (h : PairsV w D v L) (N x y : Int) (hl : L.length ≤ 1000000) : Calls Tryz.prog 12 #[.agg #[.int .i64 N, v], .agg #[.int .i64 x, .int .i64 y]] w (RefR D N (refAddL L (x, y)) w) := by
  obtain ⟨ii, hi, hz, hs, hb⟩ := info_parts info_edge17
  have H := Lib.hid h.bound
  obtain ⟨ao, cap, rfl, _, _, hc⟩ := h.facts
  have HC := Lib.hid hc
  have HRA : Hid (refAddL L (x, y) = if (x, y) ∈ L then L else if (insSt (x, y) L).2 = true then (insSt (x, y) L).1 else (insSt (x, y) L).1 ++ [(x, y)]) := Lib.hid (by rw [insSt_all]; rfl)
  clear h hc
  go_enter Tryz.func12, Tryz.ntmps12
  go_wp2_with fail
  refine (refHas_any (H.out.no ((((Fx.refl No w).alloc _).alloc _).alloc _)) N x y).mono ?_
  rintro e w1 ⟨rfl, hf⟩
  obtain ⟨cb, hcb⟩ : ∃ e, e = w.heap.size := ⟨_, rfl⟩
  have c0 : w1.cell? ⟨w.heap.size, 0, none⟩ = some (.int .i64 N) := hf.cell' (by go_simp) (fun h => h)
  have c1 : w1.cell? ⟨w.heap.size, 1, none⟩ = some (.slice ao L.length cap) := hf.cell' (by go_simp) (fun h => h)
  have e0 : w1.cell? ⟨w.heap.size + 1, 0, none⟩ = some (.int .i64 x) := hf.cell' (by go_simp) (fun h => h)
  have e1 : w1.cell? ⟨w.heap.size + 1, 1, none⟩ = some (.int .i64 y) := hf.cell' (by go_simp) (fun h => h)
  obtain ⟨q0, f0⟩ : w1.cell? ⟨w.heap.size + 1 + 1, 0, none⟩ = some (.int .i64 0) ∧ w1.frozen? ⟨w.heap.size + 1 + 1, 0, none⟩ = false := hf.cellF (by go_simp) (by go_simp) (fun h => h)
  obtain ⟨q1, f1⟩ : w1.cell? ⟨w.heap.size + 1 + 1, 1, none⟩ = some (.slice none 0 0) ∧ w1.frozen? ⟨w.heap.size + 1 + 1, 1, none⟩ = false := hf.cellF (by go_simp) (by go_simp) (fun h => h)
  have HF1 : Hid (Fx No w w1) := Lib.hid ((((Fx.refl No w).alloc _).alloc _).alloc _ |>.trans hf)
  have hz1 := hf.size
  simp only [World.size_alloc] at hz1
  rw [← hcb] at c0 c1 e0 e1 q0 f0 q1 f1 hz1 ⊢
  obtain ⟨eb, heb⟩ : ∃ e, e = cb + 1 := ⟨_, rfl⟩
  rw [← heb] at e0 e1 q0 f0 q1 f1 hz1 ⊢
  obtain ⟨qb, hqb⟩ : ∃ e, e = eb + 1 := ⟨_, rfl⟩
  rw [← hqb] at q0 f0 q1 f1 hz1 ⊢
  have hq0 : w.heap.size ≤ qb := by omega
  have hq1 : qb < w1.heap.size := by omega
  have hDq : ∀ k, k < w.heap.size → k ≠ qb := fun k hk => by omega
  have HDq := Lib.hid hDq
  clear hf hDq
  by_cases hin : (x, y) ∈ L
  · have hd : decide ((x, y) ∈ L) = true := decide_eq_true hin
    have HR : Hid (refAddL L (x, y) = L) := Lib.hid (by rw [HRA.out, if_pos hin])
    rw [hd]
    have HFp : Hid (Fx (fun j => j = qb) w1 ((w1.setCell ⟨qb, 0, none⟩ (.int .i64 N)).setCell ⟨qb, 1, none⟩ (.slice ao L.length cap))) := Lib.hid ((Fx.put _ _ _ _).trans (Fx.put _ _ _ _))
    have g1 : ((w1.setCell ⟨qb, 0, none⟩ (.int .i64 N)).setCell ⟨qb, 1, none⟩ (.slice ao L.length cap)).cell? ⟨qb, 0, none⟩ = some (.int .i64 N) := by
      rw [World.cell?_setCell_other _ _ _ _ (by intro e; injection e; omega)]; exact World.cell?_setCell_same _ _ _ q0
    have g2 : ((w1.setCell ⟨qb, 0, none⟩ (.int .i64 N)).setCell ⟨qb, 1, none⟩ (.slice ao L.length cap)).cell? ⟨qb, 1, none⟩ = some (.slice ao L.length cap) :=
      World.cell?_setCell_same _ _ _ (by rw [World.cell?_setCell_other _ _ _ _ (by intro e; injection e; omega)]; exact q1)
    have HG1 := Lib.hid g1
    have HG2 := Lib.hid g2
    have hzq : Hid (((w1.setCell ⟨qb, 0, none⟩ (.int .i64 N)).setCell ⟨qb, 1, none⟩ (.slice ao L.length cap)).heap.size = w1.heap.size) := Lib.hid (by simp [World.setCell])
    clear hin hd g1 g2 heb hqb hcb
    go_wp2
    refine bodyPost_ret (v := .agg #[.int .i64 N, .slice ao L.length cap]) (by have g1 := HG1.out; have g2 := HG2.out; simp [results, Tryz.results12, go_sem, g1, g2]) rfl ⟨_, rfl, ?_, ?_⟩
    · exact (HF1.out.setCell (.inl hq0) _).setCell (.inl hq0) _
    · rw [HR.out, hzq.out]
      exact ((H.out.no HF1.out).keep HFp.out fun k hk e => HDq.out k hk.2 e).mono fun k hk => ⟨.inl hk.1, by have := hk.2; omega⟩
  · have hd : decide ((x, y) ∈ L) = false := decide_eq_false hin
    rw [hd]
    have HR : Hid (refAddL L (x, y) = if (insSt (x, y) L).2 = true then (insSt (x, y) L).1 else (insSt (x, y) L).1 ++ [(x, y)]) := Lib.hid (by rw [HRA.out, if_neg hin])
    have hcb1 : cb < w1.heap.size := by omega
    have heb1 : eb < w1.heap.size := by omega
    clear hin hd heb hqb hcb
    go_wp2
    refine wp_hold (fun W => AccS w1 W w1.heap.size N (.slice none 0 0) []) ⟨(Fx.refl No w1).alloc _, by go_simp, ⟨by go_simp, by go_simp⟩, OwnT.nil _ _, Nat.le_refl _, by simp⟩ ?_
    rintro W0 hA
    have HA := Lib.hid hA
    obtain ⟨ob, hob⟩ : ∃ o, o = w1.heap.size := ⟨_, rfl⟩
    rw [← hob] at HA ⊢
    have HOb : Hid (ob = w1.heap.size) := Lib.hid hob
    have hqo : qb < ob := by omega
    have HQ0 := Lib.hid q0
    have HF0 := Lib.hid f0
    have HQ1 := Lib.hid q1
    have HFf1 := Lib.hid f1
    have HC1 := Lib.hid c1
    have HE0 := Lib.hid e0
    have HE1 := Lib.hid e1
    clear hA hob q0 f0 q1 f1 c0 c1 e0 e1
    go_loopw [6, 7] (fun d i ws => ∃ (k : Nat) (vs : Value), i = .int .i64 k ∧ k ≤ L.length ∧ d = .bool (insSt (x, y) (L.take k)).2 ∧ AccS w1 ws ob N vs (insSt (x, y) (L.take k)).1) (fun _ i _ => L.length - (intOf i).toNat)
    case atStart => exact ⟨0, _, rfl, Nat.zero_le _, rfl, HA.out⟩
    case round =>
      obtain ⟨k, vs, rfl, hk, rfl, hA⟩ := hrel
      have hacl := insSt_len (x, y) (L.take k) [] false
      rw [List.length_take] at hacl
      have hacl2 : (insSt (x, y) (L.take k)).1.length ≤ 1000001 := by unfold insSt; simp at hacl; omega
      obtain ⟨acc, hacc⟩ : ∃ a, a = (insSt (x, y) (L.take k)).1 := ⟨_, rfl⟩
      obtain ⟨d, hd⟩ : ∃ a, a = (insSt (x, y) (L.take k)).2 := ⟨_, rfl⟩
      rw [← hacc] at hA hacl2
      rw [← hd]
      have HSt : Hid (insSt (x, y) (L.take k) = (acc, d)) := Lib.hid (Prod.ext hacc.symm hd.symm)
      obtain ⟨so, sc, rfl, _⟩ := SlV.ofOwns hA.own
      have HA := Lib.hid hA
      have c1 := hA.fx.cell' HC1.out (fun h => h)
      have e0 := hA.fx.cell' HE0.out (fun h => h)
      have e1 := hA.fx.cell' HE1.out (fun h => h)
      obtain ⟨o1, o2⟩ := hA.o1
      have hlo := hA.lo.2
      clear hA hacc hd hacl
      by_cases hlt : k < L.length
      · obtain ⟨b, o, rfl, hDb, p1, p2⟩ := HC.out k hlt
        have hbw := World.block_lt_of_cell? w _ p1
        have hbw : b < w.heap.size := hbw
        have q1' := p1
        have q2' := p2
        have p1 := HA.out.fx.cell' (HF1.out.cell' p1 (fun h => h)) (fun h => h)
        have p2 := HA.out.fx.cell' (HF1.out.cell' p2 (fun h => h)) (fun h => h)
        obtain ⟨z, hz'⟩ : ∃ z, z = (gt L k).1 := ⟨_, rfl⟩
        obtain ⟨u, hu⟩ : ∃ z, z = (gt L k).2 := ⟨_, rfl⟩
        rw [← hz'] at p1 q1'
        rw [← hu] at p2 q2'
        have HNx : Hid (insSt (x, y) (L.take (k + 1)) = insStep (x, y) (acc, d) (z, u)) := Lib.hid (by rw [insSt_take hlt, HSt.out, show gt L k = (z, u) from Prod.ext hz'.symm hu.symm])
        have hkl : (k : Int) < (L.length : Int) := by omega
        have hk0 : (0 : Int) ≤ (k : Int) := by omega
        clear hz' hu
        have HW1 := Lib.hid (HF1.out.cell' q1' (fun h => h))
        have HW2 := Lib.hid (HF1.out.cell' q2' (fun h => h))
        clear q1' q2'
        have hcbl : cb < w1.heap.size := hcb1
        have hw01 : w.heap.size ≤ w1.heap.size := HF1.out.size
        have hob1 : w1.heap.size = ob := HOb.out.symm
        have HSK : Hid (∀ W, AccS w1 W ob N (.slice so acc.length sc) acc → True) := Lib.hid fun _ _ => trivial
        cases d
        · have CL : Hid (∀ W, Fx No wr W → Calls Tryz.prog 39 #[.agg #[.int .i64 x, .int .i64 y], .agg #[.int .i64 z, .int .i64 u]] W fun e w' => e = .returned (.bool (lessP (x, y) (z, u))) ∧ Fx No W w') := Lib.hid fun W _ => refLess_any x y z u W
          obtain ⟨t, ht⟩ : ∃ t, t = lessP (x, y) (z, u) := ⟨_, rfl⟩
          rw [← ht] at CL
          have HTt := Lib.hid ht
          have g0 : ∀ W, Fx No wr W → W.cell? ⟨cb, 1, none⟩ = some (.slice (some ⟨b, o, none⟩) L.length cap) := fun W h => h.cell' c1 (fun h => h)
          have g1 : ∀ W, Fx No wr W → W.cell? ⟨eb, 0, none⟩ = some (.int .i64 x) := fun W h => h.cell' e0 (fun h => h)
          have g2 : ∀ W, Fx No wr W → W.cell? ⟨eb, 1, none⟩ = some (.int .i64 y) := fun W h => h.cell' e1 (fun h => h)
          have g3 : ∀ W, Fx No wr W → W.cell? ⟨b, o + k * 2, none⟩ = some (.int .i64 z) := fun W h => h.cell' p1 (fun h => h)
          have g4 : ∀ W, Fx No wr W → W.cell? ⟨b, o + k * 2 + 1, none⟩ = some (.int .i64 u) := fun W h => h.cell' p2 (fun h => h)
          have s0 : Fx No wr wr := Fx.refl _ _
          have hx0 := c1
          have HP1 := Lib.hid p1
          have HP2 := Lib.hid p2
          have HEe0 := Lib.hid e0
          have HEe1 := Lib.hid e1
          have HCc1 := Lib.hid c1
          clear ht hx0 o1 o2 c1 e0 e1 p1 p2
          go_wp2_with fail
          go_region_held3 (fun W => Fx No wr W)
            (first
              | exact s0.drew
              | exact Fx.transNo (by assumption) hfi)
            (first
              | (go_at_call 39; with_reducible refine (CL.out _ (by assumption)).mono ?_; rintro e w' ⟨rfl, hfi⟩))
          all_goals
            have HK : Hid (Fx No wr w') := by assumption
            have HX := Lib.hid (HA.out.no HK.out)
            clear g0 g1 g2 g3 g4 s0 CL
            cases t
            · skip
              have HNx : Hid (insSt (x, y) (L.take (k + 1)) = (acc ++ [(z, u)], false)) := Lib.hid (by rw [HNx.out, insStep, ← HTt.out]; simp)
              go_wp2_with fail
              refine wp_hold (fun W => AccS w1 W ob N (.slice so acc.length sc) acc) HX.out ?_
              rintro wx hX
              have HX := Lib.hid hX
              clear hX
              have c1 := HX.out.fx.cell' HC1.out (fun h => h)
              have p1 := HX.out.fx.cell' HW1.out (fun h => h)
              have p2 := HX.out.fx.cell' HW2.out (fun h => h)
              obtain ⟨o1, o2⟩ := HX.out.o1
              have hlo := HX.out.lo.2
              have hvs : ∀ g, (Value.slice so acc.length sc).ownBlock = some g → ob + 1 ≤ g := fun g e => (World.ownsRow.lt HX.out.own g e).1
              have HVs := Lib.hid hvs
              have s0 : Fx (fun g => (Value.slice so acc.length sc).ownBlock = some g ∨ g = ob) wx wx := Fx.refl _ _
              have ns : ∀ j, j < w1.heap.size → ¬ ((Value.slice so acc.length sc).ownBlock = some j ∨ j = ob) := fun j hj h => by
                rcases h with h | h
                · have := hvs j h; omega
                · omega
              have g0 : ∀ W, Fx (fun g => (Value.slice so acc.length sc).ownBlock = some g ∨ g = ob) wx W → W.cell? ⟨cb, 1, none⟩ = some (.slice (some ⟨b, o, none⟩) L.length cap) := fun W h => h.cell' c1 (ns _ hcbl)
              have g3 : ∀ W, Fx (fun g => (Value.slice so acc.length sc).ownBlock = some g ∨ g = ob) wx W → W.cell? ⟨b, o + k * 2, none⟩ = some (.int .i64 z) := fun W h => h.cell' p1 (ns _ (by show b < w1.heap.size; omega))
              have g4 : ∀ W, Fx (fun g => (Value.slice so acc.length sc).ownBlock = some g ∨ g = ob) wx W → W.cell? ⟨b, o + k * 2 + 1, none⟩ = some (.int .i64 u) := fun W h => h.cell' p2 (ns _ (by show b < w1.heap.size; omega))
              have HOw : Hid (∀ W, Fx No wx W → W.ownsRow (ob + 1) 44 2 (.slice so acc.length sc) (acc.length) (icells e2 acc)) := Lib.hid fun W hf => by have := HX.out.own.no hf; unfold OwnT at this; simpa using this
              clear hvs c1 p1 p2 ns
              refine wp_region_G 10 (fun b W => Fx (fun g => (Value.slice so acc.length sc).ownBlock = some g ∨ g = ob) wx W ∧ (b = false → W.cell? ⟨ob, 1, none⟩ = some (.slice so acc.length sc) ∧ W.frozen? ⟨ob, 1, none⟩ = false)) (by kernel_rfl) ⟨s0.drew, fun _ => ⟨o1, o2⟩⟩ ?_
              intro hS hC
              refine wpG_take (i := 0) (v := ?_) rfl (by kernel_rfl) (by kernel_rfl) (by kernel_rfl) (by kernel_rfl) (fun _ _ _ h => h) (by decide) (Or.inl ⟨by rfl, ?_⟩) hC hS ?_
              rotate_left
              · (intro W ⟨hf, hc⟩; have hc := hc rfl; go_simp; first | done | with_reducible rfl)
              clear hS hC
              intro hS hC
              try simp only [Act.put, List.setIfInBounds_toArray, List.set_cons_zero, List.set_cons_succ]
              refine wpG_take (i := 1) (v := ?_) rfl (by kernel_rfl) (by kernel_rfl) (by kernel_rfl) (by kernel_rfl) (fun _ _ _ h => h) (by decide) (Or.inl ⟨by rfl, ?_⟩) hC hS ?_
              rotate_left
              · (intro W ⟨hf, hc⟩; have hc := hc rfl; go_simp; first | done | with_reducible rfl)
              clear hS hC
              intro hS hC
              try simp only [Act.put, List.setIfInBounds_toArray, List.set_cons_zero, List.set_cons_succ]
              refine wpG_take (i := 2) (v := ?_) rfl (by kernel_rfl) (by kernel_rfl) (by kernel_rfl) (by kernel_rfl) (fun _ _ _ h => h) (by decide) (Or.inl ⟨by rfl, ?_⟩) hC hS ?_
              rotate_left
              · (intro W ⟨hf, hc⟩; have hc := hc rfl; go_simp; first | done | with_reducible rfl)
              clear hS hC
              intro hS hC
              try simp only [Act.put, List.setIfInBounds_toArray, List.set_cons_zero, List.set_cons_succ]
              refine wpG_take (i := 3) (v := ?_) rfl (by kernel_rfl) (by kernel_rfl) (by kernel_rfl) (by kernel_rfl) (fun _ _ _ h => h) (by decide) (Or.inl ⟨by rfl, ?_⟩) hC hS ?_
              rotate_left
              · (intro W ⟨hf, hc⟩; have hc := hc rfl; go_simp; first | done | with_reducible rfl)
              clear hS hC
              intro hS hC
              try simp only [Act.put, List.setIfInBounds_toArray, List.set_cons_zero, List.set_cons_succ]
              refine wpG_take (i := 4) (v := ?_) rfl (by kernel_rfl) (by kernel_rfl) (by kernel_rfl) (by kernel_rfl) (fun _ _ _ h => h) (by decide) (Or.inl ⟨by rfl, ?_⟩) hC hS ?_
              rotate_left
              · (intro W ⟨hf, hc⟩; have hc := hc rfl; go_simp; first | done | with_reducible rfl)
              clear hS hC
              intro hS hC
              try simp only [Act.put, List.setIfInBounds_toArray, List.set_cons_zero, List.set_cons_succ]
              refine wpG_take (i := 5) (v := ?_) rfl (by kernel_rfl) (by kernel_rfl) (by kernel_rfl) (by kernel_rfl) (fun _ _ _ h => h) (by decide) (Or.inl ⟨by rfl, ?_⟩) hC hS ?_
              rotate_left
              · (intro W ⟨hf, hc⟩; have hc := hc rfl; go_simp; first | done | with_reducible rfl)
              clear hS hC
              intro hS hC
              try simp only [Act.put, List.setIfInBounds_toArray, List.set_cons_zero, List.set_cons_succ]
              refine wpG_take (i := 6) (v := ?_) rfl (by kernel_rfl) (by kernel_rfl) (by kernel_rfl) (by kernel_rfl) (fun _ _ _ h => h) (by decide) (Or.inl ⟨by rfl, ?_⟩) hC hS ?_
              rotate_left
              · (intro W ⟨hf, hc⟩; have hc := hc rfl; go_simp; first | done | with_reducible rfl)
              clear hS hC
              intro hS hC
              try simp only [Act.put, List.setIfInBounds_toArray, List.set_cons_zero, List.set_cons_succ]
              refine wpG_one (i := 7) (by kernel_rfl) rfl hC (fun K hK => ?_)
              go_simp
              refine hK.out _ _ ⟨s0.drew.alloc _, fun _ => ((Fx.refl No _).drew.alloc _).cellF o1 o2 (fun h => h)⟩ (fun hS' hC' => ?_)
              clear hK K hS hC
              have hS := hS'
              have hC := hC'
              clear hS' hC'
              try simp only [Act.put, List.setIfInBounds_toArray, List.set_cons_zero, List.set_cons_succ]
              refine wpG_one (i := 8) (by kernel_rfl) rfl hC (fun K hK => ?_)
              refine step_append_kept rfl (.tmp 40) (.tmp 46) 37 rfl (ob + 1) 44 Tryz.underlying37 hi hz hs hb rfl (by decide) (.slice so acc.length sc) (acc.length) (icells e2 acc) (by simp [Act.eval]) (HOw.out _ ((Fx.refl No wx).drew.alloc _)) (fun _ => True) (.slice (some ⟨wx.heap.size, 0, none⟩) 1 1) 1 (ints [z, u]) (by simp [Act.eval]) (SlV.lit wx.drew 44 #[.int .i64 z, .int .i64 u] 2 1 rfl (by unfold maxLen; omega)) (ints_one _) (by omega) (by unfold maxLen; omega) (by omega) (by simp; omega) ?_
              intro v' w2 ho hfx hk3 hb2
              obtain ⟨g, gcap, rfl, hg1, hg2⟩ := ownsRow_pos ho (by omega)
              have hob : ¬ (Value.slice so acc.length sc).ownBlock = some ob := fun e => by have := HVs.out ob e; omega
              obtain ⟨t3, t4⟩ := ((Fx.refl No wx).drew.alloc (.cells #[.int .i64 z, .int .i64 u] 44)).cellF o1 o2 (fun h => h)
              obtain ⟨t3, t4⟩ := hfx.cellF t3 t4 hob
              have hS2 : Fx (fun b => (Value.slice so acc.length sc).ownBlock = some b ∨ b = ob) wx w2 := (s0.drew.alloc _).trans (hfx.mono fun _ _ e => .inl e)
              have HA5 := Lib.hid (HX.out.snoc (x := (z, u)) ((Fx.refl No wx).drew.alloc _) hfx (by simpa [e2] using ho))
              refine hK.out _ _ ⟨hS2, fun _ => ⟨t3, t4⟩⟩ (fun hS' hC' => ?_)
              clear ho hfx hk3 hb2
              clear hK K hS hC
              have hS := hS'
              have hC := hC'
              clear hS' hC'
              try simp only [Act.put, List.setIfInBounds_toArray, List.set_cons_zero, List.set_cons_succ]
              refine wpG_take (i := 9) (v := ?_) rfl (by kernel_rfl) (by kernel_rfl) (by kernel_rfl) (by kernel_rfl) (fun _ _ _ h => h) (by decide) (Or.inl ⟨by rfl, ?_⟩) hC hS ?_
              rotate_left
              · (intro W ⟨hf, hc⟩; have hc := hc rfl; go_simp; first | done | with_reducible rfl)
              clear hS hC
              intro hS hC
              try simp only [Act.put, List.setIfInBounds_toArray, List.set_cons_zero, List.set_cons_succ]
              refine wpG_one (i := 10) (by kernel_rfl) rfl hC (fun K hK => ?_)
              go_simp
              refine hK.out _ _ ⟨Fx.setCell hS2 (a := ⟨ob, 1, none⟩) (.inr (.inr rfl)) _, fun h => absurd h (by decide +kernel)⟩ (fun _ _ => ?_)
              clear hK K hS hC
              refine wpG_done (by kernel_rfl) ?_ _
              clear o1 o2 t3 t4 hS2 s0 g0 g3 g4
              go_wp2
              go_roundw
              case rel => exact ⟨k + 1, _, by go_num, by omega, by rw [HNx.out], by rw [HNx.out]; exact HA5.out⟩
              case measure => simp [intOf]; omega
            · skip
              have HNx : Hid (insSt (x, y) (L.take (k + 1)) = ((acc ++ [(x, y)]) ++ [(z, u)], true)) := Lib.hid (by rw [HNx.out, insStep, ← HTt.out]; simp)
              have e0' := HX.out.fx.cell' HE0.out (fun h => h)
              have e1' := HX.out.fx.cell' HE1.out (fun h => h)
              obtain ⟨o1, o2⟩ := HX.out.o1
              have hob : ¬ (Value.slice so acc.length sc).ownBlock = some ob := fun e => by have := (World.ownsRow.lt HX.out.own ob e).1; omega
              have hlo9 := HX.out.lo.2
              have HOo := Lib.hid hob
              clear hob
              go_wp2_with (at_builtin; refine wpList_append_kept rfl _ _ 37 rfl (ob + 1) 44 Tryz.underlying37 hi hz hs hb rfl (by decide) rfl (World.ownsRow.alloc HX.out.own _) rfl (SlV.lit _ 44 #[.int .i64 _, .int .i64 _] 2 1 rfl (by unfold maxLen; omega)) (ints_one [_, _]) (by omega) (by unfold maxLen; omega) (by omega) (by simp; omega) ?_)
              intro v' w2 ho hfx hk3 hb2
              obtain ⟨ga, gcap, rfl, hg1, hg2⟩ := ownsRow_pos ho (by omega)
              obtain ⟨t3, t4⟩ := ((Fx.refl No w').alloc (.cells #[.int .i64 x, .int .i64 y] 44)).cellF o1 o2 (fun h => h)
              obtain ⟨t3, t4⟩ := hfx.cellF t3 t4 HOo.out
              have HA9 := Lib.hid (HX.out.snoc (x := (x, y)) ((Fx.refl No w').alloc _) hfx (by exact ho))
              clear ho hfx hk3 hb2 hg1 hg2 e0' e1' o1 o2
              go_wp2_with fail
              refine wp_hold (fun W => AccS w1 W ob N (.slice (some ⟨ga, 0, none⟩) (acc.length + 1) gcap) (acc ++ [(x, y)])) HA9.out ?_
              rintro wx hX
              have HX := Lib.hid hX
              clear hX HA9 t3 t4
              have c1 := HX.out.fx.cell' HC1.out (fun h => h)
              have p1 := HX.out.fx.cell' HW1.out (fun h => h)
              have p2 := HX.out.fx.cell' HW2.out (fun h => h)
              obtain ⟨o1, o2⟩ := HX.out.o1
              have hlo := HX.out.lo.2
              have hvs : ∀ g, (Value.slice (some ⟨ga, 0, none⟩) (acc.length + 1) gcap).ownBlock = some g → ob + 1 ≤ g := fun g e => (World.ownsRow.lt HX.out.own g e).1
              have HVs := Lib.hid hvs
              have s0 : Fx (fun g => (Value.slice (some ⟨ga, 0, none⟩) (acc.length + 1) gcap).ownBlock = some g ∨ g = ob) wx wx := Fx.refl _ _
              have ns : ∀ j, j < w1.heap.size → ¬ ((Value.slice (some ⟨ga, 0, none⟩) (acc.length + 1) gcap).ownBlock = some j ∨ j = ob) := fun j hj h => by
                rcases h with h | h
                · have := hvs j h; omega
                · omega
              have g0 : ∀ W, Fx (fun g => (Value.slice (some ⟨ga, 0, none⟩) (acc.length + 1) gcap).ownBlock = some g ∨ g = ob) wx W → W.cell? ⟨cb, 1, none⟩ = some (.slice (some ⟨b, o, none⟩) L.length cap) := fun W h => h.cell' c1 (ns _ hcbl)
              have g3 : ∀ W, Fx (fun g => (Value.slice (some ⟨ga, 0, none⟩) (acc.length + 1) gcap).ownBlock = some g ∨ g = ob) wx W → W.cell? ⟨b, o + k * 2, none⟩ = some (.int .i64 z) := fun W h => h.cell' p1 (ns _ (by show b < w1.heap.size; omega))
              have g4 : ∀ W, Fx (fun g => (Value.slice (some ⟨ga, 0, none⟩) (acc.length + 1) gcap).ownBlock = some g ∨ g = ob) wx W → W.cell? ⟨b, o + k * 2 + 1, none⟩ = some (.int .i64 u) := fun W h => h.cell' p2 (ns _ (by show b < w1.heap.size; omega))
              have HOw : Hid (∀ W, Fx No wx W → W.ownsRow (ob + 1) 44 2 (.slice (some ⟨ga, 0, none⟩) (acc.length + 1) gcap) ((acc.length + 1)) (icells e2 (acc ++ [(x, y)]))) := Lib.hid fun W hf => by have := HX.out.own.no hf; unfold OwnT at this; simpa using this
              clear hvs c1 p1 p2 ns
              refine wp_region_G 10 (fun b W => Fx (fun g => (Value.slice (some ⟨ga, 0, none⟩) (acc.length + 1) gcap).ownBlock = some g ∨ g = ob) wx W ∧ (b = false → W.cell? ⟨ob, 1, none⟩ = some (.slice (some ⟨ga, 0, none⟩) (acc.length + 1) gcap) ∧ W.frozen? ⟨ob, 1, none⟩ = false)) (by kernel_rfl) ⟨s0.drew, fun _ => ⟨o1, o2⟩⟩ ?_
              intro hS hC
              refine wpG_take (i := 0) (v := ?_) rfl (by kernel_rfl) (by kernel_rfl) (by kernel_rfl) (by kernel_rfl) (fun _ _ _ h => h) (by decide) (Or.inl ⟨by rfl, ?_⟩) hC hS ?_
              rotate_left
              · (intro W ⟨hf, hc⟩; have hc := hc rfl; go_simp; first | done | with_reducible rfl)
              clear hS hC
              intro hS hC
              try simp only [Act.put, List.setIfInBounds_toArray, List.set_cons_zero, List.set_cons_succ]
              refine wpG_take (i := 1) (v := ?_) rfl (by kernel_rfl) (by kernel_rfl) (by kernel_rfl) (by kernel_rfl) (fun _ _ _ h => h) (by decide) (Or.inl ⟨by rfl, ?_⟩) hC hS ?_
              rotate_left
              · (intro W ⟨hf, hc⟩; have hc := hc rfl; go_simp; first | done | with_reducible rfl)
              clear hS hC
              intro hS hC
              try simp only [Act.put, List.setIfInBounds_toArray, List.set_cons_zero, List.set_cons_succ]
              refine wpG_take (i := 2) (v := ?_) rfl (by kernel_rfl) (by kernel_rfl) (by kernel_rfl) (by kernel_rfl) (fun _ _ _ h => h) (by decide) (Or.inl ⟨by rfl, ?_⟩) hC hS ?_
              rotate_left
              · (intro W ⟨hf, hc⟩; have hc := hc rfl; go_simp; first | done | with_reducible rfl)
              clear hS hC
              intro hS hC
              try simp only [Act.put, List.setIfInBounds_toArray, List.set_cons_zero, List.set_cons_succ]
              refine wpG_take (i := 3) (v := ?_) rfl (by kernel_rfl) (by kernel_rfl) (by kernel_rfl) (by kernel_rfl) (fun _ _ _ h => h) (by decide) (Or.inl ⟨by rfl, ?_⟩) hC hS ?_
              rotate_left
              · (intro W ⟨hf, hc⟩; have hc := hc rfl; go_simp; first | done | with_reducible rfl)
              clear hS hC
              intro hS hC
              try simp only [Act.put, List.setIfInBounds_toArray, List.set_cons_zero, List.set_cons_succ]
              refine wpG_take (i := 4) (v := ?_) rfl (by kernel_rfl) (by kernel_rfl) (by kernel_rfl) (by kernel_rfl) (fun _ _ _ h => h) (by decide) (Or.inl ⟨by rfl, ?_⟩) hC hS ?_
              rotate_left
              · (intro W ⟨hf, hc⟩; have hc := hc rfl; go_simp; first | done | with_reducible rfl)
              clear hS hC
              intro hS hC
              try simp only [Act.put, List.setIfInBounds_toArray, List.set_cons_zero, List.set_cons_succ]
              refine wpG_take (i := 5) (v := ?_) rfl (by kernel_rfl) (by kernel_rfl) (by kernel_rfl) (by kernel_rfl) (fun _ _ _ h => h) (by decide) (Or.inl ⟨by rfl, ?_⟩) hC hS ?_
              rotate_left
              · (intro W ⟨hf, hc⟩; have hc := hc rfl; go_simp; first | done | with_reducible rfl)
              clear hS hC
              intro hS hC
              try simp only [Act.put, List.setIfInBounds_toArray, List.set_cons_zero, List.set_cons_succ]
              refine wpG_take (i := 6) (v := ?_) rfl (by kernel_rfl) (by kernel_rfl) (by kernel_rfl) (by kernel_rfl) (fun _ _ _ h => h) (by decide) (Or.inl ⟨by rfl, ?_⟩) hC hS ?_
              rotate_left
              · (intro W ⟨hf, hc⟩; have hc := hc rfl; go_simp; first | done | with_reducible rfl)
              clear hS hC
              intro hS hC
              try simp only [Act.put, List.setIfInBounds_toArray, List.set_cons_zero, List.set_cons_succ]
              refine wpG_one (i := 7) (by kernel_rfl) rfl hC (fun K hK => ?_)
              go_simp
              refine hK.out _ _ ⟨s0.drew.alloc _, fun _ => ((Fx.refl No _).drew.alloc _).cellF o1 o2 (fun h => h)⟩ (fun hS' hC' => ?_)
              clear hK K hS hC
              have hS := hS'
              have hC := hC'
              clear hS' hC'
              try simp only [Act.put, List.setIfInBounds_toArray, List.set_cons_zero, List.set_cons_succ]
              refine wpG_one (i := 8) (by kernel_rfl) rfl hC (fun K hK => ?_)
              refine step_append_kept rfl (.tmp 40) (.tmp 46) 37 rfl (ob + 1) 44 Tryz.underlying37 hi hz hs hb rfl (by decide) (.slice (some ⟨ga, 0, none⟩) (acc.length + 1) gcap) ((acc.length + 1)) (icells e2 (acc ++ [(x, y)])) (by simp [Act.eval]) (HOw.out _ ((Fx.refl No wx).drew.alloc _)) (fun _ => True) (.slice (some ⟨wx.heap.size, 0, none⟩) 1 1) 1 (ints [z, u]) (by simp [Act.eval]) (SlV.lit wx.drew 44 #[.int .i64 z, .int .i64 u] 2 1 rfl (by unfold maxLen; omega)) (ints_one _) (by omega) (by unfold maxLen; omega) (by omega) (by simp; omega) ?_
              intro v' w2 ho hfx hk3 hb2
              obtain ⟨g, gcap, rfl, hg1, hg2⟩ := ownsRow_pos ho (by omega)
              have hob : ¬ (Value.slice (some ⟨ga, 0, none⟩) (acc.length + 1) gcap).ownBlock = some ob := fun e => by have := HVs.out ob e; omega
              obtain ⟨t3, t4⟩ := ((Fx.refl No wx).drew.alloc (.cells #[.int .i64 z, .int .i64 u] 44)).cellF o1 o2 (fun h => h)
              obtain ⟨t3, t4⟩ := hfx.cellF t3 t4 hob
              have hS2 : Fx (fun b => (Value.slice (some ⟨ga, 0, none⟩) (acc.length + 1) gcap).ownBlock = some b ∨ b = ob) wx w2 := (s0.drew.alloc _).trans (hfx.mono fun _ _ e => .inl e)
              have HA5 := Lib.hid (HX.out.snoc (x := (z, u)) ((Fx.refl No wx).drew.alloc _) hfx (by simpa [e2] using ho))
              refine hK.out _ _ ⟨hS2, fun _ => ⟨t3, t4⟩⟩ (fun hS' hC' => ?_)
              clear ho hfx hk3 hb2
              clear hK K hS hC
              have hS := hS'
              have hC := hC'
              clear hS' hC'
              try simp only [Act.put, List.setIfInBounds_toArray, List.set_cons_zero, List.set_cons_succ]
              refine wpG_take (i := 9) (v := ?_) rfl (by kernel_rfl) (by kernel_rfl) (by kernel_rfl) (by kernel_rfl) (fun _ _ _ h => h) (by decide) (Or.inl ⟨by rfl, ?_⟩) hC hS ?_
              rotate_left
              · (intro W ⟨hf, hc⟩; have hc := hc rfl; go_simp; first | done | with_reducible rfl)
              clear hS hC
              intro hS hC
              try simp only [Act.put, List.setIfInBounds_toArray, List.set_cons_zero, List.set_cons_succ]
              refine wpG_one (i := 10) (by kernel_rfl) rfl hC (fun K hK => ?_)
              go_simp
              refine hK.out _ _ ⟨Fx.setCell hS2 (a := ⟨ob, 1, none⟩) (.inr (.inr rfl)) _, fun h => absurd h (by decide +kernel)⟩ (fun _ _ => ?_)
              clear hK K hS hC
              refine wpG_done (by kernel_rfl) ?_ _
              clear o1 o2 t3 t4 hS2 s0 g0 g3 g4
              go_wp2
              go_roundw
              case rel => exact ⟨k + 1, _, by go_num, by omega, by rw [HNx.out], by rw [HNx.out]; exact HA5.out⟩
              case measure => simp [intOf]; omega
        · skip
          have HNx : Hid (insSt (x, y) (L.take (k + 1)) = (acc ++ [(z, u)], true)) := Lib.hid (by rw [HNx.out, insStep]; simp)
          go_wp2_with fail
          go_quiet (fail)
          all_goals
            clear o1 o2 c1 e0 e1 p1 p2
            have HX := Lib.hid (HA.out.no ((Fx.refl No wr).drewN nq))
            go_wp2_with fail
            refine wp_hold (fun W => AccS w1 W ob N (.slice so acc.length sc) acc) HX.out ?_
            rintro wx hX
            have HX := Lib.hid hX
            clear hX
            have c1 := HX.out.fx.cell' HC1.out (fun h => h)
            have p1 := HX.out.fx.cell' HW1.out (fun h => h)
            have p2 := HX.out.fx.cell' HW2.out (fun h => h)
            obtain ⟨o1, o2⟩ := HX.out.o1
            have hlo := HX.out.lo.2
            have hvs : ∀ g, (Value.slice so acc.length sc).ownBlock = some g → ob + 1 ≤ g := fun g e => (World.ownsRow.lt HX.out.own g e).1
            have HVs := Lib.hid hvs
            have s0 : Fx (fun g => (Value.slice so acc.length sc).ownBlock = some g ∨ g = ob) wx wx := Fx.refl _ _
            have ns : ∀ j, j < w1.heap.size → ¬ ((Value.slice so acc.length sc).ownBlock = some j ∨ j = ob) := fun j hj h => by
              rcases h with h | h
              · have := hvs j h; omega
              · omega
            have g0 : ∀ W, Fx (fun g => (Value.slice so acc.length sc).ownBlock = some g ∨ g = ob) wx W → W.cell? ⟨cb, 1, none⟩ = some (.slice (some ⟨b, o, none⟩) L.length cap) := fun W h => h.cell' c1 (ns _ hcbl)
            have g3 : ∀ W, Fx (fun g => (Value.slice so acc.length sc).ownBlock = some g ∨ g = ob) wx W → W.cell? ⟨b, o + k * 2, none⟩ = some (.int .i64 z) := fun W h => h.cell' p1 (ns _ (by show b < w1.heap.size; omega))
            have g4 : ∀ W, Fx (fun g => (Value.slice so acc.length sc).ownBlock = some g ∨ g = ob) wx W → W.cell? ⟨b, o + k * 2 + 1, none⟩ = some (.int .i64 u) := fun W h => h.cell' p2 (ns _ (by show b < w1.heap.size; omega))
            have HOw : Hid (∀ W, Fx No wx W → W.ownsRow (ob + 1) 44 2 (.slice so acc.length sc) (acc.length) (icells e2 acc)) := Lib.hid fun W hf => by have := HX.out.own.no hf; unfold OwnT at this; simpa using this
            clear hvs c1 p1 p2 ns
            refine wp_region_G 10 (fun b W => Fx (fun g => (Value.slice so acc.length sc).ownBlock = some g ∨ g = ob) wx W ∧ (b = false → W.cell? ⟨ob, 1, none⟩ = some (.slice so acc.length sc) ∧ W.frozen? ⟨ob, 1, none⟩ = false)) (by kernel_rfl) ⟨s0.drew, fun _ => ⟨o1, o2⟩⟩ ?_
            intro hS hC
            refine wpG_take (i := 0) (v := ?_) rfl (by kernel_rfl) (by kernel_rfl) (by kernel_rfl) (by kernel_rfl) (fun _ _ _ h => h) (by decide) (Or.inl ⟨by rfl, ?_⟩) hC hS ?_
            rotate_left
            · (intro W ⟨hf, hc⟩; have hc := hc rfl; go_simp; first | done | with_reducible rfl)
            clear hS hC
            intro hS hC
            try simp only [Act.put, List.setIfInBounds_toArray, List.set_cons_zero, List.set_cons_succ]
            refine wpG_take (i := 1) (v := ?_) rfl (by kernel_rfl) (by kernel_rfl) (by kernel_rfl) (by kernel_rfl) (fun _ _ _ h => h) (by decide) (Or.inl ⟨by rfl, ?_⟩) hC hS ?_
            rotate_left
            · (intro W ⟨hf, hc⟩; have hc := hc rfl; go_simp; first | done | with_reducible rfl)
            clear hS hC
            intro hS hC
            try simp only [Act.put, List.setIfInBounds_toArray, List.set_cons_zero, List.set_cons_succ]
            refine wpG_take (i := 2) (v := ?_) rfl (by kernel_rfl) (by kernel_rfl) (by kernel_rfl) (by kernel_rfl) (fun _ _ _ h => h) (by decide) (Or.inl ⟨by rfl, ?_⟩) hC hS ?_
            rotate_left
            · (intro W ⟨hf, hc⟩; have hc := hc rfl; go_simp; first | done | with_reducible rfl)
            clear hS hC
            intro hS hC
            try simp only [Act.put, List.setIfInBounds_toArray, List.set_cons_zero, List.set_cons_succ]
            refine wpG_take (i := 3) (v := ?_) rfl (by kernel_rfl) (by kernel_rfl) (by kernel_rfl) (by kernel_rfl) (fun _ _ _ h => h) (by decide) (Or.inl ⟨by rfl, ?_⟩) hC hS ?_
            rotate_left
            · (intro W ⟨hf, hc⟩; have hc := hc rfl; go_simp; first | done | with_reducible rfl)
            clear hS hC
            intro hS hC
            try simp only [Act.put, List.setIfInBounds_toArray, List.set_cons_zero, List.set_cons_succ]
            refine wpG_take (i := 4) (v := ?_) rfl (by kernel_rfl) (by kernel_rfl) (by kernel_rfl) (by kernel_rfl) (fun _ _ _ h => h) (by decide) (Or.inl ⟨by rfl, ?_⟩) hC hS ?_
            rotate_left
            · (intro W ⟨hf, hc⟩; have hc := hc rfl; go_simp; first | done | with_reducible rfl)
            clear hS hC
            intro hS hC
            try simp only [Act.put, List.setIfInBounds_toArray, List.set_cons_zero, List.set_cons_succ]
            refine wpG_take (i := 5) (v := ?_) rfl (by kernel_rfl) (by kernel_rfl) (by kernel_rfl) (by kernel_rfl) (fun _ _ _ h => h) (by decide) (Or.inl ⟨by rfl, ?_⟩) hC hS ?_
            rotate_left
            · (intro W ⟨hf, hc⟩; have hc := hc rfl; go_simp; first | done | with_reducible rfl)
            clear hS hC
            intro hS hC
            try simp only [Act.put, List.setIfInBounds_toArray, List.set_cons_zero, List.set_cons_succ]
            refine wpG_take (i := 6) (v := ?_) rfl (by kernel_rfl) (by kernel_rfl) (by kernel_rfl) (by kernel_rfl) (fun _ _ _ h => h) (by decide) (Or.inl ⟨by rfl, ?_⟩) hC hS ?_
            rotate_left
            · (intro W ⟨hf, hc⟩; have hc := hc rfl; go_simp; first | done | with_reducible rfl)
            clear hS hC
            intro hS hC
            try simp only [Act.put, List.setIfInBounds_toArray, List.set_cons_zero, List.set_cons_succ]
            refine wpG_one (i := 7) (by kernel_rfl) rfl hC (fun K hK => ?_)
            go_simp
            refine hK.out _ _ ⟨s0.drew.alloc _, fun _ => ((Fx.refl No _).drew.alloc _).cellF o1 o2 (fun h => h)⟩ (fun hS' hC' => ?_)
            clear hK K hS hC
            have hS := hS'
            have hC := hC'
            clear hS' hC'
            try simp only [Act.put, List.setIfInBounds_toArray, List.set_cons_zero, List.set_cons_succ]
            refine wpG_one (i := 8) (by kernel_rfl) rfl hC (fun K hK => ?_)
            refine step_append_kept rfl (.tmp 40) (.tmp 46) 37 rfl (ob + 1) 44 Tryz.underlying37 hi hz hs hb rfl (by decide) (.slice so acc.length sc) (acc.length) (icells e2 acc) (by simp [Act.eval]) (HOw.out _ ((Fx.refl No wx).drew.alloc _)) (fun _ => True) (.slice (some ⟨wx.heap.size, 0, none⟩) 1 1) 1 (ints [z, u]) (by simp [Act.eval]) (SlV.lit wx.drew 44 #[.int .i64 z, .int .i64 u] 2 1 rfl (by unfold maxLen; omega)) (ints_one _) (by omega) (by unfold maxLen; omega) (by omega) (by simp; omega) ?_
            intro v' w2 ho hfx hk3 hb2
            obtain ⟨g, gcap, rfl, hg1, hg2⟩ := ownsRow_pos ho (by omega)
            have hob : ¬ (Value.slice so acc.length sc).ownBlock = some ob := fun e => by have := HVs.out ob e; omega
            obtain ⟨t3, t4⟩ := ((Fx.refl No wx).drew.alloc (.cells #[.int .i64 z, .int .i64 u] 44)).cellF o1 o2 (fun h => h)
            obtain ⟨t3, t4⟩ := hfx.cellF t3 t4 hob
            have hS2 : Fx (fun b => (Value.slice so acc.length sc).ownBlock = some b ∨ b = ob) wx w2 := (s0.drew.alloc _).trans (hfx.mono fun _ _ e => .inl e)
            have HA5 := Lib.hid (HX.out.snoc (x := (z, u)) ((Fx.refl No wx).drew.alloc _) hfx (by simpa [e2] using ho))
            refine hK.out _ _ ⟨hS2, fun _ => ⟨t3, t4⟩⟩ (fun hS' hC' => ?_)
            clear ho hfx hk3 hb2
            clear hK K hS hC
            have hS := hS'
            have hC := hC'
            clear hS' hC'
            try simp only [Act.put, List.setIfInBounds_toArray, List.set_cons_zero, List.set_cons_succ]
            refine wpG_take (i := 9) (v := ?_) rfl (by kernel_rfl) (by kernel_rfl) (by kernel_rfl) (by kernel_rfl) (fun _ _ _ h => h) (by decide) (Or.inl ⟨by rfl, ?_⟩) hC hS ?_
            rotate_left
            · (intro W ⟨hf, hc⟩; have hc := hc rfl; go_simp; first | done | with_reducible rfl)
            clear hS hC
            intro hS hC
            try simp only [Act.put, List.setIfInBounds_toArray, List.set_cons_zero, List.set_cons_succ]
            refine wpG_one (i := 10) (by kernel_rfl) rfl hC (fun K hK => ?_)
            go_simp
            refine hK.out _ _ ⟨Fx.setCell hS2 (a := ⟨ob, 1, none⟩) (.inr (.inr rfl)) _, fun h => absurd h (by decide +kernel)⟩ (fun _ _ => ?_)
            clear hK K hS hC
            refine wpG_done (by kernel_rfl) ?_ _
            clear o1 o2 t3 t4 hS2 s0 g0 g3 g4
            go_wp2
            go_roundw
            case rel => exact ⟨k + 1, _, by go_num, by omega, by rw [HNx.out], by rw [HNx.out]; exact HA5.out⟩
            case measure => simp [intOf]; omega
      · skip
        obtain rfl : k = L.length := by omega
        rw [List.take_length] at HSt
        have HR : Hid (refAddL L (x, y) = if d = true then acc else acc ++ [(x, y)]) := Lib.hid (by rw [HR.out, HSt.out])
        clear e0 e1 o1 o2 hlo
        cases d
        · skip
          have HR : Hid (refAddL L (x, y) = acc ++ [(x, y)]) := Lib.hid (by rw [HR.out]; simp)
          obtain ⟨q0', f0'⟩ := HA.out.fx.cellF HQ0.out HF0.out (fun h => h)
          obtain ⟨q1', f1'⟩ := HA.out.fx.cellF HQ1.out HFf1.out (fun h => h)
          have o0' := HA.out.o0
          have HX2 : Hid (∀ w2, Fx (fun b => (Value.slice so acc.length sc).ownBlock = some b) (wr.alloc (.cells #[.int .i64 x, .int .i64 y] 44)) w2 → (w2.cell? ⟨qb, 0, none⟩ = some (.int .i64 0) ∧ w2.frozen? ⟨qb, 0, none⟩ = false) ∧ (w2.cell? ⟨qb, 1, none⟩ = some (.slice none 0 0) ∧ w2.frozen? ⟨qb, 1, none⟩ = false) ∧ w2.cell? ⟨ob, 0, none⟩ = some (.int .i64 N)) := Lib.hid fun w2 hfx => by
            have n1 : ¬ (Value.slice so acc.length sc).ownBlock = some qb := fun e => by have := (World.ownsRow.lt HA.out.own qb e).1; omega
            have n2 : ¬ (Value.slice so acc.length sc).ownBlock = some ob := fun e => by have := (World.ownsRow.lt HA.out.own ob e).1; omega
            have al := (Fx.refl No wr).alloc (.cells #[.int .i64 x, .int .i64 y] 44)
            obtain ⟨a1, a2⟩ := al.cellF q0' f0' (fun h => h)
            obtain ⟨a3, a4⟩ := al.cellF q1' f1' (fun h => h)
            exact ⟨hfx.cellF a1 a2 n1, hfx.cellF a3 a4 n1, hfx.cell' (al.cell' o0' (fun h => h)) n2⟩
          clear q0' f0' q1' f1' o0'
          have e0' := HA.out.fx.cell' HE0.out (fun h => h)
          have e1' := HA.out.fx.cell' HE1.out (fun h => h)
          obtain ⟨o1, o2⟩ := HA.out.o1
          have hob : ¬ (Value.slice so acc.length sc).ownBlock = some ob := fun e => by have := (World.ownsRow.lt HA.out.own ob e).1; omega
          have hlo9 := HA.out.lo.2
          have HOo := Lib.hid hob
          clear hob
          go_wp2_with (at_builtin; refine wpList_append_kept rfl _ _ 37 rfl (ob + 1) 44 Tryz.underlying37 hi hz hs hb rfl (by decide) rfl (World.ownsRow.alloc HA.out.own _) rfl (SlV.lit _ 44 #[.int .i64 _, .int .i64 _] 2 1 rfl (by unfold maxLen; omega)) (ints_one [_, _]) (by omega) (by unfold maxLen; omega) (by omega) (by simp; omega) ?_)
          intro v' w2 ho hfx hk3 hb2
          obtain ⟨ga, gcap, rfl, hg1, hg2⟩ := ownsRow_pos ho (by omega)
          obtain ⟨t3, t4⟩ := ((Fx.refl No wr).alloc (.cells #[.int .i64 x, .int .i64 y] 44)).cellF o1 o2 (fun h => h)
          obtain ⟨t3, t4⟩ := hfx.cellF t3 t4 HOo.out
          have HA9 := Lib.hid (HA.out.snoc (x := (x, y)) ((Fx.refl No wr).alloc _) hfx (by exact ho))
          obtain ⟨⟨q0, f0⟩, ⟨q1, f1⟩, o0⟩ := HX2.out _ hfx
          have hqob : ¬ qb = ob := by omega
          have hobq : ¬ ob = qb := by omega
          clear ho hfx hk3 hb2 hg1 hg2 e0' e1' o1 o2
          have q0k := HA9.out.fx.cellF HQ0.out HF0.out (fun h => h)
          have q1k := HA9.out.fx.cellF HQ1.out HFf1.out (fun h => h)
          obtain ⟨g1, g2, g3, g4⟩ := put_two (w2.setCell ⟨ob, 1, none⟩ (.slice (some ⟨ga, 0, none⟩) (acc.length + 1) gcap)) (qb := qb) (.int .i64 N) (.slice (some ⟨ga, 0, none⟩) (acc.length + 1) gcap) q0k.1 q1k.1
          have HG1 := Lib.hid g1
          have HG2 := Lib.hid g2
          have HG3 := Lib.hid g3
          have HG4 := Lib.hid g4
          have HLo := Lib.hid HA9.out.lo
          clear g1 g2 g3 g4 q0k q1k
          go_wp2
          refine bodyPost_ret (v := .agg #[.int .i64 N, (.slice (some ⟨ga, 0, none⟩) (acc.length + 1) gcap)]) (by have g1 := HG1.out; have g2 := HG2.out; simp [results, Tryz.results12, go_sem, g1, g2]) rfl ⟨_, rfl, ?_, ?_⟩
          · exact ((HF1.out.trans HA9.out.fx).setCell (.inl hq0) _).setCell (.inl hq0) _
          · rw [HR.out]
            refine RowV.mono (HA9.out.own.row.keep HG3.out fun x hx e => by have h1 := hx.1; have e : x = qb := e; omega) fun x hx => ?_
            have h1 := hx.1
            have h2 := hx.2
            have h3 := HLo.out
            have h4 := HG4.out
            exact ⟨.inr (by omega), by omega⟩
        · skip
          have HR : Hid (refAddL L (x, y) = acc) := Lib.hid (by rw [HR.out]; simp)
          obtain ⟨o1, o2⟩ := HA.out.o1
          obtain ⟨q0, f0⟩ := HA.out.fx.cellF HQ0.out HF0.out (fun h => h)
          obtain ⟨q1, f1⟩ := HA.out.fx.cellF HQ1.out HFf1.out (fun h => h)
          have o0 := HA.out.o0
          obtain ⟨g1, g2, g3, g4⟩ := put_two wr (qb := qb) (.int .i64 N) (.slice so acc.length sc) q0 q1
          have HG1 := Lib.hid g1
          have HG2 := Lib.hid g2
          have HG3 := Lib.hid g3
          have HG4 := Lib.hid g4
          have HLo := Lib.hid HA.out.lo
          clear g1 g2 g3 g4
          go_wp2
          refine bodyPost_ret (v := .agg #[.int .i64 N, (.slice so acc.length sc)]) (by have g1 := HG1.out; have g2 := HG2.out; simp [results, Tryz.results12, go_sem, g1, g2]) rfl ⟨_, rfl, ?_, ?_⟩
          · exact ((HF1.out.trans HA.out.fx).setCell (.inl hq0) _).setCell (.inl hq0) _
          · rw [HR.out]
            refine RowV.mono (HA.out.own.row.keep HG3.out fun x hx e => by have h1 := hx.1; have e : x = qb := e; omega) fun x hx => ?_
            have h1 := hx.1
            have h2 := hx.2
            have h3 := HLo.out
            have h4 := HG4.out
            exact ⟨.inr (by omega), by omega⟩
end
end Go.Proofs.YtfpggeiphbekoaaGreatDoor

namespace Go.Proofs.YtfpggeiphbekoaaGreatDoor
open Go.RowKit
set_option linter.unusedVariables false

def withoutL (L : List (Int × Int)) (q : Int × Int) : List (Int × Int) := L.filter fun z => !(z.1 == q.1 && z.2 == q.2)
theorem withoutL_len (L : List (Int × Int)) (q : Int × Int) : (withoutL L q).length ≤ L.length := List.length_filter_le _ _
theorem withoutL_snoc (L : List (Int × Int)) (q z : Int × Int) : withoutL (L ++ [z]) q = withoutL L q ++ if (z.1 == q.1 && z.2 == q.2) = true then [] else [z] := by
  unfold withoutL
  rw [List.filter_append]
  congr 1
  by_cases h : (z.1 == q.1 && z.2 == q.2) = true
  · rw [if_pos h, List.filter_cons, if_neg (by rw [h]; simp)]; rfl
  · rw [if_neg h, List.filter_cons, if_pos (by simp only [Bool.not_eq_true] at h; rw [h]; rfl)]; rfl
section
variable {w w' : World} {D S : Nat → Prop} {L : List (Int × Int)} {v : Value}
set_option maxRecDepth 100000 in
set_option maxHeartbeats 4000000 in
theorem refWithout_any (h : PairsV w D v L) (N x y : Int) (hl : L.length ≤ 1000000) : Calls Tryz.prog 67 #[.agg #[.int .i64 N, v], .agg #[.int .i64 x, .int .i64 y]] w (RefR D N (withoutL L (x, y)) w) := by
  obtain ⟨ii, hi, hz, hs, hb⟩ := info_parts info_edge17
  have H := Lib.hid h.bound
  obtain ⟨ao, cap, rfl, _, _, hc⟩ := h.facts
  have HC := Lib.hid hc
  clear h hc
  go_enter Tryz.func67, Tryz.ntmps67
  go_wp2_with fail
  refine wp_hold (fun W => ∃ w1 : World, Fx No w w1 ∧ w1.heap.size = w.heap.size + 1 + 1 + 1 ∧ w1.cell? ⟨w.heap.size, 1, none⟩ = some (.slice ao L.length cap) ∧ w1.cell? ⟨w.heap.size + 1, 0, none⟩ = some (.int .i64 x) ∧ w1.cell? ⟨w.heap.size + 1, 1, none⟩ = some (.int .i64 y) ∧
    (w1.cell? ⟨w.heap.size + 1 + 1, 0, none⟩ = some (.int .i64 0) ∧ w1.frozen? ⟨w.heap.size + 1 + 1, 0, none⟩ = false) ∧ (w1.cell? ⟨w.heap.size + 1 + 1, 1, none⟩ = some (.slice none 0 0) ∧ w1.frozen? ⟨w.heap.size + 1 + 1, 1, none⟩ = false) ∧
    AccS w1 W (w.heap.size + 1 + 1 + 1) N (.slice none 0 0) [])
    ⟨((w.alloc (.cells #[.int .i64 N, .slice ao L.length cap] 39)).alloc (.cells #[.int .i64 x, .int .i64 y] 44)).alloc (.cells #[.int .i64 0, .slice none 0 0] 39), ((Fx.refl No w).alloc _).alloc _ |>.alloc _, by simp, by go_simp, by go_simp, by go_simp, ⟨by go_simp, by go_simp⟩, ⟨by go_simp, by go_simp⟩, (Fx.refl No _).alloc _, by go_simp, ⟨by go_simp, by go_simp⟩, OwnT.nil _ _, by simp, by simp⟩ ?_
  rintro W0 ⟨w1, hF1, hz1, c1, e0, e1, ⟨q0, f0⟩, ⟨q1, f1⟩, hA⟩
  obtain ⟨cb, hcb⟩ : ∃ e, e = w.heap.size := ⟨_, rfl⟩
  rw [← hcb] at hz1 c1 e0 e1 q0 f0 q1 f1 hA ⊢
  obtain ⟨eb, heb⟩ : ∃ e, e = cb + 1 := ⟨_, rfl⟩
  rw [← heb] at hz1 e0 e1 q0 f0 q1 f1 hA ⊢
  obtain ⟨qb, hqb⟩ : ∃ e, e = eb + 1 := ⟨_, rfl⟩
  rw [← hqb] at hz1 q0 f0 q1 f1 hA ⊢
  obtain ⟨ob, hob⟩ : ∃ e, e = qb + 1 := ⟨_, rfl⟩
  rw [← hob] at hz1 hA ⊢
  have HF1 := Lib.hid hF1
  have HA := Lib.hid hA
  have HOb : Hid (ob = w1.heap.size) := Lib.hid hz1.symm
  have hqo : qb < ob := by omega
  have hcb1 : cb < w1.heap.size := by omega
  have heb1 : eb < w1.heap.size := by omega
  have hq0 : w.heap.size ≤ qb := by omega
  have hq1 : qb < w1.heap.size := by omega
  have hwob : w.heap.size ≤ ob := by omega
  have HQ0 := Lib.hid q0
  have HF0 := Lib.hid f0
  have HQ1 := Lib.hid q1
  have HFf1 := Lib.hid f1
  have HC1 := Lib.hid c1
  have HE0 := Lib.hid e0
  have HE1 := Lib.hid e1
  clear hF1 hA hcb heb hqb hob hz1 q0 f0 q1 f1 c1 e0 e1
  go_loopw [6] (fun i ws => ∃ (k : Nat) (vs : Value), i = .int .i64 k ∧ k ≤ L.length ∧ AccS w1 ws ob N vs (withoutL (L.take k) (x, y))) (fun i _ => L.length - (intOf i).toNat)
  case atStart => exact ⟨0, _, rfl, Nat.zero_le _, HA.out⟩
  case round =>
    obtain ⟨k, vs, rfl, hk, hA⟩ := hrel
    have hacl := withoutL_len (L.take k) (x, y)
    rw [List.length_take] at hacl
    obtain ⟨acc, hacc⟩ : ∃ a, a = withoutL (L.take k) (x, y) := ⟨_, rfl⟩
    rw [← hacc] at hA hacl
    have hacl2 : acc.length ≤ 1000001 := by omega
    have HSt := Lib.hid hacc
    obtain ⟨so, sc, rfl, _⟩ := SlV.ofOwns hA.own
    have HA := Lib.hid hA
    have c1 := hA.fx.cell' HC1.out (fun h => h)
    have e0 := hA.fx.cell' HE0.out (fun h => h)
    have e1 := hA.fx.cell' HE1.out (fun h => h)
    have hlo := hA.lo.2
    clear hA hacc hacl
    by_cases hlt : k < L.length
    · obtain ⟨b, o, rfl, hDb, p1, p2⟩ := HC.out k hlt
      have hbw := World.block_lt_of_cell? w _ p1
      have hbw : b < w.heap.size := hbw
      have q1' := p1
      have q2' := p2
      have p1 := HA.out.fx.cell' (HF1.out.cell' p1 (fun h => h)) (fun h => h)
      have p2 := HA.out.fx.cell' (HF1.out.cell' p2 (fun h => h)) (fun h => h)
      obtain ⟨z, hz'⟩ : ∃ z, z = (gt L k).1 := ⟨_, rfl⟩
      obtain ⟨u, hu⟩ : ∃ z, z = (gt L k).2 := ⟨_, rfl⟩
      rw [← hz'] at p1 q1'
      rw [← hu] at p2 q2'
      have HNx : Hid (withoutL (L.take (k + 1)) (x, y) = acc ++ if (z == x && u == y) = true then [] else [(z, u)]) := Lib.hid (by rw [take_gt hlt, withoutL_snoc, ← HSt.out, hz', hu])
      have hkl : (k : Int) < (L.length : Int) := by omega
      have hk0 : (0 : Int) ≤ (k : Int) := by omega
      clear hz' hu
      have HW1 := Lib.hid (HF1.out.cell' q1' (fun h => h))
      have HW2 := Lib.hid (HF1.out.cell' q2' (fun h => h))
      clear q1' q2'
      have hcbl : cb < w1.heap.size := hcb1
      have hob1 : w1.heap.size ≤ ob := Nat.le_of_eq HOb.out.symm
      have hw01 : w.heap.size ≤ w1.heap.size := HF1.out.size
      have hx : ∀ W, (Op.equalIn 10000 44 (.agg #[.int .i64 z, .int .i64 u]) (.agg #[.int .i64 x, .int .i64 y])).run Tryz.prog W = .ok (z == x && u == y) W := fun W => run_eqe z u x y W
      obtain ⟨t, ht⟩ : ∃ t, t = (z == x && u == y) := ⟨_, rfl⟩
      rw [← ht] at hx HNx
      clear ht
      go_wp2_with fail
      go_quiet (fail)
      all_goals
        have HX := Lib.hid (HA.out.no ((Fx.refl No wr).drewN nq))
        generalize wr.drewN nq = wx at *
        clear hx c1 e0 e1 p1 p2
        cases t
        · skip
          have HNx : Hid (withoutL (L.take (k + 1)) (x, y) = acc ++ [(z, u)]) := Lib.hid (by rw [HNx.out]; simp)
          go_wp2_with fail
          refine wp_hold (fun W => AccS w1 W ob N (.slice so acc.length sc) acc) HX.out ?_
          rintro wx hX
          have HX := Lib.hid hX
          clear hX
          have c1 := HX.out.fx.cell' HC1.out (fun h => h)
          have p1 := HX.out.fx.cell' HW1.out (fun h => h)
          have p2 := HX.out.fx.cell' HW2.out (fun h => h)
          obtain ⟨o1, o2⟩ := HX.out.o1
          have hlo := HX.out.lo.2
          have hvs : ∀ g, (Value.slice so acc.length sc).ownBlock = some g → ob + 1 ≤ g := fun g e => (World.ownsRow.lt HX.out.own g e).1
          have HVs := Lib.hid hvs
          have s0 : Fx (fun g => (Value.slice so acc.length sc).ownBlock = some g ∨ g = ob) wx wx := Fx.refl _ _
          have ns : ∀ j, j < w1.heap.size → ¬ ((Value.slice so acc.length sc).ownBlock = some j ∨ j = ob) := fun j hj h => by
            rcases h with h | h
            · have := hvs j h; omega
            · omega
          have g0 : ∀ W, Fx (fun g => (Value.slice so acc.length sc).ownBlock = some g ∨ g = ob) wx W → W.cell? ⟨cb, 1, none⟩ = some (.slice (some ⟨b, o, none⟩) L.length cap) := fun W h => h.cell' c1 (ns _ hcbl)
          have g3 : ∀ W, Fx (fun g => (Value.slice so acc.length sc).ownBlock = some g ∨ g = ob) wx W → W.cell? ⟨b, o + k * 2, none⟩ = some (.int .i64 z) := fun W h => h.cell' p1 (ns _ (by show b < w1.heap.size; omega))
          have g4 : ∀ W, Fx (fun g => (Value.slice so acc.length sc).ownBlock = some g ∨ g = ob) wx W → W.cell? ⟨b, o + k * 2 + 1, none⟩ = some (.int .i64 u) := fun W h => h.cell' p2 (ns _ (by show b < w1.heap.size; omega))
          have HOw : Hid (∀ W, Fx No wx W → W.ownsRow (ob + 1) 44 2 (.slice so acc.length sc) (acc.length) (icells e2 acc)) := Lib.hid fun W hf => by have := HX.out.own.no hf; unfold OwnT at this; simpa using this
          clear hvs c1 p1 p2 ns
          refine wp_region_G 10 (fun b W => Fx (fun g => (Value.slice so acc.length sc).ownBlock = some g ∨ g = ob) wx W ∧ (b = false → W.cell? ⟨ob, 1, none⟩ = some (.slice so acc.length sc) ∧ W.frozen? ⟨ob, 1, none⟩ = false)) (by kernel_rfl) ⟨s0.drew, fun _ => ⟨o1, o2⟩⟩ ?_
          intro hS hC
          refine wpG_take (i := 0) (v := ?_) rfl (by kernel_rfl) (by kernel_rfl) (by kernel_rfl) (by kernel_rfl) (fun _ _ _ h => h) (by decide) (Or.inl ⟨by rfl, ?_⟩) hC hS ?_
          rotate_left
          · (intro W ⟨hf, hc⟩; have hc := hc rfl; go_simp; first | done | with_reducible rfl)
          clear hS hC
          intro hS hC
          try simp only [Act.put, List.setIfInBounds_toArray, List.set_cons_zero, List.set_cons_succ]
          refine wpG_take (i := 1) (v := ?_) rfl (by kernel_rfl) (by kernel_rfl) (by kernel_rfl) (by kernel_rfl) (fun _ _ _ h => h) (by decide) (Or.inl ⟨by rfl, ?_⟩) hC hS ?_
          rotate_left
          · (intro W ⟨hf, hc⟩; have hc := hc rfl; go_simp; first | done | with_reducible rfl)
          clear hS hC
          intro hS hC
          try simp only [Act.put, List.setIfInBounds_toArray, List.set_cons_zero, List.set_cons_succ]
          refine wpG_take (i := 2) (v := ?_) rfl (by kernel_rfl) (by kernel_rfl) (by kernel_rfl) (by kernel_rfl) (fun _ _ _ h => h) (by decide) (Or.inl ⟨by rfl, ?_⟩) hC hS ?_
          rotate_left
          · (intro W ⟨hf, hc⟩; have hc := hc rfl; go_simp; first | done | with_reducible rfl)
          clear hS hC
          intro hS hC
          try simp only [Act.put, List.setIfInBounds_toArray, List.set_cons_zero, List.set_cons_succ]
          refine wpG_take (i := 3) (v := ?_) rfl (by kernel_rfl) (by kernel_rfl) (by kernel_rfl) (by kernel_rfl) (fun _ _ _ h => h) (by decide) (Or.inl ⟨by rfl, ?_⟩) hC hS ?_
          rotate_left
          · (intro W ⟨hf, hc⟩; have hc := hc rfl; go_simp; first | done | with_reducible rfl)
          clear hS hC
          intro hS hC
          try simp only [Act.put, List.setIfInBounds_toArray, List.set_cons_zero, List.set_cons_succ]
          refine wpG_take (i := 4) (v := ?_) rfl (by kernel_rfl) (by kernel_rfl) (by kernel_rfl) (by kernel_rfl) (fun _ _ _ h => h) (by decide) (Or.inl ⟨by rfl, ?_⟩) hC hS ?_
          rotate_left
          · (intro W ⟨hf, hc⟩; have hc := hc rfl; go_simp; first | done | with_reducible rfl)
          clear hS hC
          intro hS hC
          try simp only [Act.put, List.setIfInBounds_toArray, List.set_cons_zero, List.set_cons_succ]
          refine wpG_take (i := 5) (v := ?_) rfl (by kernel_rfl) (by kernel_rfl) (by kernel_rfl) (by kernel_rfl) (fun _ _ _ h => h) (by decide) (Or.inl ⟨by rfl, ?_⟩) hC hS ?_
          rotate_left
          · (intro W ⟨hf, hc⟩; have hc := hc rfl; go_simp; first | done | with_reducible rfl)
          clear hS hC
          intro hS hC
          try simp only [Act.put, List.setIfInBounds_toArray, List.set_cons_zero, List.set_cons_succ]
          refine wpG_take (i := 6) (v := ?_) rfl (by kernel_rfl) (by kernel_rfl) (by kernel_rfl) (by kernel_rfl) (fun _ _ _ h => h) (by decide) (Or.inl ⟨by rfl, ?_⟩) hC hS ?_
          rotate_left
          · (intro W ⟨hf, hc⟩; have hc := hc rfl; go_simp; first | done | with_reducible rfl)
          clear hS hC
          intro hS hC
          try simp only [Act.put, List.setIfInBounds_toArray, List.set_cons_zero, List.set_cons_succ]
          refine wpG_one (i := 7) (by kernel_rfl) rfl hC (fun K hK => ?_)
          go_simp
          refine hK.out _ _ ⟨s0.drew.alloc _, fun _ => ((Fx.refl No _).drew.alloc _).cellF o1 o2 (fun h => h)⟩ (fun hS' hC' => ?_)
          clear hK K hS hC
          have hS := hS'
          have hC := hC'
          clear hS' hC'
          try simp only [Act.put, List.setIfInBounds_toArray, List.set_cons_zero, List.set_cons_succ]
          refine wpG_one (i := 8) (by kernel_rfl) rfl hC (fun K hK => ?_)
          refine step_append_kept rfl (.tmp 25) (.tmp 31) 37 rfl (ob + 1) 44 Tryz.underlying37 hi hz hs hb rfl (by decide) (.slice so acc.length sc) (acc.length) (icells e2 acc) (by simp [Act.eval]) (HOw.out _ ((Fx.refl No wx).drew.alloc _)) (fun _ => True) (.slice (some ⟨wx.heap.size, 0, none⟩) 1 1) 1 (ints [z, u]) (by simp [Act.eval]) (SlV.lit wx.drew 44 #[.int .i64 z, .int .i64 u] 2 1 rfl (by unfold maxLen; omega)) (ints_one _) (by omega) (by unfold maxLen; omega) (by omega) (by simp; omega) ?_
          intro v' w2 ho hfx hk3 hb2
          obtain ⟨g, gcap, rfl, hg1, hg2⟩ := ownsRow_pos ho (by omega)
          have hob : ¬ (Value.slice so acc.length sc).ownBlock = some ob := fun e => by have := HVs.out ob e; omega
          obtain ⟨t3, t4⟩ := ((Fx.refl No wx).drew.alloc (.cells #[.int .i64 z, .int .i64 u] 44)).cellF o1 o2 (fun h => h)
          obtain ⟨t3, t4⟩ := hfx.cellF t3 t4 hob
          have hS2 : Fx (fun b => (Value.slice so acc.length sc).ownBlock = some b ∨ b = ob) wx w2 := (s0.drew.alloc _).trans (hfx.mono fun _ _ e => .inl e)
          have HA5 := Lib.hid (HX.out.snoc (x := (z, u)) ((Fx.refl No wx).drew.alloc _) hfx (by simpa [e2] using ho))
          refine hK.out _ _ ⟨hS2, fun _ => ⟨t3, t4⟩⟩ (fun hS' hC' => ?_)
          clear ho hfx hk3 hb2
          clear hK K hS hC
          have hS := hS'
          have hC := hC'
          clear hS' hC'
          try simp only [Act.put, List.setIfInBounds_toArray, List.set_cons_zero, List.set_cons_succ]
          refine wpG_take (i := 9) (v := ?_) rfl (by kernel_rfl) (by kernel_rfl) (by kernel_rfl) (by kernel_rfl) (fun _ _ _ h => h) (by decide) (Or.inl ⟨by rfl, ?_⟩) hC hS ?_
          rotate_left
          · (intro W ⟨hf, hc⟩; have hc := hc rfl; go_simp; first | done | with_reducible rfl)
          clear hS hC
          intro hS hC
          try simp only [Act.put, List.setIfInBounds_toArray, List.set_cons_zero, List.set_cons_succ]
          refine wpG_one (i := 10) (by kernel_rfl) rfl hC (fun K hK => ?_)
          go_simp
          refine hK.out _ _ ⟨Fx.setCell hS2 (a := ⟨ob, 1, none⟩) (.inr (.inr rfl)) _, fun h => absurd h (by decide +kernel)⟩ (fun _ _ => ?_)
          clear hK K hS hC
          refine wpG_done (by kernel_rfl) ?_ _
          clear o1 o2 t3 t4 hS2 s0 g0 g3 g4
          go_wp2
          go_roundw
          case rel => exact ⟨k + 1, _, by go_num, by omega, by rw [HNx.out]; exact HA5.out⟩
          case measure => simp [intOf]; omega
        · have HNx : Hid (withoutL (L.take (k + 1)) (x, y) = acc) := Lib.hid (by rw [HNx.out]; simp)
          go_wp2
          go_roundw
          case rel => exact ⟨k + 1, _, by go_num, by omega, by rw [HNx.out]; exact HX.out⟩
          case measure => simp [intOf]; omega
    · obtain rfl : k = L.length := by omega
      rw [List.take_length] at HSt
      obtain ⟨q0, f0⟩ := HA.out.fx.cellF HQ0.out HF0.out (fun h => h)
      obtain ⟨q1, f1⟩ := HA.out.fx.cellF HQ1.out HFf1.out (fun h => h)
      have o0 := HA.out.o0
      obtain ⟨o1, o2⟩ := HA.out.o1
      obtain ⟨g1, g2, g3, g4⟩ := put_two wr (qb := qb) (.int .i64 N) (.slice so acc.length sc) q0 q1
      have HG1 := Lib.hid g1
      have HG2 := Lib.hid g2
      have HG3 := Lib.hid g3
      have HG4 := Lib.hid g4
      clear g1 g2 g3 g4 e0 e1
      go_wp2
      refine bodyPost_ret (v := .agg #[.int .i64 N, (.slice so acc.length sc)]) (by have g1 := HG1.out; have g2 := HG2.out; simp [results, Tryz.results67, go_sem, g1, g2]) rfl ⟨_, rfl, ?_, ?_⟩
      · exact ((HF1.out.trans HA.out.fx).setCell (.inl hq0) _).setCell (.inl hq0) _
      · rw [← HSt.out]
        refine RowV.mono (HA.out.own.row.keep HG3.out fun x hx e => by have h1 := hx.1; have e : x = qb := e; omega) fun x hx => ?_
        have h1 := hx.1
        have h2 := hx.2
        have h4 := HG4.out
        exact ⟨.inr (by omega), by omega⟩
end
#print axioms refWithout_any
end Go.Proofs.YtfpggeiphbekoaaGreatDoor
