/- The reference of graphs: Add. -/
import Derived.Test.YtcfajeldkioomaaRgD
namespace Go.Proofs.Ytcfajeldkioomaa
open Go.RowKit
set_option linter.unusedVariables false

theorem Fx.weaken {S : Nat → Prop} {w w' : World} (h : Fx No w w') : Fx S w w' := h.mono fun _ _ e => e.elim
/-- behind k edges: the box holds the graph with them -/
structure StA (w w1 ws : World) (D : Nat → Prop) (cb N : Nat) (L xs : List Ed) (k : Nat) (vk : Value) (c : Nat) : Prop where
  fx : Fx (fun j => j = cb) w1 ws
  c0 : ws.cell? ⟨cb, 0, none⟩ = some (.int .i64 (N : Nat)) ∧ ws.frozen? ⟨cb, 0, none⟩ = false
  c1 : ws.cell? ⟨cb, 1, none⟩ = some vk ∧ ws.frozen? ⟨cb, 1, none⟩ = false
  row : EdsV ws (fun j => ((D j ∧ j < w.heap.size) ∨ w1.heap.size ≤ j) ∧ j < ws.heap.size) vk (addL L (xs.take k))
  cnt : c + L.length = (addL L (xs.take k)).length
section
variable {w w' : World} {D S E : Nat → Prop} {L xs : List Ed} {v u : Value}
set_option maxRecDepth 100000 in
set_option maxHeartbeats 4000000 in
theorem refAdd_no (h : EdsV w D v L) (hx : EdsV w E u xs) (N : Nat) (hbad : xs.any (badE N) = true) : Calls Try.prog 25 #[.agg #[.int .i64 (N : Nat), v], u] w fun e w' => e = .returned (.tuple #[.agg #[.int .i64 (N : Nat), v], .int .i64 0, .int .i64 130]) ∧ Fx No w w' := by
  have HB := Lib.hid hbad
  clear hbad
  have H := Lib.hid h.bound
  have HX := Lib.hid hx
  obtain ⟨ao, cap, rfl, _, _, _⟩ := h.facts
  obtain ⟨bo, bcap, rfl, _, _, hc'⟩ := hx.facts
  have HC' := Lib.hid hc'
  clear h hx hc'
  go_enter Try.func25, Try.ntmps25
  go_wp2_with fail
  refine wp_hold (fun W => Fx No w W ∧ W.heap.size = w.heap.size + 1 + 1 ∧ W.cell? ⟨w.heap.size, 0, none⟩ = some (.int .i64 (N : Nat)) ∧ W.frozen? ⟨w.heap.size, 0, none⟩ = false ∧ W.cell? ⟨w.heap.size, 1, none⟩ = some (.slice ao L.length cap) ∧ W.frozen? ⟨w.heap.size, 1, none⟩ = false ∧
    (W.cell? ⟨w.heap.size + 1, 0, none⟩ = some (.int .i64 0) ∧ W.frozen? ⟨w.heap.size + 1, 0, none⟩ = false) ∧ (W.cell? ⟨w.heap.size + 1, 1, none⟩ = some (.slice none 0 0) ∧ W.frozen? ⟨w.heap.size + 1, 1, none⟩ = false))
    ⟨((Fx.refl No w).alloc _).alloc _, by simp, by go_simp, by go_simp, by go_simp, by go_simp, ⟨by go_simp, by go_simp⟩, ⟨by go_simp, by go_simp⟩⟩ ?_
  rintro w1 ⟨hF1, hz1, c0, f0, c1, f1, ⟨q0, p0⟩, ⟨q1, p1⟩⟩
  obtain ⟨cb, hcb⟩ : ∃ e, e = w.heap.size := ⟨_, rfl⟩
  rw [← hcb] at hz1 c0 c1 f0 f1 q0 q1 p0 p1 ⊢
  obtain ⟨rb, hrb⟩ : ∃ e, e = cb + 1 := ⟨_, rfl⟩
  rw [← hrb] at hz1 q0 q1 p0 p1 ⊢
  have hcr : ¬ cb = rb := by omega
  have hrc : ¬ rb = cb := by omega
  have hcw : w.heap.size ≤ cb := by omega
  have hrw : w.heap.size ≤ rb := by omega
  have hc1 : cb < w1.heap.size := by omega
  have hr1 : rb < w1.heap.size := by omega
  have HF1 := Lib.hid hF1
  have HC0 := Lib.hid c0
  have HC1 := Lib.hid c1
  have HG0 := Lib.hid f0
  have HG1 := Lib.hid f1
  have HQ0 := Lib.hid q0
  have HQ1 := Lib.hid q1
  have HP0 := Lib.hid p0
  have HP1 := Lib.hid p1
  clear hcb hF1 hz1 hrb c0 c1 f0 f1 q0 q1 p0 p1
  go_loopw [7] (fun i ws => ∃ k : Nat, i = .int .i64 k ∧ k ≤ xs.length ∧ Fx No w1 ws ∧ ∀ j, j < k → badE N (gt xs j) = false) (fun i _ => xs.length - (intOf i).toNat)
  case atStart => exact ⟨0, rfl, Nat.zero_le _, Fx.refl _ _, fun j hj => by omega⟩
  case round =>
    obtain ⟨k, rfl, hk, hf, hq⟩ := hrel
    have HF := Lib.hid hf
    have HQq := Lib.hid hq
    have c0 := hf.cell' HC0.out (fun h => h)
    have c1 := hf.cell' HC1.out (fun h => h)
    clear hf hq
    by_cases hlt : k < xs.length
    · obtain ⟨b2, o2, rfl, _, e0, e1, e2⟩ := HC'.out k hlt
      have e0 := HF.out.cell' (HF1.out.cell' e0 (fun h => h)) (fun h => h)
      have e1 := HF.out.cell' (HF1.out.cell' e1 (fun h => h)) (fun h => h)
      clear e2
      have HM := Lib.hid (gt_mem hlt)
      obtain ⟨x, hx⟩ : ∃ x, x = gt xs k := ⟨_, rfl⟩
      rw [← hx] at e0 e1 HM
      have HXk := Lib.hid hx
      have hlt0 : (0 : Int) ≤ (k : Int) := by omega
      have hlt1 : (k : Int) < (xs.length : Int) := by omega
      clear hx
      by_cases h0 : x.f < 0
      · have d0 : decide (x.f < 0) = true := decide_eq_true h0
        clear HM
        go_wp2_with fail
        go_quiet (fail)
        all_goals
          have HFy : Hid (Fx No w1 (wr.drewN nq)) := Lib.hid (HF.out.drewN nq)
          generalize wr.drewN nq = wy at *
          have c0 := HFy.out.cell' HC0.out (fun h => h)
          have c1 := HFy.out.cell' HC1.out (fun h => h)
          obtain ⟨q0, p0⟩ := HFy.out.cellF HQ0.out HP0.out (fun h => h)
          obtain ⟨q1, p1⟩ := HFy.out.cellF HQ1.out HP1.out (fun h => h)
          obtain ⟨g1, g2, g3, g4⟩ := put_two wy (qb := rb) (.int .i64 (N : Nat)) (.slice ao L.length cap) q0 q1
          have HH0 : Hid ((wy.setCell ⟨rb, 0, none⟩ (.int .i64 (N : Nat))).cell? ⟨rb, 0, none⟩ = some (.int .i64 (N : Nat))) := Lib.hid (World.cell?_setCell_same _ _ _ q0)
          have HH1 := Lib.hid g1
          have HH2 := Lib.hid g2
          clear g1 g2 g3 g4
          go_wp2
          refine bodyPost_ret (v := .tuple #[.agg #[.int .i64 (N : Nat), .slice ao L.length cap], .int .i64 0, .int .i64 130]) (by have g0 := HH0.out; have g1 := HH1.out; have g2 := HH2.out; simp [results, Try.results25, go_sem, g0, g1, g2]) rfl ⟨rfl, ?_⟩
          exact ((HF1.out.trans HFy.out).setCell (.inl hrw) _).setCell (.inl hrw) _
      by_cases h1 : (N : Int) ≤ x.f
      · have d0 : decide (x.f < 0) = false := decide_eq_false h0
        have d1 : decide ((N : Int) ≤ x.f) = true := decide_eq_true h1
        clear HM
        go_wp2_with fail
        go_quiet (fail)
        all_goals
          have HFy : Hid (Fx No w1 (wr.drewN nq)) := Lib.hid (HF.out.drewN nq)
          generalize wr.drewN nq = wy at *
          have c0 := HFy.out.cell' HC0.out (fun h => h)
          have c1 := HFy.out.cell' HC1.out (fun h => h)
          obtain ⟨q0, p0⟩ := HFy.out.cellF HQ0.out HP0.out (fun h => h)
          obtain ⟨q1, p1⟩ := HFy.out.cellF HQ1.out HP1.out (fun h => h)
          obtain ⟨g1, g2, g3, g4⟩ := put_two wy (qb := rb) (.int .i64 (N : Nat)) (.slice ao L.length cap) q0 q1
          have HH0 : Hid ((wy.setCell ⟨rb, 0, none⟩ (.int .i64 (N : Nat))).cell? ⟨rb, 0, none⟩ = some (.int .i64 (N : Nat))) := Lib.hid (World.cell?_setCell_same _ _ _ q0)
          have HH1 := Lib.hid g1
          have HH2 := Lib.hid g2
          clear g1 g2 g3 g4
          go_wp2
          refine bodyPost_ret (v := .tuple #[.agg #[.int .i64 (N : Nat), .slice ao L.length cap], .int .i64 0, .int .i64 130]) (by have g0 := HH0.out; have g1 := HH1.out; have g2 := HH2.out; simp [results, Try.results25, go_sem, g0, g1, g2]) rfl ⟨rfl, ?_⟩
          exact ((HF1.out.trans HFy.out).setCell (.inl hrw) _).setCell (.inl hrw) _
      by_cases h2 : x.t < 0
      · have d0 : decide (x.f < 0) = false := decide_eq_false h0
        have d1 : decide ((N : Int) ≤ x.f) = false := decide_eq_false h1
        have d2 : decide (x.t < 0) = true := decide_eq_true h2
        clear HM
        go_wp2_with fail
        go_quiet (fail)
        all_goals
          have HFy : Hid (Fx No w1 (wr.drewN nq)) := Lib.hid (HF.out.drewN nq)
          generalize wr.drewN nq = wy at *
          have c0 := HFy.out.cell' HC0.out (fun h => h)
          have c1 := HFy.out.cell' HC1.out (fun h => h)
          obtain ⟨q0, p0⟩ := HFy.out.cellF HQ0.out HP0.out (fun h => h)
          obtain ⟨q1, p1⟩ := HFy.out.cellF HQ1.out HP1.out (fun h => h)
          obtain ⟨g1, g2, g3, g4⟩ := put_two wy (qb := rb) (.int .i64 (N : Nat)) (.slice ao L.length cap) q0 q1
          have HH0 : Hid ((wy.setCell ⟨rb, 0, none⟩ (.int .i64 (N : Nat))).cell? ⟨rb, 0, none⟩ = some (.int .i64 (N : Nat))) := Lib.hid (World.cell?_setCell_same _ _ _ q0)
          have HH1 := Lib.hid g1
          have HH2 := Lib.hid g2
          clear g1 g2 g3 g4
          go_wp2
          refine bodyPost_ret (v := .tuple #[.agg #[.int .i64 (N : Nat), .slice ao L.length cap], .int .i64 0, .int .i64 130]) (by have g0 := HH0.out; have g1 := HH1.out; have g2 := HH2.out; simp [results, Try.results25, go_sem, g0, g1, g2]) rfl ⟨rfl, ?_⟩
          exact ((HF1.out.trans HFy.out).setCell (.inl hrw) _).setCell (.inl hrw) _
      by_cases h3 : (N : Int) ≤ x.t
      · have d0 : decide (x.f < 0) = false := decide_eq_false h0
        have d1 : decide ((N : Int) ≤ x.f) = false := decide_eq_false h1
        have d2 : decide (x.t < 0) = false := decide_eq_false h2
        have d3 : decide ((N : Int) ≤ x.t) = true := decide_eq_true h3
        clear HM
        go_wp2_with fail
        go_quiet (fail)
        all_goals
          have HFy : Hid (Fx No w1 (wr.drewN nq)) := Lib.hid (HF.out.drewN nq)
          generalize wr.drewN nq = wy at *
          have c0 := HFy.out.cell' HC0.out (fun h => h)
          have c1 := HFy.out.cell' HC1.out (fun h => h)
          obtain ⟨q0, p0⟩ := HFy.out.cellF HQ0.out HP0.out (fun h => h)
          obtain ⟨q1, p1⟩ := HFy.out.cellF HQ1.out HP1.out (fun h => h)
          obtain ⟨g1, g2, g3, g4⟩ := put_two wy (qb := rb) (.int .i64 (N : Nat)) (.slice ao L.length cap) q0 q1
          have HH0 : Hid ((wy.setCell ⟨rb, 0, none⟩ (.int .i64 (N : Nat))).cell? ⟨rb, 0, none⟩ = some (.int .i64 (N : Nat))) := Lib.hid (World.cell?_setCell_same _ _ _ q0)
          have HH1 := Lib.hid g1
          have HH2 := Lib.hid g2
          clear g1 g2 g3 g4
          go_wp2
          refine bodyPost_ret (v := .tuple #[.agg #[.int .i64 (N : Nat), .slice ao L.length cap], .int .i64 0, .int .i64 130]) (by have g0 := HH0.out; have g1 := HH1.out; have g2 := HH2.out; simp [results, Try.results25, go_sem, g0, g1, g2]) rfl ⟨rfl, ?_⟩
          exact ((HF1.out.trans HFy.out).setCell (.inl hrw) _).setCell (.inl hrw) _
      have d0 : decide (x.f < 0) = false := decide_eq_false h0
      have d1 : decide ((N : Int) ≤ x.f) = false := decide_eq_false h1
      have d2 : decide (x.t < 0) = false := decide_eq_false h2
      have d3 : decide ((N : Int) ≤ x.t) = false := decide_eq_false h3
      have hbd : badE N x = false := by unfold badE; simp only [Bool.not_eq_false', Bool.and_eq_true, decide_eq_true_eq]; omega
      have HBd := Lib.hid hbd
      clear hbd
      go_wp2_with fail
      go_quiet (fail)
      all_goals
        go_wp2
        go_roundw
        case rel => exact ⟨k + 1, by go_num, by omega, HF.out.drewN _, fun j hj => by
          by_cases e : j = k
          · subst e; rw [← HXk.out]; exact HBd.out
          · exact HQq.out j (by omega)⟩
        case measure => simp [intOf]; omega
    · exfalso
      obtain ⟨x, hx, hb⟩ := List.any_eq_true.1 HB.out
      obtain ⟨i, hi, e⟩ := List.getElem_of_mem hx
      have := HQq.out i (by omega)
      rw [show gt xs i = x by rw [← e]; simp [gt, hi]] at this
      rw [this] at hb
      cases hb
set_option maxRecDepth 100000 in
set_option maxHeartbeats 4000000 in
theorem refAdd_any (h : EdsV w D v L) (ha : Asc L) (hx : EdsV w E u xs) (N : Nat) (hgood : xs.any (badE N) = false) (hl : L.length + xs.length ≤ 1000000) : Calls Try.prog 25 #[.agg #[.int .i64 (N : Nat), v], u] w fun e w' => ∃ (v' : Value) (c : Nat), e = .returned (.tuple #[.agg #[.int .i64 (N : Nat), v'], .int .i64 (c : Nat), .int .i64 0]) ∧ c + L.length = (addL L xs).length ∧ Fx No w w' ∧ EdsV w' (fun k => (D k ∨ w.heap.size ≤ k) ∧ k < w'.heap.size) v' (addL L xs) := by
  have H := Lib.hid h.bound
  have HX := Lib.hid hx
  obtain ⟨ao, cap, rfl, _, _, _⟩ := h.facts
  obtain ⟨bo, bcap, rfl, _, _, hc'⟩ := hx.facts
  have HC' := Lib.hid hc'
  have HGd := Lib.hid hgood
  have HA := Lib.hid ha
  clear h hx hc'
  go_enter Try.func25, Try.ntmps25
  go_wp2_with fail
  refine wp_hold (fun W => Fx No w W ∧ W.heap.size = w.heap.size + 1 + 1 ∧ W.cell? ⟨w.heap.size, 0, none⟩ = some (.int .i64 (N : Nat)) ∧ W.frozen? ⟨w.heap.size, 0, none⟩ = false ∧ W.cell? ⟨w.heap.size, 1, none⟩ = some (.slice ao L.length cap) ∧ W.frozen? ⟨w.heap.size, 1, none⟩ = false ∧
    (W.cell? ⟨w.heap.size + 1, 0, none⟩ = some (.int .i64 0) ∧ W.frozen? ⟨w.heap.size + 1, 0, none⟩ = false) ∧ (W.cell? ⟨w.heap.size + 1, 1, none⟩ = some (.slice none 0 0) ∧ W.frozen? ⟨w.heap.size + 1, 1, none⟩ = false))
    ⟨((Fx.refl No w).alloc _).alloc _, by simp, by go_simp, by go_simp, by go_simp, by go_simp, ⟨by go_simp, by go_simp⟩, ⟨by go_simp, by go_simp⟩⟩ ?_
  rintro w1 ⟨hF1, hz1, c0, f0, c1, f1, ⟨q0, p0⟩, ⟨q1, p1⟩⟩
  obtain ⟨cb, hcb⟩ : ∃ e, e = w.heap.size := ⟨_, rfl⟩
  rw [← hcb] at hz1 c0 c1 f0 f1 q0 q1 p0 p1 ⊢
  obtain ⟨rb, hrb⟩ : ∃ e, e = cb + 1 := ⟨_, rfl⟩
  rw [← hrb] at hz1 q0 q1 p0 p1 ⊢
  have hcr : ¬ cb = rb := by omega
  have hrc : ¬ rb = cb := by omega
  have hcw : w.heap.size ≤ cb := by omega
  have hrw : w.heap.size ≤ rb := by omega
  have hc1 : cb < w1.heap.size := by omega
  have hr1 : rb < w1.heap.size := by omega
  have HF1 := Lib.hid hF1
  have HC0 := Lib.hid c0
  have HC1 := Lib.hid c1
  have HG0 := Lib.hid f0
  have HG1 := Lib.hid f1
  have HQ0 := Lib.hid q0
  have HQ1 := Lib.hid q1
  have HP0 := Lib.hid p0
  have HP1 := Lib.hid p1
  clear hcb hF1 hz1 hrb c0 c1 f0 f1 q0 q1 p0 p1
  go_loopw [7] (fun i ws => ∃ k : Nat, i = .int .i64 k ∧ k ≤ xs.length ∧ Fx No w1 ws ∧ ∀ j, j < k → badE N (gt xs j) = false) (fun i _ => xs.length - (intOf i).toNat)
  case atStart => exact ⟨0, rfl, Nat.zero_le _, Fx.refl _ _, fun j hj => by omega⟩
  case round =>
    obtain ⟨k, rfl, hk, hf, hq⟩ := hrel
    have HF := Lib.hid hf
    have HQq := Lib.hid hq
    have c0 := hf.cell' HC0.out (fun h => h)
    have c1 := hf.cell' HC1.out (fun h => h)
    clear hf hq
    by_cases hlt : k < xs.length
    · obtain ⟨b2, o2, rfl, _, e0, e1, e2⟩ := HC'.out k hlt
      have e0 := HF.out.cell' (HF1.out.cell' e0 (fun h => h)) (fun h => h)
      have e1 := HF.out.cell' (HF1.out.cell' e1 (fun h => h)) (fun h => h)
      clear e2
      have HM := Lib.hid (gt_mem hlt)
      obtain ⟨x, hx⟩ : ∃ x, x = gt xs k := ⟨_, rfl⟩
      rw [← hx] at e0 e1 HM
      have HXk := Lib.hid hx
      have hlt0 : (0 : Int) ≤ (k : Int) := by omega
      have hlt1 : (k : Int) < (xs.length : Int) := by omega
      clear hx
      have hb1 := List.any_eq_false.1 HGd.out x HM.out
      have hb2 : badE N x = false := by simpa using hb1
      obtain ⟨⟨l0, l1⟩, l2, l3⟩ : (0 ≤ x.f ∧ x.f < (N : Int)) ∧ 0 ≤ x.t ∧ x.t < (N : Int) := by simpa [badE] using hb2
      have h0 : ¬ x.f < 0 := by omega
      have h1 : ¬ (N : Int) ≤ x.f := by omega
      have h2 : ¬ x.t < 0 := by omega
      have h3 : ¬ (N : Int) ≤ x.t := by omega
      have d0 : decide (x.f < 0) = false := decide_eq_false h0
      have d1 : decide ((N : Int) ≤ x.f) = false := decide_eq_false h1
      have d2 : decide (x.t < 0) = false := decide_eq_false h2
      have d3 : decide ((N : Int) ≤ x.t) = false := decide_eq_false h3
      have hbd : badE N x = false := hb2
      have HBd := Lib.hid hbd
      clear hbd hb1 hb2 l0 l1 l2 l3
      go_wp2_with fail
      go_quiet (fail)
      all_goals
        go_wp2
        go_roundw
        case rel => exact ⟨k + 1, by go_num, by omega, HF.out.drewN _, fun j hj => by
          by_cases e : j = k
          · subst e; rw [← HXk.out]; exact HBd.out
          · exact HQq.out j (by omega)⟩
        case measure => simp [intOf]; omega
    · obtain rfl : k = xs.length := by omega
      clear HQq c0 c1
      go_wp2_with fail
      refine wp_hold (fun W => ∃ (vk : Value) (c : Nat), StA w w1 W D cb N L xs 0 vk c ∧ c = 0 ∧ vk = .slice ao L.length cap) ?st ?_
      case st =>
        refine ⟨_, 0, ⟨(HF.out.weaken : Fx (fun j => j = cb) w1 wr), HF.out.cellF HC0.out HG0.out (fun h => h), HF.out.cellF HC1.out HG1.out (fun h => h), ?_, by simp [addL]⟩, rfl, rfl⟩
        exact (H.out.no (HF1.out.trans HF.out)).mono fun j hj => ⟨.inl hj, by have := hj.2; have := HF1.out.size; have := HF.out.size; omega⟩
      rintro w2 ⟨vk, c, hst, rfl, rfl⟩
      have HST := Lib.hid hst
      clear hst HF
      go_loopw [8, 9] (fun m i ws => ∃ (k : Nat) (vk : Value) (c : Nat), i = .int .i64 k ∧ m = .int .i64 c ∧ k ≤ xs.length ∧ StA w w1 ws D cb N L xs k vk c) (fun _ i _ => xs.length - (intOf i).toNat)
      case atStart => exact ⟨0, _, 0, rfl, rfl, Nat.zero_le _, HST.out⟩
      case round =>
        clear HST
        obtain ⟨k, vk, c, rfl, rfl, hk, hst⟩ := hrel
        have hal := addL_len L (xs.take k)
        rw [List.length_take] at hal
        have hcn := hst.cnt
        obtain ⟨acc, hacc⟩ : ∃ a, a = addL L (xs.take k) := ⟨_, rfl⟩
        obtain ⟨so, sc, rfl, _, _, _⟩ := EdsV.facts hst.row
        rw [← hacc] at hal hcn
        have hcb3 : c ≤ 1000000 := by omega
        have hac3 : acc.length ≤ 1000000 := by omega
        have HAc := Lib.hid hacc
        have HST := Lib.hid hst
        have c0 := hst.c0
        have c1 := hst.c1
        obtain ⟨c0, f0⟩ := c0
        obtain ⟨c1, f1⟩ := c1
        rw [← hacc] at c1
        have hsz := hst.fx.size
        clear hst hacc hal
        by_cases hlt : k < xs.length
        · obtain ⟨b2, o2, rfl, _, e0, e1, e2⟩ := HC'.out k hlt
          have hb2 := World.block_lt_of_cell? w _ e0
          have hb2 : b2 < w.heap.size := hb2
          have hnb : ¬ b2 = cb := by omega
          have e0 := HST.out.fx.cell' (HF1.out.cell' e0 (fun h => h)) hnb
          have e1 := HST.out.fx.cell' (HF1.out.cell' e1 (fun h => h)) hnb
          have e2 := HST.out.fx.cell' (HF1.out.cell' e2 (fun h => h)) hnb
          have HTk : Hid (addL L (xs.take (k + 1)) = insE (gt xs k) acc) := Lib.hid (by rw [take_gt hlt, addL_snoc, ← HAc.out])
          have HAa : Hid (Asc acc) := Lib.hid (by rw [HAc.out]; exact addL_asc HA.out _)
          obtain ⟨x, hx⟩ : ∃ x, x = gt xs k := ⟨_, rfl⟩
          rw [← hx] at e0 e1 e2 HTk
          obtain ⟨xf, xt, xl⟩ := x
          simp only at e0 e1 e2
          have HRo : Hid (EdsV wr (fun j => ((D j ∧ j < w.heap.size) ∨ w1.heap.size ≤ j) ∧ j < wr.heap.size) (.slice so acc.length sc) acc) := Lib.hid (by have := HST.out.row; rw [← HAc.out] at this; exact this)
          obtain ⟨t, ht⟩ : ∃ t, t = decide ((⟨xf, xt, xl⟩ : Ed) ∈ acc) := ⟨_, rfl⟩
          have HT := Lib.hid ht
          have CH : Hid (∀ W, Fx No wr W → Calls Try.prog 51 #[.agg #[.int .i64 (N : Nat), .slice so acc.length sc], .agg #[.int .i64 xf, .int .i64 xt, .int .i64 xl]] W fun e w' => e = .returned (.bool t) ∧ Fx No W w') := Lib.hid fun W hf => by rw [ht]; exact refHas_any (HRo.out.no hf) (N : Int) ⟨xf, xt, xl⟩
          have g0 : ∀ W, Fx No wr W → W.cell? ⟨cb, 0, none⟩ = some (.int .i64 (N : Nat)) := fun W h => h.cell' c0 (fun h => h)
          have g1 : ∀ W, Fx No wr W → W.cell? ⟨cb, 1, none⟩ = some (.slice so acc.length sc) := fun W h => h.cell' c1 (fun h => h)
          have g2 : ∀ W, Fx No wr W → W.cell? ⟨b2, o2 + k * 3, none⟩ = some (.int .i64 xf) := fun W h => h.cell' e0 (fun h => h)
          have g3 : ∀ W, Fx No wr W → W.cell? ⟨b2, o2 + k * 3 + 1, none⟩ = some (.int .i64 xt) := fun W h => h.cell' e1 (fun h => h)
          have g4 : ∀ W, Fx No wr W → W.cell? ⟨b2, o2 + k * 3 + 2, none⟩ = some (.int .i64 xl) := fun W h => h.cell' e2 (fun h => h)
          have s0 : Fx No wr wr := Fx.refl _ _
          have hlt0 : (0 : Int) ≤ (k : Int) := by omega
          have hlt1 : (k : Int) < (xs.length : Int) := by omega
          have HE0 := Lib.hid e0
          have HE1 := Lib.hid e1
          have HE2 := Lib.hid e2
          have HK0 := Lib.hid c0
          have HK1 := Lib.hid c1
          have HK2 := Lib.hid f0
          have HK3 := Lib.hid f1
          clear hx ht e0 e1 e2 c0 c1 f0 f1
          go_wp2_with fail
          refine wp_region_H (fun W => Fx No wr W) (by kernel_rfl) s0.drew ?_
          intro hS
          refine wpAnyH_take (i := 0) (v := ?_) rfl (by kernel_rfl) (by kernel_rfl) (by kernel_rfl) (fun _ _ _ h => h) (Or.inl ⟨by rfl, ?_⟩) hS ?_
          rotate_left
          · (intro W hs; go_simp; first | done | with_reducible rfl)
          try simp only [Act.put, List.getElem_toArray, List.getElem_cons_zero, List.getElem_cons_succ, List.setIfInBounds_toArray, List.set_cons_zero, List.set_cons_succ]
          refine wpAnyH_take (i := 1) (v := ?_) rfl (by kernel_rfl) (by kernel_rfl) (by kernel_rfl) (fun _ _ _ h => h) (Or.inl ⟨by rfl, ?_⟩) hS ?_
          rotate_left
          · (intro W hs; go_simp; first | done | with_reducible rfl)
          try simp only [Act.put, List.getElem_toArray, List.getElem_cons_zero, List.getElem_cons_succ, List.setIfInBounds_toArray, List.set_cons_zero, List.set_cons_succ]
          refine wpAnyH_take (i := 2) (v := ?_) rfl (by kernel_rfl) (by kernel_rfl) (by kernel_rfl) (fun _ _ _ h => h) (Or.inl ⟨by rfl, ?_⟩) hS ?_
          rotate_left
          · (intro W hs; go_simp; first | done | with_reducible rfl)
          try simp only [Act.put, List.getElem_toArray, List.getElem_cons_zero, List.getElem_cons_succ, List.setIfInBounds_toArray, List.set_cons_zero, List.set_cons_succ]
          refine wpAnyH_take (i := 3) (v := ?_) rfl (by kernel_rfl) (by kernel_rfl) (by kernel_rfl) (fun _ _ _ h => h) (Or.inl ⟨by rfl, ?_⟩) hS ?_
          rotate_left
          · (intro W hs; go_simp; first | done | with_reducible rfl)
          try simp only [Act.put, List.getElem_toArray, List.getElem_cons_zero, List.getElem_cons_succ, List.setIfInBounds_toArray, List.set_cons_zero, List.set_cons_succ]
          refine wpAnyH_take (i := 4) (v := ?_) rfl (by kernel_rfl) (by kernel_rfl) (by kernel_rfl) (fun _ _ _ h => h) (Or.inl ⟨by rfl, ?_⟩) hS ?_
          rotate_left
          · (intro W hs; go_simp; first | done | with_reducible rfl)
          try simp only [Act.put, List.getElem_toArray, List.getElem_cons_zero, List.getElem_cons_succ, List.setIfInBounds_toArray, List.set_cons_zero, List.set_cons_succ]
          refine wpH_one (i := 5) (by kernel_rfl) rfl (fun K hK => ?_)
          go_simp
          refine (CH.out _ hS).mono ?_
          rintro e w' ⟨rfl, hfi⟩
          refine hK.out _ _ (hS.trans hfi) (fun hS' => ?_)
          clear hK K hS hfi
          have hS := hS'
          clear hS'
          try simp only [Act.put, List.getElem_toArray, List.getElem_cons_zero, List.getElem_cons_succ, List.setIfInBounds_toArray, List.set_cons_zero, List.set_cons_succ]
          refine wpAnyH_take (i := 6) (v := ?_) rfl (by kernel_rfl) (by kernel_rfl) (by kernel_rfl) (fun _ _ _ h => h) (Or.inl ⟨by rfl, ?_⟩) hS ?_
          rotate_left
          · (intro W hs; go_simp; first | done | with_reducible rfl)
          try simp only [Act.put, List.getElem_toArray, List.getElem_cons_zero, List.getElem_cons_succ, List.setIfInBounds_toArray, List.set_cons_zero, List.set_cons_succ]
          refine wpAnyH_done (by kernel_rfl) ?_ _
          have HS3 := Lib.hid hS
          clear g0 g1 g2 g3 g4 s0 hS CH
          cases t
          · have hni : (⟨xf, xt, xl⟩ : Ed) ∉ acc := of_decide_eq_false HT.out.symm
            have HNi := Lib.hid hni
            clear hni
            go_wp2_with fail
            refine wp_hold (fun W => Fx No wr W) HS3.out ?_
            rintro wx hwx
            have HWx := Lib.hid hwx
            clear hwx HS3
            have CW : Hid (∀ W, Fx No wx W → Calls Try.prog 43 #[.agg #[.int .i64 (N : Nat), .slice so acc.length sc], .agg #[.int .i64 xf, .int .i64 xt, .int .i64 xl]] W (RefG (fun j => ((D j ∧ j < w.heap.size) ∨ w1.heap.size ≤ j) ∧ j < wr.heap.size) (N : Int) (insE ⟨xf, xt, xl⟩ acc) W)) := Lib.hid fun W hf => by rw [← insStE_all HNi.out]; exact refWith_any (HRo.out.no (HWx.out.trans hf)) (N : Int) xf xt xl hac3
            have c0 := HWx.out.cell' HK0.out (fun h => h)
            have c1 := HWx.out.cell' HK1.out (fun h => h)
            have e0 := HWx.out.cell' HE0.out (fun h => h)
            have e1 := HWx.out.cell' HE1.out (fun h => h)
            have e2 := HWx.out.cell' HE2.out (fun h => h)
            have g0 : ∀ W, Fx No wx W → W.cell? ⟨cb, 0, none⟩ = some (.int .i64 (N : Nat)) := fun W h => h.cell' c0 (fun h => h)
            have g1 : ∀ W, Fx No wx W → W.cell? ⟨cb, 1, none⟩ = some (.slice so acc.length sc) := fun W h => h.cell' c1 (fun h => h)
            have g2 : ∀ W, Fx No wx W → W.cell? ⟨b2, o2 + k * 3, none⟩ = some (.int .i64 xf) := fun W h => h.cell' e0 (fun h => h)
            have g3 : ∀ W, Fx No wx W → W.cell? ⟨b2, o2 + k * 3 + 1, none⟩ = some (.int .i64 xt) := fun W h => h.cell' e1 (fun h => h)
            have g4 : ∀ W, Fx No wx W → W.cell? ⟨b2, o2 + k * 3 + 2, none⟩ = some (.int .i64 xl) := fun W h => h.cell' e2 (fun h => h)
            have s0 : Fx No wx wx := Fx.refl _ _
            clear c0 c1 e0 e1 e2
            refine wp_region_G 6 (fun b W => b = false → Fx No wx W) (by kernel_rfl) (fun _ => s0.drew) ?_
            intro hS hC
            refine wpG_take (i := 0) (v := ?_) rfl (by kernel_rfl) (by kernel_rfl) (by kernel_rfl) (by kernel_rfl) (fun _ _ _ h => h) (by decide) (Or.inl ⟨by rfl, ?_⟩) hC hS ?_
            rotate_left
            · (intro W hc; have hf := hc rfl; go_simp; first | done | with_reducible rfl)
            clear hS hC
            intro hS hC
            try simp only [Act.put, List.getElem_toArray, List.getElem_cons_zero, List.getElem_cons_succ, List.setIfInBounds_toArray, List.set_cons_zero, List.set_cons_succ]
            refine wpG_take (i := 1) (v := ?_) rfl (by kernel_rfl) (by kernel_rfl) (by kernel_rfl) (by kernel_rfl) (fun _ _ _ h => h) (by decide) (Or.inl ⟨by rfl, ?_⟩) hC hS ?_
            rotate_left
            · (intro W hc; have hf := hc rfl; go_simp; first | done | with_reducible rfl)
            clear hS hC
            intro hS hC
            try simp only [Act.put, List.getElem_toArray, List.getElem_cons_zero, List.getElem_cons_succ, List.setIfInBounds_toArray, List.set_cons_zero, List.set_cons_succ]
            refine wpG_take (i := 2) (v := ?_) rfl (by kernel_rfl) (by kernel_rfl) (by kernel_rfl) (by kernel_rfl) (fun _ _ _ h => h) (by decide) (Or.inl ⟨by rfl, ?_⟩) hC hS ?_
            rotate_left
            · (intro W hc; have hf := hc rfl; go_simp; first | done | with_reducible rfl)
            clear hS hC
            intro hS hC
            try simp only [Act.put, List.getElem_toArray, List.getElem_cons_zero, List.getElem_cons_succ, List.setIfInBounds_toArray, List.set_cons_zero, List.set_cons_succ]
            refine wpG_take (i := 3) (v := ?_) rfl (by kernel_rfl) (by kernel_rfl) (by kernel_rfl) (by kernel_rfl) (fun _ _ _ h => h) (by decide) (Or.inl ⟨by rfl, ?_⟩) hC hS ?_
            rotate_left
            · (intro W hc; have hf := hc rfl; go_simp; first | done | with_reducible rfl)
            clear hS hC
            intro hS hC
            try simp only [Act.put, List.getElem_toArray, List.getElem_cons_zero, List.getElem_cons_succ, List.setIfInBounds_toArray, List.set_cons_zero, List.set_cons_succ]
            refine wpG_take (i := 4) (v := ?_) rfl (by kernel_rfl) (by kernel_rfl) (by kernel_rfl) (by kernel_rfl) (fun _ _ _ h => h) (by decide) (Or.inl ⟨by rfl, ?_⟩) hC hS ?_
            rotate_left
            · (intro W hc; have hf := hc rfl; go_simp; first | done | with_reducible rfl)
            clear hS hC
            intro hS hC
            try simp only [Act.put, List.getElem_toArray, List.getElem_cons_zero, List.getElem_cons_succ, List.setIfInBounds_toArray, List.set_cons_zero, List.set_cons_succ]
            refine wpG_one (i := 5) (by kernel_rfl) rfl hC (fun K hK => ?_)
            go_simp
            refine (CW.out _ (hS rfl)).mono ?_
            rintro e w3 ⟨v3, rfl, hfi, hr3⟩
            obtain ⟨ao3, cap3, rfl, _, _, _⟩ := EdsV.facts hr3
            refine hK.out _ _ (fun _ => (hS rfl).trans hfi) (fun hS' hC' => ?_)
            have HF3 : Hid (Fx No wr w3) := Lib.hid (HWx.out.trans ((hS rfl).trans hfi))
            have HR3 := Lib.hid hr3
            obtain ⟨q0, p0⟩ := HF3.out.cellF HK0.out HK2.out (fun h => h)
            obtain ⟨q1, p1⟩ := HF3.out.cellF HK1.out HK3.out (fun h => h)
            clear hK K hS hC hfi hr3 g0 g1 g2 g3 g4 s0 CW
            have hS := hS'
            have hC := hC'
            clear hS' hC'
            try simp only [Act.put, List.getElem_toArray, List.getElem_cons_zero, List.getElem_cons_succ, List.setIfInBounds_toArray, List.set_cons_zero, List.set_cons_succ]
            refine wpG_one (i := 6) (by kernel_rfl) rfl hC (fun K hK => ?_)
            go_simp
            have HSt2 : Hid ((insE ⟨xf, xt, xl⟩ acc).length = acc.length + 1 → StA w w1 ((w3.setCell ⟨cb, 0, none⟩ (.int .i64 (N : Nat))).setCell ⟨cb, 1, none⟩ (.slice ao3 (insE ⟨xf, xt, xl⟩ acc).length cap3)) D cb N L xs (k + 1) (.slice ao3 (insE ⟨xf, xt, xl⟩ acc).length cap3) (c + 1)) := Lib.hid (fun hln => by
              obtain ⟨g1, g2, g3, g4⟩ := put_two w3 (qb := cb) (.int .i64 (N : Nat)) (.slice ao3 (insE ⟨xf, xt, xl⟩ acc).length cap3) q0 q1
              have hsz3 := HF3.out.size
              refine ⟨(HST.out.fx.trans HF3.out.weaken).trans g3, ⟨g1, by simpa using p0⟩, ⟨g2, by simpa using p1⟩, ?_, by rw [HTk.out, hln]; omega⟩
              rw [HTk.out]
              refine RowV.mono (HR3.out.keep g3 fun x hx e => ?_) fun x hx => ?_
              · have e : x = cb := e
                have h1 := hx.1
                have h2 := HWx.out.size
                have h5 : wx.drew.heap.size = wx.heap.size := rfl
                rcases h1 with ⟨⟨_, h⟩ | h, _⟩ | h <;> omega
              · have h1 := hx.1
                have h2 := hx.2
                have h3 := HWx.out.size
                have h5 : wx.drew.heap.size = wx.heap.size := rfl
                rw [g4]
                refine ⟨?_, by omega⟩
                rcases h1 with h | h
                · exact h.1
                · exact .inr (by omega))
            refine hK.out _ _ (fun h => absurd h (by decide +kernel)) (fun _ _ => ?_)
            clear hK K hS hC
            refine wpG_done (by kernel_rfl) ?_ _
            clear q0 p0 q1 p1
            have HLn : Hid ((insE ⟨xf, xt, xl⟩ acc).length = acc.length + 1) := Lib.hid (length_insE HAa.out HNi.out)
            go_wp2
            go_roundw
            case rel => exact ⟨k + 1, _, c + 1, by go_num, by go_num, by omega, HSt2.out HLn.out⟩
            case measure => simp [intOf]; omega
          · have him : (⟨xf, xt, xl⟩ : Ed) ∈ acc := of_decide_eq_true HT.out.symm
            have HSt2 : Hid (StA w w1 w' D cb N L xs (k + 1) (.slice so acc.length sc) c) := Lib.hid (by
              have e : addL L (xs.take (k + 1)) = addL L (xs.take k) := by rw [HTk.out, insE_mem HAa.out him, HAc.out]
              have hs := HST.out
              rw [← HAc.out] at hs
              exact ⟨hs.fx.transNo HS3.out, HS3.out.cellF hs.c0.1 hs.c0.2 (fun h => h), HS3.out.cellF hs.c1.1 hs.c1.2 (fun h => h), by rw [e]; exact (hs.row.no HS3.out).mono fun j hj => ⟨hj.1, by have := hj.2; have := HS3.out.size; omega⟩, by rw [e]; exact hs.cnt⟩)
            clear him
            go_wp2
            go_roundw
            case rel => exact ⟨k + 1, _, c, by go_num, rfl, by omega, HSt2.out⟩
            case measure => simp [intOf]; omega
        · obtain rfl : k = xs.length := by omega
          rw [List.take_length] at HAc
          obtain ⟨q0, p0⟩ := HST.out.fx.cellF HQ0.out HP0.out hrc
          obtain ⟨q1, p1⟩ := HST.out.fx.cellF HQ1.out HP1.out hrc
          obtain ⟨g1, g2, g3, g4⟩ := put_two wr (qb := rb) (.int .i64 (N : Nat)) (.slice so acc.length sc) q0 q1
          have HH1 := Lib.hid g1
          have HH2 := Lib.hid g2
          have HH3 := Lib.hid g3
          have HH4 := Lib.hid g4
          have HRo : Hid (EdsV wr (fun j => ((D j ∧ j < w.heap.size) ∨ w1.heap.size ≤ j) ∧ j < wr.heap.size) (.slice so acc.length sc) acc) := Lib.hid (by have := HST.out.row; rw [List.take_length, ← HAc.out] at this; exact this)
          clear g1 g2 g3 g4
          go_wp2
          refine bodyPost_ret (v := .tuple #[.agg #[.int .i64 (N : Nat), .slice so acc.length sc], .int .i64 (c : Nat), .int .i64 0]) (by have g1 := HH1.out; have g2 := HH2.out; simp [results, Try.results25, go_sem, g1, g2]) rfl ⟨.slice so acc.length sc, c, rfl, by rw [← HAc.out]; exact hcn, ?_, ?_⟩
          · exact ((HF1.out.trans' HST.out.fx fun g e hl => by have e : g = cb := e; omega).setCell (.inl hrw) _).setCell (.inl hrw) _
          · rw [← HAc.out]
            refine RowV.mono (HRo.out.keep HH3.out fun x hx e => by have e : x = rb := e; rcases hx.1 with h | h <;> omega) fun x hx => ?_
            have h2 := hx.2
            have h4 := HH4.out
            have h5 := HF1.out.size
            exact ⟨hx.1.imp (fun h => h.1) fun h => by omega, by omega⟩
end
#print axioms refAdd_no
#print axioms refAdd_any
end Go.Proofs.Ytcfajeldkioomaa
