/- The reference of graphs: Cmp, Has, SameEdges, Same, New. -/
import Derived.Test.YtcfajeldkioomaaGNil
namespace Go.Proofs.Ytcfajeldkioomaa
open Go.RowKit
set_option linter.unusedVariables false

theorem list3_beq (a b : Ed) : ([a.f, a.t, a.l] == [b.f, b.t, b.l]) = decide (a = b) := by
  rw [Bool.eq_iff_iff, decide_eq_true_iff, beq_iff_eq]
  constructor
  · intro h
    simp only [List.cons.injEq, and_true] at h
    exact Ed.ext' h.1 h.2.1 h.2.2
  · rintro rfl; rfl
theorem fields13 : (Try.prog.fieldsOf 33).toList.map (fun f => (f.name, f.type, f.offset)) = [("From", 0), ("To", 1), ("Label", 2)].map fun q => (q.1, 3, q.2) := by kernel_rfl
theorem run_eq13 (a b : Ed) (w : World) : (Op.equalIn 10000 33 (.agg #[.int .i64 a.f, .int .i64 a.t, .int .i64 a.l]) (.agg #[.int .i64 b.f, .int .i64 b.t, .int .i64 b.l])).run Try.prog w = .ok (decide (a = b)) w := by
  have h := run_eqStruct (P := Try.prog) 9998 w Try.underlying3 (t := 33) (by kernel_rfl) (by kernel_rfl) fields13 [a.f, a.t, a.l] [b.f, b.t, b.l] rfl rfl (by decide)
  rw [list3_beq] at h
  exact h
theorem run_eqG (a b : Ed) (w : World) : (Op.equalIn 10000 25 (.agg #[.int .i64 a.f, .int .i64 a.t, .int .i64 a.l]) (.agg #[.int .i64 b.f, .int .i64 b.t, .int .i64 b.l])).run Try.prog w = .ok (decide (a = b)) w := by
  have h := run_eqStruct (P := Try.prog) 9998 w Try.underlying3 (t := 25) (by kernel_rfl) (by kernel_rfl) fieldsE [a.f, a.t, a.l] [b.f, b.t, b.l] rfl rfl (by decide)
  rw [list3_beq] at h
  exact h
section
variable {w w' : World} {D S E : Nat → Prop} {L xs ys : List Ed} {v u : Value}
set_option maxRecDepth 100000 in
set_option maxHeartbeats 2000000 in
theorem refCmp_any (a b : Ed) (w : World) : Calls Try.prog 18 #[evE a, evE b] w fun e w' => e = .returned (.int .i64 (cmpE a b)) ∧ Fx No w w' := by
  have HF : Hid (∀ a b, Fx No w ((w.alloc a).alloc b)) := Lib.hid fun a b => ((Fx.refl No w).alloc a).alloc b
  have hq := run_eq13 a b
  unfold evE
  by_cases hab : a = b
  · rw [decide_eq_true hab] at hq
    have HR : Hid (cmpE a b = 0) := Lib.hid (by unfold cmpE; simp [hab])
    rw [HR.out]
    clear HR
    obtain ⟨af, ta, al⟩ := a
    obtain ⟨bf, tb, bl⟩ := b
    simp only at *
    go_enter Try.func18, Try.ntmps18
    go_wp2
    go_ret
    exact ⟨rfl, HF.out _ _⟩
  · rw [decide_eq_false hab] at hq
    have hne : ¬ (a.f = b.f ∧ a.t = b.t ∧ a.l = b.l) := fun ⟨x, y, z⟩ => hab (Ed.ext' x y z)
    by_cases h0 : a.f < b.f
    · have d0 : decide (a.f < b.f) = true := decide_eq_true h0
      have HR : Hid (cmpE a b = -1) := Lib.hid (by unfold cmpE; rw [if_neg hab]; first | rw [if_pos (by unfold Ed.lt; omega)] | rw [if_neg (by unfold Ed.lt; omega)])
      rw [HR.out]
      clear HR
      obtain ⟨af, ta, al⟩ := a
      obtain ⟨bf, tb, bl⟩ := b
      simp only at *
      go_enter Try.func18, Try.ntmps18
      go_wp2
      go_ret
      exact ⟨rfl, HF.out _ _⟩
    · by_cases h1 : a.f = b.f
      · by_cases h2 : a.t < b.t
        · have d0 : decide (a.f < b.f) = false := decide_eq_false h0
          have d1 : (a.f == b.f) = true := by simpa using h1
          have d2 : decide (a.t < b.t) = true := decide_eq_true h2
          have HR : Hid (cmpE a b = -1) := Lib.hid (by unfold cmpE; rw [if_neg hab]; first | rw [if_pos (by unfold Ed.lt; omega)] | rw [if_neg (by unfold Ed.lt; omega)])
          rw [HR.out]
          clear HR
          obtain ⟨af, ta, al⟩ := a
          obtain ⟨bf, tb, bl⟩ := b
          simp only at *
          go_enter Try.func18, Try.ntmps18
          go_wp2
          go_ret
          exact ⟨rfl, HF.out _ _⟩
        · by_cases h3 : a.t = b.t
          · by_cases h4 : a.l < b.l
            · have d0 : decide (a.f < b.f) = false := decide_eq_false h0
              have d1 : (a.f == b.f) = true := by simpa using h1
              have d2 : decide (a.t < b.t) = false := decide_eq_false h2
              have d3 : (a.t == b.t) = true := by simpa using h3
              have d4 : decide (a.l < b.l) = true := decide_eq_true h4
              have HR : Hid (cmpE a b = -1) := Lib.hid (by unfold cmpE; rw [if_neg hab]; first | rw [if_pos (by unfold Ed.lt; omega)] | rw [if_neg (by unfold Ed.lt; omega)])
              rw [HR.out]
              clear HR
              obtain ⟨af, ta, al⟩ := a
              obtain ⟨bf, tb, bl⟩ := b
              simp only at *
              go_enter Try.func18, Try.ntmps18
              go_wp2
              go_ret
              exact ⟨rfl, HF.out _ _⟩
            · have d0 : decide (a.f < b.f) = false := decide_eq_false h0
              have d1 : (a.f == b.f) = true := by simpa using h1
              have d2 : decide (a.t < b.t) = false := decide_eq_false h2
              have d3 : (a.t == b.t) = true := by simpa using h3
              have d4 : decide (a.l < b.l) = false := decide_eq_false h4
              have HR : Hid (cmpE a b = 1) := Lib.hid (by unfold cmpE; rw [if_neg hab]; first | rw [if_pos (by unfold Ed.lt; omega)] | rw [if_neg (by unfold Ed.lt; omega)])
              rw [HR.out]
              clear HR
              obtain ⟨af, ta, al⟩ := a
              obtain ⟨bf, tb, bl⟩ := b
              simp only at *
              go_enter Try.func18, Try.ntmps18
              go_wp2
              go_ret
              exact ⟨rfl, HF.out _ _⟩
          · have d0 : decide (a.f < b.f) = false := decide_eq_false h0
            have d1 : (a.f == b.f) = true := by simpa using h1
            have d2 : decide (a.t < b.t) = false := decide_eq_false h2
            have d3 : (a.t == b.t) = false := by simpa using h3
            have HR : Hid (cmpE a b = 1) := Lib.hid (by unfold cmpE; rw [if_neg hab]; first | rw [if_pos (by unfold Ed.lt; omega)] | rw [if_neg (by unfold Ed.lt; omega)])
            rw [HR.out]
            clear HR
            obtain ⟨af, ta, al⟩ := a
            obtain ⟨bf, tb, bl⟩ := b
            simp only at *
            go_enter Try.func18, Try.ntmps18
            go_wp2
            go_ret
            exact ⟨rfl, HF.out _ _⟩
      · have d0 : decide (a.f < b.f) = false := decide_eq_false h0
        have d1 : (a.f == b.f) = false := by simpa using h1
        have HR : Hid (cmpE a b = 1) := Lib.hid (by unfold cmpE; rw [if_neg hab]; first | rw [if_pos (by unfold Ed.lt; omega)] | rw [if_neg (by unfold Ed.lt; omega)])
        rw [HR.out]
        clear HR
        obtain ⟨af, ta, al⟩ := a
        obtain ⟨bf, tb, bl⟩ := b
        simp only at *
        go_enter Try.func18, Try.ntmps18
        go_wp2
        go_ret
        exact ⟨rfl, HF.out _ _⟩
set_option maxRecDepth 100000 in
set_option maxHeartbeats 2000000 in
theorem refHas_any (h : EdsV w D v L) (N : Int) (x : Ed) : Calls Try.prog 51 #[.agg #[.int .i64 N, v], evE x] w fun e w' => e = .returned (.bool (decide (x ∈ L))) ∧ Fx No w w' := by
  obtain ⟨ao, cap, rfl, _, _, hc⟩ := h.facts
  have HC := Lib.hid hc
  unfold evE
  clear h hc
  go_enter Try.func51, Try.ntmps51
  go_wp2_with fail
  refine wp_hold (fun W => Fx No w W ∧ W.cell? ⟨w.heap.size, 1, none⟩ = some (.slice ao L.length cap) ∧ W.cell? ⟨w.heap.size + 1, 0, none⟩ = some (.int .i64 x.f) ∧ W.cell? ⟨w.heap.size + 1, 1, none⟩ = some (.int .i64 x.t) ∧ W.cell? ⟨w.heap.size + 1, 2, none⟩ = some (.int .i64 x.l)) ⟨((Fx.refl No w).alloc _).alloc _, by simp, by simp, by simp, by simp⟩ ?_
  rintro w1 ⟨hf, k1, k2, k3, k4⟩
  obtain ⟨eb, heb⟩ : ∃ e, e = w.heap.size := ⟨_, rfl⟩
  rw [← heb] at k1 k2 k3 k4 ⊢
  have HF := Lib.hid hf
  have HK1 := Lib.hid k1
  have HK2 := Lib.hid k2
  have HK3 := Lib.hid k3
  have HK4 := Lib.hid k4
  clear hf heb k1 k2 k3 k4
  go_loopw [5] (fun i ws => ∃ q : Nat, i = .int .i64 q ∧ q ≤ L.length ∧ Fx No w1 ws ∧ ∀ i, i < q → gt L i ≠ x) (fun i _ => L.length - (intOf i).toNat)
  case atStart => exact ⟨0, rfl, Nat.zero_le _, Fx.refl _ _, fun i hi => by omega⟩
  case round =>
    obtain ⟨q, rfl, hq, hf, hA⟩ := hrel
    have HFq := Lib.hid hf
    have HA := Lib.hid hA
    have k1 := hf.cell' HK1.out (fun h => h)
    have k2 := hf.cell' HK2.out (fun h => h)
    have k3 := hf.cell' HK3.out (fun h => h)
    have k4 := hf.cell' HK4.out (fun h => h)
    clear hf hA
    by_cases hql : q < L.length
    · obtain ⟨b, o, rfl, _, c1, c2, c3⟩ := HC.out q hql
      have c1 := HFq.out.cell' (HF.out.cell' c1 (fun h => h)) (fun h => h)
      have c2 := HFq.out.cell' (HF.out.cell' c2 (fun h => h)) (fun h => h)
      have c3 := HFq.out.cell' (HF.out.cell' c3 (fun h => h)) (fun h => h)
      have HM := Lib.hid (gt_mem hql)
      obtain ⟨z, hz⟩ : ∃ z, z = gt L q := ⟨_, rfl⟩
      rw [← hz] at c1 c2 c3 HM
      have HG := Lib.hid hz
      have hx := run_eq13 z x
      obtain ⟨t, ht⟩ : ∃ t, t = decide (z = x) := ⟨_, rfl⟩
      rw [← ht] at hx
      have HTt := Lib.hid ht
      have hql2 : (q : Int) < (L.length : Int) := by omega
      have hql0 : (0 : Int) ≤ (q : Int) := by omega
      clear ht hz
      go_wp2_with fail
      go_quiet (fail)
      all_goals
        have HF2 := Lib.hid (HFq.out.drewN nq)
        generalize wr.drewN nq = wr at *
        clear hx k1 k2 k3 k4 c1 c2 c3
        cases t
        · go_wp2
          go_roundw
          case rel => exact ⟨q + 1, by go_num, by omega, HF2.out, fun i hi => by
            by_cases e : i = q
            · subst e
              rw [← HG.out]
              exact of_decide_eq_false HTt.out.symm
            · exact HA.out i (by omega)⟩
          case measure => simp [intOf]; omega
        · have HR : Hid (decide (x ∈ L) = true) := Lib.hid (by
            have h2 : z = x := of_decide_eq_true HTt.out.symm
            rw [decide_eq_true_eq, ← h2]
            exact HM.out)
          go_wp2
          go_ret
          exact ⟨by rw [HR.out]; rfl, HF.out.trans HF2.out⟩
    · obtain rfl : q = L.length := by omega
      have HR : Hid (decide (x ∈ L) = false) := Lib.hid (by
        rw [decide_eq_false_iff_not]
        intro hm
        obtain ⟨i, hi, e⟩ := List.getElem_of_mem hm
        exact HA.out i hi (by rw [← e]; simp [gt, hi]))
      go_wp2
      go_ret
      exact ⟨by rw [HR.out]; rfl, HF.out.trans HFq.out⟩
theorem gt_ext {a b : List Ed} (h : a.length = b.length) (hg : ∀ k, k < a.length → gt a k = gt b k) : a = b := by
  apply List.ext_getElem h
  intro k h1 h2
  have := hg k h1
  simpa [gt, h1, h2] using this
set_option maxRecDepth 100000 in
set_option maxHeartbeats 2000000 in
theorem sameEdges_any (h : EdsV w D v xs) (h' : EdsV w E u ys) : Calls Try.prog 42 #[v, u] w fun e w' => e = .returned (.bool (decide (xs = ys))) ∧ Fx No w w' := by
  obtain ⟨ao, cap, rfl, hal, _, hc⟩ := h.facts
  obtain ⟨bo, bcap, rfl, hbl, _, hc'⟩ := h'.facts
  have HC := Lib.hid hc
  have HC' := Lib.hid hc'
  clear h h' hc hc'
  by_cases hl : xs.length = ys.length
  · have hn : ((xs.length : Int) != (ys.length : Int)) = false := by rw [hl]; simp
    have HL := Lib.hid hl
    clear hl
    go_enter Try.func42, Try.ntmps42
    go_wp2
    go_loopw [5] (fun i ws => ∃ k : Nat, k ≤ xs.length ∧ i = .int .i64 k ∧ (∀ j, j < k → gt xs j = gt ys j) ∧ Fx No w ws) (fun i _ => xs.length - (intOf i).toNat)
    case atStart => exact ⟨0, Nat.zero_le _, rfl, fun j hj => by omega, Fx.refl _ _⟩
    case round =>
      obtain ⟨k, hk, rfl, hq, hf⟩ := hrel
      have HQ := Lib.hid hq
      have HF := Lib.hid hf
      clear hq hf
      by_cases hlt : k < xs.length
      · obtain ⟨b1, o1, rfl, _, c1, c2, c3⟩ := HC.out k hlt
        obtain ⟨b2, o2, rfl, _, e1, e2, e3⟩ := HC'.out k (by rw [← HL.out]; exact hlt)
        have c1 := HF.out.cell' c1 (fun h => h)
        have c2 := HF.out.cell' c2 (fun h => h)
        have c3 := HF.out.cell' c3 (fun h => h)
        have e1 := HF.out.cell' e1 (fun h => h)
        have e2 := HF.out.cell' e2 (fun h => h)
        have e3 := HF.out.cell' e3 (fun h => h)
        obtain ⟨x, hx⟩ : ∃ x, x = gt xs k := ⟨_, rfl⟩
        obtain ⟨y, hy⟩ : ∃ x, x = gt ys k := ⟨_, rfl⟩
        rw [← hx] at c1 c2 c3
        rw [← hy] at e1 e2 e3
        have HXY : Hid (x = gt xs k ∧ y = gt ys k) := Lib.hid ⟨hx, hy⟩
        have hq := run_eq13 x y
        have hlt0 : (0 : Int) ≤ (k : Int) := by omega
        have hlt1 : (k : Int) < (xs.length : Int) := by omega
        have hlt2 : (k : Int) < (ys.length : Int) := by rw [← HL.out]; omega
        clear hx hy
        by_cases he : x = y
        · rw [decide_eq_true he] at hq
          have HE := Lib.hid he
          clear he
          go_wp2
          go_quiet (fail)
          go_wp2
          go_roundw
          case rel => exact ⟨k + 1, by omega, by go_num, fun j hj => by
            by_cases e : j = k
            · subst e; rw [← HXY.out.1, ← HXY.out.2]; exact HE.out
            · exact HQ.out j (by omega), HF.out.drewN _⟩
          case measure => simp [intOf]; omega
        · rw [decide_eq_false he] at hq
          have HB : Hid (decide (xs = ys) = false) := Lib.hid (decide_eq_false fun h => he (by rw [HXY.out.1, HXY.out.2, h]))
          clear he
          go_wp2
          go_quiet (fail)
          go_wp2
          go_ret
          exact ⟨by rw [HB.out]; rfl, HF.out.drewN _⟩
      · have HB : Hid (decide (xs = ys) = true) := Lib.hid (decide_eq_true (gt_ext HL.out fun j hj => HQ.out j (by omega)))
        obtain rfl : k = xs.length := by omega
        go_wp2
        go_ret
        exact ⟨by rw [HB.out]; rfl, HF.out⟩
  · have hn : ((xs.length : Int) != (ys.length : Int)) = true := by simpa using fun h => hl (by omega)
    have HB : Hid (decide (xs = ys) = false) := Lib.hid (decide_eq_false fun h => hl (by rw [h]))
    clear hl
    go_enter Try.func42, Try.ntmps42
    go_wp2
    go_ret
    exact ⟨by rw [HB.out]; rfl, Fx.refl _ _⟩
theorem refSame_any (h : EdsV w D v xs) (h' : EdsV w E u ys) (N M : Int) : Calls Try.prog 13 #[.agg #[.int .i64 N, v], .agg #[.int .i64 M, u]] w fun e w' => e = .returned (.bool (decide (N = M ∧ xs = ys))) ∧ Fx No w w' := by
  have H := Lib.hid h
  have H' := Lib.hid h'
  obtain ⟨ao, cap, rfl, _⟩ := h.facts
  obtain ⟨bo, bcap, rfl, _⟩ := h'.facts
  clear h h'
  by_cases hn : N = M
  · subst hn
    have d1 : (N == N) = true := by simp
    have HR : Hid (decide (N = N ∧ xs = ys) = decide (xs = ys)) := Lib.hid (by simp)
    obtain ⟨t, ht⟩ : ∃ t, t = decide (xs = ys) := ⟨_, rfl⟩
    have CS : Hid (∀ W, Fx No w W → Calls Try.prog 42 #[.slice ao xs.length cap, .slice bo ys.length bcap] W fun e w' => e = .returned (.bool t) ∧ Fx No W w') := Lib.hid fun W hf => by rw [ht]; exact sameEdges_any (H.out.no hf) (H'.out.no hf)
    rw [HR.out, ← ht]
    clear ht
    go_enter Try.func13, Try.ntmps13
    go_wp2_with fail
    refine (CS.out _ (((Fx.refl No w).alloc _).alloc _)).mono ?_
    rintro e w1 ⟨rfl, hf⟩
    have HF : Hid (Fx No w w1) := Lib.hid ((((Fx.refl No w).alloc _).alloc _).trans hf)
    clear hf CS
    go_wp2
    go_ret
    exact ⟨rfl, HF.out⟩
  · have d1 : (N == M) = false := by simpa using hn
    have HR : Hid (decide (N = M ∧ xs = ys) = false) := Lib.hid (by simp [hn])
    rw [HR.out]
    go_enter Try.func13, Try.ntmps13
    go_wp2
    go_ret
    exact ⟨rfl, ((Fx.refl No w).alloc _).alloc _⟩
end
#print axioms refCmp_any
#print axioms refHas_any
#print axioms sameEdges_any
#print axioms refSame_any
end Go.Proofs.Ytcfajeldkioomaa
