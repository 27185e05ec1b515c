/- The reference of closures: Node, Has, less, Add. -/
import Derived.Test.YtfpggeiphbekoaaDoorCloMathB
namespace Go.Proofs.YtfpggeiphbekoaaDoor
open Go.RowKit
set_option linter.unusedVariables false

section
variable {w w' : World} {D S : Nat → Prop} {L : List (Int × Int)} {v : Value}
theorem refNode_any (h : PairsV w D v L) (N x : Int) : Calls Tryd.prog 10 #[.agg #[.int .i64 N, v], .int .i64 x] w fun e w' => e = .returned (.bool (decide (0 ≤ x ∧ x < N))) ∧ Fx No w w' := by
  obtain ⟨ao, cap, rfl, _⟩ := h.facts
  clear h
  by_cases h0 : 0 ≤ x
  · have d0 : decide (0 ≤ x) = true := decide_eq_true h0
    have HR : Hid (decide (0 ≤ x ∧ x < N) = decide (x < N)) := Lib.hid (by simp [h0])
    clear h0
    go_enter Tryd.func10, Tryd.ntmps10
    go_wp2
    go_ret
    exact ⟨by rw [HR.out]; rfl, (Fx.refl No w).alloc _⟩
  · have d0 : decide (0 ≤ x) = false := decide_eq_false h0
    have HR : Hid (decide (0 ≤ x ∧ x < N) = false) := Lib.hid (by simp [h0])
    clear h0
    go_enter Tryd.func10, Tryd.ntmps10
    go_wp2
    go_ret
    exact ⟨by rw [HR.out]; rfl, (Fx.refl No w).alloc _⟩
theorem refLess_any (x y z u : Int) (w : World) : Calls Tryd.prog 38 #[.agg #[.int .i64 x, .int .i64 y], .agg #[.int .i64 z, .int .i64 u]] w fun e w' => e = .returned (.bool (lessP (x, y) (z, u))) ∧ Fx No w w' := by
  have HF : Hid (∀ a b, Fx No w ((w.alloc a).alloc b)) := Lib.hid fun a b => ((Fx.refl No w).alloc a).alloc b
  by_cases h0 : x < z
  · have d0 : decide (x < z) = true := decide_eq_true h0
    have HR : Hid (lessP (x, y) (z, u) = true) := Lib.hid (lessP_iff.2 (.inl h0))
    clear h0
    go_enter Tryd.func38, Tryd.ntmps38
    go_wp2
    go_ret
    exact ⟨by rw [HR.out]; rfl, HF.out _ _⟩
  · have d0 : decide (x < z) = false := decide_eq_false h0
    by_cases h1 : x = z
    · subst h1
      have HR : Hid (lessP (x, y) (x, u) = decide (y < u)) := Lib.hid (by simp [lessP])
      clear h0
      go_enter Tryd.func38, Tryd.ntmps38
      go_wp2
      go_ret
      exact ⟨by rw [HR.out]; rfl, HF.out _ _⟩
    · have d1 : (x == z) = false := by simpa using h1
      have HR : Hid (lessP (x, y) (z, u) = false) := Lib.hid (by simp [lessP, h1, h0])
      clear h0 h1
      go_enter Tryd.func38, Tryd.ntmps38
      go_wp2
      go_ret
      exact ⟨by rw [HR.out]; rfl, HF.out _ _⟩
set_option maxHeartbeats 1000000 in
theorem refHas_any (h : PairsV w D v L) (N x y : Int) : Calls Tryd.prog 37 #[.agg #[.int .i64 N, v], .agg #[.int .i64 x, .int .i64 y]] w fun e w' => e = .returned (.bool (decide ((x, y) ∈ L))) ∧ Fx No w w' := by
  obtain ⟨ao, cap, rfl, _, _, hc⟩ := h.facts
  have HC := Lib.hid hc
  clear h hc
  go_enter Tryd.func37, Tryd.ntmps37
  go_wp2_with fail
  refine wp_hold (fun W => Fx No w W ∧ W.cell? ⟨w.heap.size, 1, none⟩ = some (.slice ao L.length cap) ∧ W.cell? ⟨w.heap.size + 1, 0, none⟩ = some (.int .i64 x) ∧ W.cell? ⟨w.heap.size + 1, 1, none⟩ = some (.int .i64 y)) ⟨((Fx.refl No w).alloc _).alloc _, by simp, by simp, by simp⟩ ?_
  rintro w1 ⟨hf, k1, k2, k3⟩
  obtain ⟨eb, heb⟩ : ∃ e, e = w.heap.size := ⟨_, rfl⟩
  rw [← heb] at k1 k2 k3 ⊢
  have HF := Lib.hid hf
  have HK1 := Lib.hid k1
  have HK2 := Lib.hid k2
  have HK3 := Lib.hid k3
  clear hf heb k1 k2 k3
  go_loopw [5] (fun i ws => ∃ q : Nat, i = .int .i64 q ∧ q ≤ L.length ∧ Fx No w1 ws ∧ ∀ i, i < q → gt L i ≠ (x, y)) (fun i _ => L.length - (intOf i).toNat)
  case atStart => exact ⟨0, rfl, Nat.zero_le _, Fx.refl _ _, fun i hi => by omega⟩
  case round =>
    obtain ⟨q, rfl, hq, hf, hA⟩ := hrel
    have HFq := Lib.hid hf
    have HA := Lib.hid hA
    have k1 := hf.cell' HK1.out (fun h => h)
    have k2 := hf.cell' HK2.out (fun h => h)
    have k3 := hf.cell' HK3.out (fun h => h)
    clear hf hA
    by_cases hql : q < L.length
    · obtain ⟨b, o, rfl, _, c1, c2⟩ := HC.out q hql
      have c1 := HFq.out.cell' (HF.out.cell' c1 (fun h => h)) (fun h => h)
      have c2 := HFq.out.cell' (HF.out.cell' c2 (fun h => h)) (fun h => h)
      obtain ⟨z, hz⟩ : ∃ z, z = (gt L q).1 := ⟨_, rfl⟩
      obtain ⟨u, hu⟩ : ∃ z, z = (gt L q).2 := ⟨_, rfl⟩
      rw [← hz] at c1
      rw [← hu] at c2
      have HG : Hid (gt L q = (z, u)) := Lib.hid (Prod.ext hz.symm hu.symm)
      have HM := Lib.hid (gt_mem hql)
      clear hz hu
      have hx : ∀ W, (Op.equalIn 10000 36 (.agg #[.int .i64 z, .int .i64 u]) (.agg #[.int .i64 x, .int .i64 y])).run Tryd.prog W = .ok (z == x && u == y) W := fun W => run_eqe z u x y W
      obtain ⟨t, ht⟩ : ∃ t, t = (z == x && u == y) := ⟨_, rfl⟩
      rw [← ht] at hx
      have HTt := Lib.hid ht
      have hql2 : (q : Int) < (L.length : Int) := by omega
      clear ht
      go_wp2_with fail
      go_quiet (fail)
      all_goals
        have HF2 := Lib.hid (HFq.out.drewN nq)
        generalize wr.drewN nq = wr at *
        clear hx k1 k2 k3 c1 c2
        cases t
        · go_wp2
          go_roundw
          case rel => exact ⟨q + 1, by go_num, by omega, HF2.out, fun i hi => by
            by_cases e : i = q
            · subst e
              rw [HG.out]
              intro e
              simp only [Prod.mk.injEq] at e
              have := HTt.out
              simp [e.1, e.2] at this
            · exact HA.out i (by omega)⟩
          case measure => simp [intOf]; omega
        · have HR : Hid (decide ((x, y) ∈ L) = true) := Lib.hid (by
            have h1 := HTt.out
            have h2 : z = x ∧ u = y := by simpa using h1.symm
            rw [decide_eq_true_eq, ← h2.1, ← h2.2, ← HG.out]
            exact HM.out)
          go_wp2
          go_ret
          exact ⟨by rw [HR.out]; rfl, HF.out.trans HF2.out⟩
    · obtain rfl : q = L.length := by omega
      have HR : Hid (decide ((x, y) ∈ L) = false) := Lib.hid (by
        rw [decide_eq_false_iff_not]
        intro hm
        obtain ⟨i, hi, e⟩ := List.getElem_of_mem hm
        exact HA.out i hi (by rw [← e]; simp [gt, hi]))
      go_wp2
      go_ret
      exact ⟨by rw [HR.out]; rfl, HF.out.trans HFq.out⟩
end
#print axioms refHas_any
#print axioms refLess_any
#print axioms refNode_any
end Go.Proofs.YtfpggeiphbekoaaDoor
