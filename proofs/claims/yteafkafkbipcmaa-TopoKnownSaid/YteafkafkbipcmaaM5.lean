/- alibikit.SameInts. | The law of chapter 13: works. | graph: a graph that is not there; the law GraphNone. | The reference of graphs: Cmp, Has, SameEdges, Same, New. | The reference of graphs: edges and graphs as it has them; New. | The reference of graphs: with. (Written by mkrgc2.py out of chapter 17's texts.) | The reference of graphs: Remove. (Written by mkrgd.py out of chapter 17's Without.) | The reference of graphs: Add. | The reference of graphs: Some, Next. -/
import Derived.Test.YteafkafkbipcmaaM4

namespace Go.Proofs.Yteafkafkbipcmaa
open Go.RowKit
set_option linter.unusedVariables false

theorem IntsV.mono {w : World} {D T : Nat → Prop} {v : Value} {l : List Int} (h : IntsV w D v l) (hd : ∀ k, D k → T k) : IntsV w T v l := SlV.mono h hd
theorem IntsV.no {w w1 : World} {D : Nat → Prop} {v : Value} {l : List Int} (h : IntsV w D v l) (hf : Fx No w w1) : IntsV w1 D v l := h.keep hf No.disj
theorem gi_ext {a b : List Int} (h : a.length = b.length) (hg : ∀ k, k < a.length → gi a k = gi b k) : a = b := by
  apply List.ext_getElem h
  intro k h1 h2
  have := hg k h1
  simpa [gi, h1, h2] using this
theorem sameInts_any {w : World} {D E : Nat → Prop} {v u : Value} {a b : List Int} (h : IntsV w D v a) (h' : IntsV w E u b) :
    Calls Try.prog 21 #[v, u] w fun e w' => e = .returned (.bool (a == b)) ∧ Fx No w w' := by
  obtain ⟨ao, cap, rfl, hal, hc⟩ := h.facts
  obtain ⟨bo, bcap, rfl, hbl, hc'⟩ := h'.facts
  have HC := Lib.hid hc
  have HC' := Lib.hid hc'
  clear h h' hc hc'
  by_cases hl : a.length = b.length
  · have hn : ((a.length : Int) != (b.length : Int)) = false := by rw [hl]; simp
    have HL := Lib.hid hl
    clear hl
    go_enter Try.func21, Try.ntmps21
    go_wp2
    go_loopw [5] (fun i wr => ∃ k : Nat, k ≤ a.length ∧ i = .int .i64 k ∧ (∀ j, j < k → gi a j = gi b j) ∧ Fx No w wr) (fun i _ => a.length - (intOf i).toNat)
    case atStart => exact ⟨0, Nat.zero_le _, rfl, fun j hj => by omega, Fx.refl _ _⟩
    case round =>
      obtain ⟨k, hk, rfl, hq, hf⟩ := hrel
      have HQ := Lib.hid hq
      have HF := Lib.hid hf
      clear hq hf
      by_cases hlt : k < a.length
      · obtain ⟨b1, o1, rfl, _, hcell1⟩ := HC.out k hlt
        obtain ⟨b2, o2, rfl, _, hcell2⟩ := HC'.out k (by rw [← HL.out]; exact hlt)
        have h1 := HF.out.cell' hcell1 (fun h => h)
        have h2 := HF.out.cell' hcell2 (fun h => h)
        have hlt2 : (k : Int) < (b.length : Int) := by rw [← HL.out]; omega
        clear hcell1 hcell2
        by_cases he : gi a k = gi b k
        · have hd : (gi a k != gi b k) = false := by simpa using he
          have HE := Lib.hid he
          clear he
          go_wp2
          go_quiet (fail)
          go_wp2
          go_roundw
          case rel => exact ⟨k + 1, by omega, by go_num, fun j hj => by
            by_cases e : j = k
            · subst e; exact HE.out
            · exact HQ.out j (by omega), HF.out.drewN _⟩
          case measure => simp [intOf]; omega
        · have hd : (gi a k != gi b k) = true := by simpa using he
          have HB : Hid ((a == b) = false) := by
            show (a == b) = false
            rw [beq_eq_false_iff_ne]
            rintro rfl
            exact he rfl
          clear he
          go_wp2
          go_quiet (fail)
          go_wp2
          go_ret
          exact ⟨by rw [HB.out]; rfl, HF.out.drewN _⟩
      · have HB : Hid ((a == b) = true) := by
          show (a == b) = true
          rw [beq_iff_eq]
          exact gi_ext HL.out fun j hj => HQ.out j (by omega)
        go_wp2
        go_ret
        exact ⟨by rw [HB.out]; rfl, HF.out⟩
  · have hn : ((a.length : Int) != (b.length : Int)) = true := by simp; omega
    have HB : Hid ((a == b) = false) := by
      show (a == b) = false
      rw [beq_eq_false_iff_ne]
      rintro rfl
      exact hl rfl
    clear hl
    go_enter Try.func21, Try.ntmps21
    go_wp2
    go_ret
    exact ⟨by rw [HB.out]; rfl, Fx.refl _ _⟩
#print axioms sameInts_any
end Go.Proofs.Yteafkafkbipcmaa

namespace Go.Proofs.Yteafkafkbipcmaa
open Go.RowKit
set_option linter.unusedVariables false

theorem EdsV.lit {w : World} {t : TypeId} (xs : List Ed) (h : xs.length ≤ 1000000) : EdsV (w.alloc (.cells (icells e3 xs).toArray t)) (Iv w.heap.size (w.heap.size + 1)) (.slice (some ⟨w.heap.size, 0, none⟩) xs.length xs.length) xs := RowV.lit e3_len w t xs h
def exL : List Ed := [⟨0, 1, 3⟩, ⟨0, 1, 5⟩, ⟨2, 0, 1⟩]
section
variable {w : World}
end
end Go.Proofs.Yteafkafkbipcmaa

namespace Go.Proofs.Yteafkafkbipcmaa
open Go.RowKit
set_option linter.unusedVariables false

theorem run_equalIn_nil_some {P : Program} (d : Nat) (w : World) {t e : TypeId} (h : P.underlying t = some (.pointer e)) (a : Addr) : (Op.equalIn (d + 1) t (.pointer none) (.pointer (some a))).run P w = .ok false w := by
  simp [Op.equalIn, run_underlying h]
theorem run_eql_nil_some {P : Program} (w : World) {t e : TypeId} (h : P.underlying t = some (.pointer e)) (a : Addr) : (binOp .eql t (.pointer none) (.pointer (some a))).run P w = .ok (.bool false) w := by
  have h1 : (Op.equal t (.pointer none) (.pointer (some a))).run P w = .ok false w := run_equalIn_nil_some 9999 w h a
  simp only [binOp]
  simp [h1]
theorem nilLen_any (w : World) : Calls Try.prog 33 #[.pointer none] w fun e w' => e = .returned (.int .i64 0) ∧ Fx No w w' := by
  go_enter Try.func33, Try.ntmps33
  go_wp2
  go_ret
  exact ⟨rfl, by repeat (first | exact Fx.refl _ _ | apply Fx.alloc | apply Fx.drew | apply Fx.drewN)⟩
theorem nilEdges_any (w : World) : Calls Try.prog 35 #[.pointer none] w fun e w' => e = .returned (.slice none 0 0) ∧ Fx No w w' := by
  go_enter Try.func35, Try.ntmps35
  go_wp2
  go_ret
  exact ⟨rfl, by repeat (first | exact Fx.refl _ _ | apply Fx.alloc | apply Fx.drew | apply Fx.drewN)⟩
theorem nilOut_any (w : World) (m : Int) : Calls Try.prog 49 #[.pointer none, .int .i64 m] w fun e w' => e = .returned (.slice none 0 0) ∧ Fx No w w' := by
  go_enter Try.func49, Try.ntmps49
  go_wp2
  go_ret
  exact ⟨rfl, by repeat (first | exact Fx.refl _ _ | apply Fx.alloc | apply Fx.drew | apply Fx.drewN)⟩
theorem nilIn_any (w : World) (m : Int) : Calls Try.prog 47 #[.pointer none, .int .i64 m] w fun e w' => e = .returned (.slice none 0 0) ∧ Fx No w w' := by
  go_enter Try.func47, Try.ntmps47
  go_wp2
  go_ret
  exact ⟨rfl, by repeat (first | exact Fx.refl _ _ | apply Fx.alloc | apply Fx.drew | apply Fx.drewN)⟩
theorem nilHas_any (w : World) (e : Ed) : Calls Try.prog 43 #[.pointer none, evE e] w fun e w' => e = .returned (.bool false) ∧ Fx No w w' := by
  unfold evE
  go_enter Try.func43, Try.ntmps43
  go_wp2
  go_ret
  exact ⟨rfl, by repeat (first | exact Fx.refl _ _ | apply Fx.alloc | apply Fx.drew | apply Fx.drewN)⟩
theorem nilAdd_any (w : World) (v : Value) : Calls Try.prog 28 #[.pointer none, v] w fun e w' => e = .returned (.tuple #[.int .i64 0, .int .i64 1]) ∧ Fx No w w' := by
  go_enter Try.func28, Try.ntmps28
  go_wp2
  go_ret2
  exact ⟨rfl, by repeat (first | exact Fx.refl _ _ | apply Fx.alloc | apply Fx.drew | apply Fx.drewN)⟩
set_option maxRecDepth 100000 in
theorem nilBetween_any (w : World) (m k : Int) : Calls Try.prog 39 #[.pointer none, .int .i64 m, .int .i64 k] w fun r w' => r = .returned (.slice none 0 0) ∧ Fx No w w' := by
  go_enter Try.func39, Try.ntmps39
  go_wp2_with fail
  refine (nilOut_any w m).mono ?_
  rintro r w1 ⟨rfl, hf⟩
  have HF := Lib.hid hf
  clear hf
  go_wp2
  refine wp_loop_rounds 1 ?_
  rw [rounds_succ]
  go_wp2
  go_ret
  exact ⟨rfl, HF.out⟩
end Go.Proofs.Yteafkafkbipcmaa

namespace Go.Proofs.Yteafkafkbipcmaa
open Go.RowKit
set_option linter.unusedVariables false

theorem list3_beq (a b : Ed) : ([a.f, a.t, a.l] == [b.f, b.t, b.l]) = decide (a = b) := by
  rw [Bool.eq_iff_iff, decide_eq_true_iff, beq_iff_eq]
  constructor
  · intro h
    simp only [List.cons.injEq, and_true] at h
    exact Ed.ext' h.1 h.2.1 h.2.2
  · rintro rfl; rfl
theorem fields13 : (Try.prog.fieldsOf 36).toList.map (fun f => (f.name, f.type, f.offset)) = [("From", 0), ("To", 1), ("Label", 2)].map fun q => (q.1, 3, q.2) := by kernel_rfl
theorem run_eq13 (a b : Ed) (w : World) : (Op.equalIn 10000 36 (.agg #[.int .i64 a.f, .int .i64 a.t, .int .i64 a.l]) (.agg #[.int .i64 b.f, .int .i64 b.t, .int .i64 b.l])).run Try.prog w = .ok (decide (a = b)) w := by
  have h := run_eqStruct (P := Try.prog) 9998 w Try.underlying3 (t := 36) (by kernel_rfl) (by kernel_rfl) fields13 [a.f, a.t, a.l] [b.f, b.t, b.l] rfl rfl (by decide)
  rw [list3_beq] at h
  exact h
theorem run_eqG (a b : Ed) (w : World) : (Op.equalIn 10000 57 (.agg #[.int .i64 a.f, .int .i64 a.t, .int .i64 a.l]) (.agg #[.int .i64 b.f, .int .i64 b.t, .int .i64 b.l])).run Try.prog w = .ok (decide (a = b)) w := by
  have h := run_eqStruct (P := Try.prog) 9998 w Try.underlying3 (t := 57) (by kernel_rfl) (by kernel_rfl) fieldsE [a.f, a.t, a.l] [b.f, b.t, b.l] rfl rfl (by decide)
  rw [list3_beq] at h
  exact h
section
variable {w w' : World} {D S E : Nat → Prop} {L xs ys : List Ed} {v u : Value}
set_option maxRecDepth 100000 in
set_option maxHeartbeats 2000000 in
theorem refCmp_any (a b : Ed) (w : World) : Calls Try.prog 55 #[evE a, evE b] w fun e w' => e = .returned (.int .i64 (cmpE a b)) ∧ Fx No w w' := by
  have HF : Hid (∀ a b, Fx No w ((w.alloc a).alloc b)) := Lib.hid fun a b => ((Fx.refl No w).alloc a).alloc b
  have hq := run_eq13 a b
  unfold evE
  by_cases hab : a = b
  · rw [decide_eq_true hab] at hq
    have HR : Hid (cmpE a b = 0) := Lib.hid (by unfold cmpE; simp [hab])
    rw [HR.out]
    clear HR
    obtain ⟨af, ta, al⟩ := a
    obtain ⟨bf, tb, bl⟩ := b
    simp only at *
    go_enter Try.func55, Try.ntmps55
    go_wp2
    go_ret
    exact ⟨rfl, HF.out _ _⟩
  · rw [decide_eq_false hab] at hq
    have hne : ¬ (a.f = b.f ∧ a.t = b.t ∧ a.l = b.l) := fun ⟨x, y, z⟩ => hab (Ed.ext' x y z)
    by_cases h0 : a.f < b.f
    · have d0 : decide (a.f < b.f) = true := decide_eq_true h0
      have HR : Hid (cmpE a b = -1) := Lib.hid (by unfold cmpE; rw [if_neg hab]; first | rw [if_pos (by unfold Ed.lt; omega)] | rw [if_neg (by unfold Ed.lt; omega)])
      rw [HR.out]
      clear HR
      obtain ⟨af, ta, al⟩ := a
      obtain ⟨bf, tb, bl⟩ := b
      simp only at *
      go_enter Try.func55, Try.ntmps55
      go_wp2
      go_ret
      exact ⟨rfl, HF.out _ _⟩
    · by_cases h1 : a.f = b.f
      · by_cases h2 : a.t < b.t
        · have d0 : decide (a.f < b.f) = false := decide_eq_false h0
          have d1 : (a.f == b.f) = true := by simpa using h1
          have d2 : decide (a.t < b.t) = true := decide_eq_true h2
          have HR : Hid (cmpE a b = -1) := Lib.hid (by unfold cmpE; rw [if_neg hab]; first | rw [if_pos (by unfold Ed.lt; omega)] | rw [if_neg (by unfold Ed.lt; omega)])
          rw [HR.out]
          clear HR
          obtain ⟨af, ta, al⟩ := a
          obtain ⟨bf, tb, bl⟩ := b
          simp only at *
          go_enter Try.func55, Try.ntmps55
          go_wp2
          go_ret
          exact ⟨rfl, HF.out _ _⟩
        · by_cases h3 : a.t = b.t
          · by_cases h4 : a.l < b.l
            · have d0 : decide (a.f < b.f) = false := decide_eq_false h0
              have d1 : (a.f == b.f) = true := by simpa using h1
              have d2 : decide (a.t < b.t) = false := decide_eq_false h2
              have d3 : (a.t == b.t) = true := by simpa using h3
              have d4 : decide (a.l < b.l) = true := decide_eq_true h4
              have HR : Hid (cmpE a b = -1) := Lib.hid (by unfold cmpE; rw [if_neg hab]; first | rw [if_pos (by unfold Ed.lt; omega)] | rw [if_neg (by unfold Ed.lt; omega)])
              rw [HR.out]
              clear HR
              obtain ⟨af, ta, al⟩ := a
              obtain ⟨bf, tb, bl⟩ := b
              simp only at *
              go_enter Try.func55, Try.ntmps55
              go_wp2
              go_ret
              exact ⟨rfl, HF.out _ _⟩
            · have d0 : decide (a.f < b.f) = false := decide_eq_false h0
              have d1 : (a.f == b.f) = true := by simpa using h1
              have d2 : decide (a.t < b.t) = false := decide_eq_false h2
              have d3 : (a.t == b.t) = true := by simpa using h3
              have d4 : decide (a.l < b.l) = false := decide_eq_false h4
              have HR : Hid (cmpE a b = 1) := Lib.hid (by unfold cmpE; rw [if_neg hab]; first | rw [if_pos (by unfold Ed.lt; omega)] | rw [if_neg (by unfold Ed.lt; omega)])
              rw [HR.out]
              clear HR
              obtain ⟨af, ta, al⟩ := a
              obtain ⟨bf, tb, bl⟩ := b
              simp only at *
              go_enter Try.func55, Try.ntmps55
              go_wp2
              go_ret
              exact ⟨rfl, HF.out _ _⟩
          · have d0 : decide (a.f < b.f) = false := decide_eq_false h0
            have d1 : (a.f == b.f) = true := by simpa using h1
            have d2 : decide (a.t < b.t) = false := decide_eq_false h2
            have d3 : (a.t == b.t) = false := by simpa using h3
            have HR : Hid (cmpE a b = 1) := Lib.hid (by unfold cmpE; rw [if_neg hab]; first | rw [if_pos (by unfold Ed.lt; omega)] | rw [if_neg (by unfold Ed.lt; omega)])
            rw [HR.out]
            clear HR
            obtain ⟨af, ta, al⟩ := a
            obtain ⟨bf, tb, bl⟩ := b
            simp only at *
            go_enter Try.func55, Try.ntmps55
            go_wp2
            go_ret
            exact ⟨rfl, HF.out _ _⟩
      · have d0 : decide (a.f < b.f) = false := decide_eq_false h0
        have d1 : (a.f == b.f) = false := by simpa using h1
        have HR : Hid (cmpE a b = 1) := Lib.hid (by unfold cmpE; rw [if_neg hab]; first | rw [if_pos (by unfold Ed.lt; omega)] | rw [if_neg (by unfold Ed.lt; omega)])
        rw [HR.out]
        clear HR
        obtain ⟨af, ta, al⟩ := a
        obtain ⟨bf, tb, bl⟩ := b
        simp only at *
        go_enter Try.func55, Try.ntmps55
        go_wp2
        go_ret
        exact ⟨rfl, HF.out _ _⟩
set_option maxRecDepth 100000 in
set_option maxHeartbeats 2000000 in
theorem refHas_any (h : EdsV w D v L) (N : Int) (x : Ed) : Calls Try.prog 45 #[.agg #[.int .i64 N, v], evE x] w fun e w' => e = .returned (.bool (decide (x ∈ L))) ∧ Fx No w w' := by
  obtain ⟨ao, cap, rfl, _, _, hc⟩ := h.facts
  have HC := Lib.hid hc
  unfold evE
  clear h hc
  go_enter Try.func45, Try.ntmps45
  go_wp2_with fail
  refine wp_hold (fun W => Fx No w W ∧ W.cell? ⟨w.heap.size, 1, none⟩ = some (.slice ao L.length cap) ∧ W.cell? ⟨w.heap.size + 1, 0, none⟩ = some (.int .i64 x.f) ∧ W.cell? ⟨w.heap.size + 1, 1, none⟩ = some (.int .i64 x.t) ∧ W.cell? ⟨w.heap.size + 1, 2, none⟩ = some (.int .i64 x.l)) ⟨((Fx.refl No w).alloc _).alloc _, by simp, by simp, by simp, by simp⟩ ?_
  rintro w1 ⟨hf, k1, k2, k3, k4⟩
  obtain ⟨eb, heb⟩ : ∃ e, e = w.heap.size := ⟨_, rfl⟩
  rw [← heb] at k1 k2 k3 k4 ⊢
  have HF := Lib.hid hf
  have HK1 := Lib.hid k1
  have HK2 := Lib.hid k2
  have HK3 := Lib.hid k3
  have HK4 := Lib.hid k4
  clear hf heb k1 k2 k3 k4
  go_loopw [5] (fun i ws => ∃ q : Nat, i = .int .i64 q ∧ q ≤ L.length ∧ Fx No w1 ws ∧ ∀ i, i < q → gt L i ≠ x) (fun i _ => L.length - (intOf i).toNat)
  case atStart => exact ⟨0, rfl, Nat.zero_le _, Fx.refl _ _, fun i hi => by omega⟩
  case round =>
    obtain ⟨q, rfl, hq, hf, hA⟩ := hrel
    have HFq := Lib.hid hf
    have HA := Lib.hid hA
    have k1 := hf.cell' HK1.out (fun h => h)
    have k2 := hf.cell' HK2.out (fun h => h)
    have k3 := hf.cell' HK3.out (fun h => h)
    have k4 := hf.cell' HK4.out (fun h => h)
    clear hf hA
    by_cases hql : q < L.length
    · obtain ⟨b, o, rfl, _, c1, c2, c3⟩ := HC.out q hql
      have c1 := HFq.out.cell' (HF.out.cell' c1 (fun h => h)) (fun h => h)
      have c2 := HFq.out.cell' (HF.out.cell' c2 (fun h => h)) (fun h => h)
      have c3 := HFq.out.cell' (HF.out.cell' c3 (fun h => h)) (fun h => h)
      have HM := Lib.hid (gt_mem hql)
      obtain ⟨z, hz⟩ : ∃ z, z = gt L q := ⟨_, rfl⟩
      rw [← hz] at c1 c2 c3 HM
      have HG := Lib.hid hz
      have hx := run_eq13 z x
      obtain ⟨t, ht⟩ : ∃ t, t = decide (z = x) := ⟨_, rfl⟩
      rw [← ht] at hx
      have HTt := Lib.hid ht
      have hql2 : (q : Int) < (L.length : Int) := by omega
      have hql0 : (0 : Int) ≤ (q : Int) := by omega
      clear ht hz
      go_wp2_with fail
      go_quiet (fail)
      all_goals
        have HF2 := Lib.hid (HFq.out.drewN nq)
        generalize wr.drewN nq = wr at *
        clear hx k1 k2 k3 k4 c1 c2 c3
        cases t
        · go_wp2
          go_roundw
          case rel => exact ⟨q + 1, by go_num, by omega, HF2.out, fun i hi => by
            by_cases e : i = q
            · subst e
              rw [← HG.out]
              exact of_decide_eq_false HTt.out.symm
            · exact HA.out i (by omega)⟩
          case measure => simp [intOf]; omega
        · have HR : Hid (decide (x ∈ L) = true) := Lib.hid (by
            have h2 : z = x := of_decide_eq_true HTt.out.symm
            rw [decide_eq_true_eq, ← h2]
            exact HM.out)
          go_wp2
          go_ret
          exact ⟨by rw [HR.out]; rfl, HF.out.trans HF2.out⟩
    · obtain rfl : q = L.length := by omega
      have HR : Hid (decide (x ∈ L) = false) := Lib.hid (by
        rw [decide_eq_false_iff_not]
        intro hm
        obtain ⟨i, hi, e⟩ := List.getElem_of_mem hm
        exact HA.out i hi (by rw [← e]; simp [gt, hi]))
      go_wp2
      go_ret
      exact ⟨by rw [HR.out]; rfl, HF.out.trans HFq.out⟩
theorem gt_ext {a b : List Ed} (h : a.length = b.length) (hg : ∀ k, k < a.length → gt a k = gt b k) : a = b := by
  apply List.ext_getElem h
  intro k h1 h2
  have := hg k h1
  simpa [gt, h1, h2] using this
set_option maxRecDepth 100000 in
set_option maxHeartbeats 2000000 in
theorem sameEdges_any (h : EdsV w D v xs) (h' : EdsV w E u ys) : Calls Try.prog 34 #[v, u] w fun e w' => e = .returned (.bool (decide (xs = ys))) ∧ Fx No w w' := by
  obtain ⟨ao, cap, rfl, hal, _, hc⟩ := h.facts
  obtain ⟨bo, bcap, rfl, hbl, _, hc'⟩ := h'.facts
  have HC := Lib.hid hc
  have HC' := Lib.hid hc'
  clear h h' hc hc'
  by_cases hl : xs.length = ys.length
  · have hn : ((xs.length : Int) != (ys.length : Int)) = false := by rw [hl]; simp
    have HL := Lib.hid hl
    clear hl
    go_enter Try.func34, Try.ntmps34
    go_wp2
    go_loopw [5] (fun i ws => ∃ k : Nat, k ≤ xs.length ∧ i = .int .i64 k ∧ (∀ j, j < k → gt xs j = gt ys j) ∧ Fx No w ws) (fun i _ => xs.length - (intOf i).toNat)
    case atStart => exact ⟨0, Nat.zero_le _, rfl, fun j hj => by omega, Fx.refl _ _⟩
    case round =>
      obtain ⟨k, hk, rfl, hq, hf⟩ := hrel
      have HQ := Lib.hid hq
      have HF := Lib.hid hf
      clear hq hf
      by_cases hlt : k < xs.length
      · obtain ⟨b1, o1, rfl, _, c1, c2, c3⟩ := HC.out k hlt
        obtain ⟨b2, o2, rfl, _, e1, e2, e3⟩ := HC'.out k (by rw [← HL.out]; exact hlt)
        have c1 := HF.out.cell' c1 (fun h => h)
        have c2 := HF.out.cell' c2 (fun h => h)
        have c3 := HF.out.cell' c3 (fun h => h)
        have e1 := HF.out.cell' e1 (fun h => h)
        have e2 := HF.out.cell' e2 (fun h => h)
        have e3 := HF.out.cell' e3 (fun h => h)
        obtain ⟨x, hx⟩ : ∃ x, x = gt xs k := ⟨_, rfl⟩
        obtain ⟨y, hy⟩ : ∃ x, x = gt ys k := ⟨_, rfl⟩
        rw [← hx] at c1 c2 c3
        rw [← hy] at e1 e2 e3
        have HXY : Hid (x = gt xs k ∧ y = gt ys k) := Lib.hid ⟨hx, hy⟩
        have hq := run_eq13 x y
        have hlt0 : (0 : Int) ≤ (k : Int) := by omega
        have hlt1 : (k : Int) < (xs.length : Int) := by omega
        have hlt2 : (k : Int) < (ys.length : Int) := by rw [← HL.out]; omega
        clear hx hy
        by_cases he : x = y
        · rw [decide_eq_true he] at hq
          have HE := Lib.hid he
          clear he
          go_wp2
          go_quiet (fail)
          go_wp2
          go_roundw
          case rel => exact ⟨k + 1, by omega, by go_num, fun j hj => by
            by_cases e : j = k
            · subst e; rw [← HXY.out.1, ← HXY.out.2]; exact HE.out
            · exact HQ.out j (by omega), HF.out.drewN _⟩
          case measure => simp [intOf]; omega
        · rw [decide_eq_false he] at hq
          have HB : Hid (decide (xs = ys) = false) := Lib.hid (decide_eq_false fun h => he (by rw [HXY.out.1, HXY.out.2, h]))
          clear he
          go_wp2
          go_quiet (fail)
          go_wp2
          go_ret
          exact ⟨by rw [HB.out]; rfl, HF.out.drewN _⟩
      · have HB : Hid (decide (xs = ys) = true) := Lib.hid (decide_eq_true (gt_ext HL.out fun j hj => HQ.out j (by omega)))
        obtain rfl : k = xs.length := by omega
        go_wp2
        go_ret
        exact ⟨by rw [HB.out]; rfl, HF.out⟩
  · have hn : ((xs.length : Int) != (ys.length : Int)) = true := by simpa using fun h => hl (by omega)
    have HB : Hid (decide (xs = ys) = false) := Lib.hid (decide_eq_false fun h => hl (by rw [h]))
    clear hl
    go_enter Try.func34, Try.ntmps34
    go_wp2
    go_ret
    exact ⟨by rw [HB.out]; rfl, Fx.refl _ _⟩
theorem refSame_any (h : EdsV w D v xs) (h' : EdsV w E u ys) (N M : Int) : Calls Try.prog 17 #[.agg #[.int .i64 N, v], .agg #[.int .i64 M, u]] w fun e w' => e = .returned (.bool (decide (N = M ∧ xs = ys))) ∧ Fx No w w' := by
  have H := Lib.hid h
  have H' := Lib.hid h'
  obtain ⟨ao, cap, rfl, _⟩ := h.facts
  obtain ⟨bo, bcap, rfl, _⟩ := h'.facts
  clear h h'
  by_cases hn : N = M
  · subst hn
    have d1 : (N == N) = true := by simp
    have HR : Hid (decide (N = N ∧ xs = ys) = decide (xs = ys)) := Lib.hid (by simp)
    obtain ⟨t, ht⟩ : ∃ t, t = decide (xs = ys) := ⟨_, rfl⟩
    have CS : Hid (∀ W, Fx No w W → Calls Try.prog 34 #[.slice ao xs.length cap, .slice bo ys.length bcap] W fun e w' => e = .returned (.bool t) ∧ Fx No W w') := Lib.hid fun W hf => by rw [ht]; exact sameEdges_any (H.out.no hf) (H'.out.no hf)
    rw [HR.out, ← ht]
    clear ht
    go_enter Try.func17, Try.ntmps17
    go_wp2_with fail
    refine (CS.out _ (((Fx.refl No w).alloc _).alloc _)).mono ?_
    rintro e w1 ⟨rfl, hf⟩
    have HF : Hid (Fx No w w1) := Lib.hid ((((Fx.refl No w).alloc _).alloc _).trans hf)
    clear hf CS
    go_wp2
    go_ret
    exact ⟨rfl, HF.out⟩
  · have d1 : (N == M) = false := by simpa using hn
    have HR : Hid (decide (N = M ∧ xs = ys) = false) := Lib.hid (by simp [hn])
    rw [HR.out]
    go_enter Try.func17, Try.ntmps17
    go_wp2
    go_ret
    exact ⟨rfl, ((Fx.refl No w).alloc _).alloc _⟩
end
#print axioms refCmp_any
#print axioms refHas_any
#print axioms sameEdges_any
#print axioms refSame_any
end Go.Proofs.Yteafkafkbipcmaa

namespace Go.Proofs.Yteafkafkbipcmaa
open Go.RowKit
set_option linter.unusedVariables false

theorem info_edge13 : (Try.prog.info? 36).map (fun i => (i.zero, i.size, i.bytes)) = some (some (.agg #[.int .i64 0, .int .i64 0, .int .i64 0]), 3, 24) := by kernel_rfl
/-- a row of the reference's edges -/
abbrev OwnR (w : World) (base : Nat) (v : Value) (xs : List Ed) : Prop := OwnT 36 e3 3 w base v xs
theorem calls_hold {P : Program} {f : FuncId} {args : Array Value} {W : World} {Q : Ending → World → Prop} (R : World → Prop) (hR : R W) (h : ∀ W', R W' → Calls P f args W' Q) : Calls P f args W Q := h W hR
theorem put_two (W : World) {qb : Nat} {a b : Value} (x y : Value) (q0 : W.cell? ⟨qb, 0, none⟩ = some a) (q1 : W.cell? ⟨qb, 1, none⟩ = some b) :
    ((W.setCell ⟨qb, 0, none⟩ x).setCell ⟨qb, 1, none⟩ y).cell? ⟨qb, 0, none⟩ = some x ∧ ((W.setCell ⟨qb, 0, none⟩ x).setCell ⟨qb, 1, none⟩ y).cell? ⟨qb, 1, none⟩ = some y ∧
    Fx (fun j => j = qb) W ((W.setCell ⟨qb, 0, none⟩ x).setCell ⟨qb, 1, none⟩ y) ∧ ((W.setCell ⟨qb, 0, none⟩ x).setCell ⟨qb, 1, none⟩ y).heap.size = W.heap.size := by
  refine ⟨?_, ?_, (Fx.put _ _ _ _).trans (Fx.put _ _ _ _), by simp [World.setCell]⟩
  · rw [World.cell?_setCell_other _ _ _ _ (by intro e; injection e; omega)]; exact World.cell?_setCell_same _ _ _ q0
  · exact World.cell?_setCell_same _ _ _ (by rw [World.cell?_setCell_other _ _ _ _ (by intro e; injection e; omega)]; exact q1)
section
variable {w w' : World} {D S E : Nat → Prop} {b n : Nat} {L xs ys : List Ed} {v u : Value}
set_option maxRecDepth 100000 in
set_option maxHeartbeats 2000000 in
theorem docEdges_any (h : EdsV w D v xs) (hl : xs.length ≤ 1000000) : Calls Try.prog 30 #[v] w fun e w' => ∃ v', e = .returned v' ∧ Fx No w w' ∧ OwnR w' w.heap.size v' xs := by
  obtain ⟨ii, hi, hz, hs, hb⟩ := info_parts info_edge13
  obtain ⟨ao, cap, rfl, hcl, hcm, hc⟩ := h.facts
  have HC := Lib.hid hc
  clear h hc
  go_enter Try.func30, Try.ntmps30
  go_wp2
  go_loopw [3, 4] (fun l i ws => ∃ k : Nat, i = .int .i64 k ∧ k ≤ xs.length ∧ Fx No w ws ∧ OwnR ws w.heap.size l (xs.take k)) (fun _ i _ => xs.length - (intOf i).toNat)
  case atStart => exact ⟨0, rfl, Nat.zero_le _, Fx.refl _ _, OwnT.nil _ _⟩
  case round =>
    obtain ⟨k, rfl, hk, hf, ho⟩ := hrel
    have HF := Lib.hid hf
    have HO := Lib.hid ho
    have hzr := hf.size
    clear hf ho
    by_cases hlt : k < xs.length
    · obtain ⟨bb, oo, rfl, _, c1, c2, c3⟩ := HC.out k hlt
      have HTk := Lib.hid (take_gt hlt)
      obtain ⟨x, hx⟩ : ∃ x, x = gt xs k := ⟨_, rfl⟩
      rw [← hx] at c1 c2 c3 HTk
      obtain ⟨f1, f2, f3⟩ := x
      simp only at c1 c2 c3
      have c1 := HF.out.cell' c1 (fun h => h)
      have c2 := HF.out.cell' c2 (fun h => h)
      have c3 := HF.out.cell' c3 (fun h => h)
      have hk0 : (0 : Int) ≤ (k : Int) := by omega
      have hk1 : (k : Int) < (xs.length : Int) := by omega
      obtain ⟨ys, hys⟩ : ∃ ys, ys = xs.take k := ⟨_, rfl⟩
      have hyl : ys.length = k := by rw [hys, List.length_take]; omega
      have HTy : Hid (xs.take (k + 1) = ys ++ [⟨f1, f2, f3⟩]) := Lib.hid (by rw [hys]; exact HTk.out)
      rw [← hys] at HO
      have HOw : Hid (∀ W, Fx No wr W → W.ownsRow w.heap.size 36 3 u3 ys.length (icells e3 ys)) := Lib.hid fun W h => OwnT.no HO.out h
      clear hx hys HTk
      go_wp2
      go_region_law (refine step_append_kept rfl (.tmp 11) (.tmp 28) 25 rfl w.heap.size 36 Try.underlying25 hi hz hs hb rfl (by decide) u3 ys.length (icells e3 ys) (by simp [Act.eval]) (HOw.out _ (by repeat (first | exact Fx.refl _ _ | apply Fx.drew | apply Fx.drewN | apply Fx.alloc))) (fun _ => True) (.slice (some ⟨wr.heap.size, 0, none⟩) 1 1) 1 (ints [f1, f2, f3]) (by simp [Act.eval]) (by first | exact SlV.lit wr 36 #[.int .i64 f1, .int .i64 f2, .int .i64 f3] 3 1 rfl (by unfold maxLen; omega) | exact SlV.keep (SlV.lit wr 36 #[.int .i64 f1, .int .i64 f2, .int .i64 f3] 3 1 rfl (by unfold maxLen; omega)) ((Fx.refl No _).drewN _) No.disj | exact SlV.keep (SlV.lit wr 36 #[.int .i64 f1, .int .i64 f2, .int .i64 f3] 3 1 rfl (by unfold maxLen; omega)) ((Fx.refl No _).drew) No.disj) (ints_one _) (by omega) (by unfold maxLen; omega) (by omega) (by simp; omega) ?_; intro v' w2 ho hfx hk9 hb2)
      all_goals
        have HO2 : Hid (OwnR w2 w.heap.size v' (xs.take (k + 1))) := Lib.hid (by rw [HTy.out]; exact OwnT.snoc ho)
        have HF2 : Hid (Fx No w w2) := Lib.hid (((HF.out.alloc _)).trans' ((by repeat (first | exact Fx.refl _ _ | apply Fx.drew | apply Fx.drewN) : Fx No (wr.alloc _) _).no.trans hfx) fun j h1 h2 => by have := (OwnT.lt HO.out h1).1; omega)
        clear ho hfx hk9 hb2 c1 c2 c3
        go_wp2
        go_roundw
        case rel => exact ⟨k + 1, by go_num, by omega, HF2.out, HO2.out⟩
        case measure => simp [intOf]; omega
    · obtain rfl : k = xs.length := by omega
      go_wp2
      go_ret
      refine ⟨_, rfl, HF.out, ?_⟩
      have h1 := HO.out
      rw [List.take_length] at h1
      exact h1
/-- a graph as the reference has it -/
theorem info_r13 : (Try.prog.info? 27).map (fun i => (i.zero, i.size)) = some (some (.agg #[.int .i64 0, .slice none 0 0]), 2) := by kernel_rfl
set_option maxRecDepth 100000 in
set_option maxHeartbeats 2000000 in
theorem docGraph_any (h : GraphV w D b n L) : Calls Try.prog 18 #[.pointer (some ⟨b, 0, none⟩)] w fun e w' => ∃ v', e = .returned (.agg #[.int .i64 (n : Nat), v']) ∧ Fx No w w' ∧ OwnR w' w.heap.size v' L := by
  have H := Lib.hid h
  have hsm := h.small
  clear h
  go_enter Try.func18, Try.ntmps18
  go_wp2_with fail
  obtain ⟨cb, hcb⟩ : ∃ r, r = w.heap.size := ⟨_, rfl⟩
  rw [← hcb]
  refine calls_hold (fun W => Fx No w W ∧ cb < W.heap.size ∧ W.cell? ⟨cb, 0, none⟩ = some (.int .i64 0) ∧ W.cell? ⟨cb, 1, none⟩ = some (.slice none 0 0) ∧ W.frozen? ⟨cb, 0, none⟩ = false ∧ W.frozen? ⟨cb, 1, none⟩ = false) ⟨(Fx.refl No w).alloc _, by rw [hcb, World.size_alloc]; exact Nat.lt_succ_self _, by rw [hcb]; simp, by rw [hcb]; simp, by rw [hcb]; simp, by rw [hcb]; simp⟩ ?_
  rintro w1 ⟨hf, k0, k1, k2, k3, k4⟩
  have HF := Lib.hid hf
  have HK := Lib.hid k0
  have HK1 := Lib.hid k1
  have HK2 := Lib.hid k2
  have HK3 := Lib.hid k3
  have HK4 := Lib.hid k4
  clear hf k0 k1 k2 k3 k4
  refine (gLen_any (H.out.no HF.out)).mono ?_
  rintro e w2 ⟨rfl, rfl⟩
  go_wp2_with fail
  refine (gEdges_any (H.out.no HF.out)).mono ?_
  rintro e w2 ⟨v1, rfl, hf1, ho1⟩
  have HF1 := Lib.hid hf1
  have HO1 := Lib.hid ho1
  clear hf1 ho1
  go_wp2_with fail
  refine (docEdges_any HO1.out.row hsm).mono ?_
  rintro e w3 ⟨v2, rfl, hf2, ho2⟩
  have HF2 : Hid (Fx No w1 w3) := Lib.hid (HF1.out.trans hf2)
  have HO2 : Hid (OwnR w3 w2.heap.size v2 L) := Lib.hid ho2
  have hz := HF1.out.size
  clear hf2 ho2
  obtain ⟨ao, cap, rfl, _⟩ := EdsV.facts HO2.out.row
  subst hcb
  obtain ⟨q0, f0⟩ := HF2.out.cellF HK1.out HK3.out (fun h => h)
  obtain ⟨q1, f1⟩ := HF2.out.cellF HK2.out HK4.out (fun h => h)
  obtain ⟨g1, g2, g3, g4⟩ := put_two w3 (qb := w.heap.size) (.int .i64 (n : Nat)) (.slice ao L.length cap) q0 q1
  have HG1 := Lib.hid g1
  have HG2 := Lib.hid g2
  have HG3 := Lib.hid g3
  have HG4 := Lib.hid g4
  clear g1 g2 g3 g4
  go_wp2
  refine bodyPost_ret (v := .agg #[.int .i64 (n : Nat), .slice ao L.length cap]) (by have g1 := HG1.out; have g2 := HG2.out; simp [results, Try.results18, go_sem, g1, g2]) rfl ⟨_, rfl, ?_, ?_⟩
  · exact ((HF.out.trans HF2.out).setCell (.inl (Nat.le_refl _)) _).setCell (.inl (Nat.le_refl _)) _
  · exact (HO2.out.base (by have := HF.out.size; omega)).fx HG3.out fun x hx e => by have h1 := (HO2.out.lt hx).1; have := HK.out; have e : x = w.heap.size := e; omega
set_option maxRecDepth 100000 in
set_option maxHeartbeats 2000000 in
theorem docNil_any (w : World) : Calls Try.prog 18 #[.pointer none] w fun e w' => ∃ v', e = .returned (.agg #[.int .i64 0, v']) ∧ Fx No w w' ∧ OwnR w' w.heap.size v' [] := by
  go_enter Try.func18, Try.ntmps18
  go_wp2_with fail
  obtain ⟨cb, hcb⟩ : ∃ r, r = w.heap.size := ⟨_, rfl⟩
  rw [← hcb]
  refine calls_hold (fun W => Fx No w W ∧ cb < W.heap.size ∧ W.cell? ⟨cb, 0, none⟩ = some (.int .i64 0) ∧ W.cell? ⟨cb, 1, none⟩ = some (.slice none 0 0) ∧ W.frozen? ⟨cb, 0, none⟩ = false ∧ W.frozen? ⟨cb, 1, none⟩ = false) ⟨(Fx.refl No w).alloc _, by rw [hcb, World.size_alloc]; exact Nat.lt_succ_self _, by rw [hcb]; simp, by rw [hcb]; simp, by rw [hcb]; simp, by rw [hcb]; simp⟩ ?_
  rintro w1 ⟨hf, k0, k1, k2, k3, k4⟩
  have HF := Lib.hid hf
  have HK := Lib.hid k0
  have HK1 := Lib.hid k1
  have HK2 := Lib.hid k2
  have HK3 := Lib.hid k3
  have HK4 := Lib.hid k4
  clear hf k0 k1 k2 k3 k4
  refine (nilLen_any w1).mono ?_
  rintro e w2 ⟨rfl, hf0⟩
  have HF0 := Lib.hid hf0
  clear hf0
  go_wp2_with fail
  refine (nilEdges_any w2).mono ?_
  rintro e w4 ⟨rfl, hf1⟩
  have HF1 : Hid (Fx No w1 w4) := Lib.hid (HF0.out.trans hf1)
  clear hf1
  go_wp2_with fail
  refine (docEdges_any (RowV.nil w4 No) (by decide)).mono ?_
  rintro e w3 ⟨v2, rfl, hf2, ho2⟩
  have HF2 : Hid (Fx No w1 w3) := Lib.hid (HF1.out.trans hf2)
  have HO2 : Hid (OwnR w3 w4.heap.size v2 []) := Lib.hid ho2
  have hz := HF1.out.size
  clear hf2 ho2
  obtain ⟨ao, cap, rfl, _⟩ := EdsV.facts HO2.out.row
  subst hcb
  obtain ⟨q0, f0⟩ := HF2.out.cellF HK1.out HK3.out (fun h => h)
  obtain ⟨q1, f1⟩ := HF2.out.cellF HK2.out HK4.out (fun h => h)
  obtain ⟨g1, g2, g3, g4⟩ := put_two w3 (qb := w.heap.size) (.int .i64 0) (.slice ao 0 cap) q0 q1
  have HG1 := Lib.hid g1
  have HG2 := Lib.hid g2
  have HG3 := Lib.hid g3
  have HG4 := Lib.hid g4
  clear g1 g2 g3 g4
  go_wp2
  refine bodyPost_ret (v := .agg #[.int .i64 0, .slice ao 0 cap]) (by have g1 := HG1.out; have g2 := HG2.out; simp [results, Try.results18, go_sem, g1, g2]) rfl ⟨_, rfl, ?_, ?_⟩
  · exact ((HF.out.trans HF2.out).setCell (.inl (Nat.le_refl _)) _).setCell (.inl (Nat.le_refl _)) _
  · exact (HO2.out.base (by have := HF.out.size; omega)).fx HG3.out fun x hx e => by have h1 := (HO2.out.lt hx).1; have := HK.out; have e : x = w.heap.size := e; omega
end
#print axioms docEdges_any
#print axioms docGraph_any
#print axioms docNil_any
end Go.Proofs.Yteafkafkbipcmaa

namespace Go.Proofs.Yteafkafkbipcmaa
open Go.RowKit
set_option linter.unusedVariables false

def insStepE (e : Ed) (s : List Ed × Bool) (x : Ed) : List Ed × Bool := if (!s.2 && decide (cmpE e x < 0)) = true then (s.1 ++ [e] ++ [x], true) else (s.1 ++ [x], s.2)
def insStE (e : Ed) (L : List Ed) : List Ed × Bool := L.foldl (insStepE e) ([], false)
theorem insStE_take {e : Ed} {L : List Ed} {k : Nat} (h : k < L.length) : insStE e (L.take (k + 1)) = insStepE e (insStE e (L.take k)) (gt L k) := by
  unfold insStE; rw [take_gt h, List.foldl_append]; rfl
theorem insStE_len (e : Ed) : ∀ (L acc : List Ed) (d : Bool), (L.foldl (insStepE e) (acc, d)).1.length ≤ acc.length + L.length + 1 ∧ (d = true → (L.foldl (insStepE e) (acc, d)).1.length ≤ acc.length + L.length)
  | [], acc, d => by simp
  | x :: xs, acc, d => by
    rw [List.foldl_cons]
    have h1 := insStE_len e xs (acc ++ [e] ++ [x]) true
    have h2 := insStE_len e xs (acc ++ [x]) d
    simp only [List.length_append, List.length_cons, List.length_nil] at h1 h2 ⊢
    rw [show insStepE e (acc, d) x = if (!d && decide (cmpE e x < 0)) = true then (acc ++ [e] ++ [x], true) else (acc ++ [x], d) from rfl]
    split
    · rename_i hh
      cases d
      · have := h1.2 trivial
        exact ⟨by omega, fun hd => by cases hd⟩
      · simp at hh
    · exact ⟨by have := h2.1; omega, fun hd => by have := h2.2 hd; omega⟩
theorem insStE_true (e : Ed) : ∀ (L acc : List Ed), L.foldl (insStepE e) (acc, true) = (acc ++ L, true)
  | [], acc => by simp
  | x :: xs, acc => by
    rw [List.foldl_cons, show insStepE e (acc, true) x = (acc ++ [x], true) from rfl, insStE_true e xs]
    simp
theorem insStE_false (e : Ed) : ∀ (L acc : List Ed), e ∉ L → (let s := L.foldl (insStepE e) (acc, false); if s.2 = true then s.1 else s.1 ++ [e]) = acc ++ insE e L
  | [], acc, _ => by simp [insE]
  | x :: xs, acc, hn => by
    have hx : e ≠ x := fun h => hn (by rw [h]; simp)
    have hxs : e ∉ xs := fun h => hn (List.mem_cons_of_mem _ h)
    rw [List.foldl_cons]
    by_cases h : e.lt x
    · have h0 : cmpE e x < 0 := cmpE_neg.2 h
      rw [show insStepE e (acc, false) x = (acc ++ [e] ++ [x], true) by simp [insStepE, h0], insStE_true]
      simp [insE, h]
    · have h0 : ¬ cmpE e x < 0 := fun h1 => h (cmpE_neg.1 h1)
      rw [show insStepE e (acc, false) x = (acc ++ [x], false) by simp [insStepE, h0], insStE_false e xs _ hxs]
      simp [insE, h, hx]
/-- the row with an edge more -/
def withL (e : Ed) (L : List Ed) : List Ed := if (insStE e L).2 = true then (insStE e L).1 else (insStE e L).1 ++ [e]
theorem insStE_all {e : Ed} {L : List Ed} (hn : e ∉ L) : withL e L = insE e L := by
  have h := insStE_false e L [] hn
  rw [List.nil_append] at h
  exact h
/-- what the reference builds: the row so far in the cell ob -/
structure AccE (w ws : World) (ob : Nat) (N : Int) (vs : Value) (acc : List Ed) : Prop where
  fx : Fx No w ws
  o0 : ws.cell? ⟨ob, 0, none⟩ = some (.int .i64 N)
  o1 : ws.cell? ⟨ob, 1, none⟩ = some vs ∧ ws.frozen? ⟨ob, 1, none⟩ = false
  own : OwnR ws (ob + 1) vs acc
  lo : w.heap.size ≤ ob ∧ ob < ws.heap.size
theorem AccE.no {w ws w' : World} {ob : Nat} {N : Int} {vs : Value} {acc : List Ed} (h : AccE w ws ob N vs acc) (hf : Fx No ws w') : AccE w w' ob N vs acc :=
  ⟨h.fx.trans hf, hf.cell' h.o0 (fun h => h), hf.cellF h.o1.1 h.o1.2 (fun h => h), h.own.no hf, h.lo.1, by have := hf.size; have := h.lo.2; omega⟩
theorem AccE.snoc {w wr W w2 : World} {ob : Nat} {N : Int} {vs v' : Value} {acc : List Ed} {x : Ed} (h : AccE w wr ob N vs acc) (hW : Fx No wr W) (hfx : Fx (fun b => vs.ownBlock = some b) W w2)
    (ho : w2.ownsRow (ob + 1) 36 3 v' (acc.length + 1) (icells e3 acc ++ ints (e3 x))) :
    AccE w (w2.setCell ⟨ob, 1, none⟩ v') ob N v' (acc ++ [x]) := by
  obtain ⟨l1, l2⟩ := h.lo
  have hfa : Fx (fun b => vs.ownBlock = some b) wr w2 := hW.no.trans hfx
  have hob : ¬ vs.ownBlock = some ob := fun e => by have := (h.own.lt e).1; omega
  have hf2 : Fx (fun j => j = ob) w2 (w2.setCell ⟨ob, 1, none⟩ v') := Fx.put _ _ _ _
  have hsz := hfa.size
  refine ⟨?_, ?_, ?_, ?_, l1, by simp [World.setCell]; omega⟩
  · exact (h.fx.trans' hfa fun g e hl => by have := (h.own.lt e).1; omega).setCell (.inl l1) _
  · rw [World.cell?_setCell_other _ _ _ _ (by intro e; injection e; omega)]
    exact hfa.cell' h.o0 hob
  · obtain ⟨c1, c2⟩ := hfa.cellF h.o1.1 h.o1.2 hob
    exact ⟨World.cell?_setCell_same _ _ _ c1, by simpa using c2⟩
  · exact (OwnT.snoc ho).fx hf2 fun g e e2 => by have := (World.ownsRow.lt ho g e).1; omega
section
variable {w w' : World} {D S : Nat → Prop} {L : List Ed} {v : Value}
/-- a graph of the reference, in memory that is new or was D's -/
def RefG (D : Nat → Prop) (N : Int) (L' : List Ed) (w : World) (e : Ending) (w' : World) : Prop := ∃ v', e = .returned (.agg #[.int .i64 N, v']) ∧ Fx No w w' ∧ EdsV w' (fun k => (D k ∨ w.heap.size ≤ k) ∧ k < w'.heap.size) v' L'
set_option maxRecDepth 100000 in
set_option maxHeartbeats 4000000 in
theorem refWith_any (h : EdsV w D v L) (N x y s : Int) (hl : L.length ≤ 1000000) : Calls Try.prog 46 #[.agg #[.int .i64 N, v], .agg #[.int .i64 x, .int .i64 y, .int .i64 s]] w (RefG D N (withL ⟨x, y, s⟩ L) w) := by
  obtain ⟨ii, hi, hz, hs, hb⟩ := info_parts info_edge13
  have H := Lib.hid h.bound
  obtain ⟨ao, cap, rfl, _, _, hc⟩ := h.facts
  have HC := Lib.hid hc
  clear h hc
  go_enter Try.func46, Try.ntmps46
  go_wp2_with fail
  refine wp_hold (fun W => ∃ w1 : World, Fx No w w1 ∧ w1.heap.size = w.heap.size + 1 + 1 + 1 ∧ w1.cell? ⟨w.heap.size, 1, none⟩ = some (.slice ao L.length cap) ∧ w1.cell? ⟨w.heap.size + 1, 0, none⟩ = some (.int .i64 x) ∧ w1.cell? ⟨w.heap.size + 1, 1, none⟩ = some (.int .i64 y) ∧ w1.cell? ⟨w.heap.size + 1, 2, none⟩ = some (.int .i64 s) ∧
    (w1.cell? ⟨w.heap.size + 1 + 1, 0, none⟩ = some (.int .i64 0) ∧ w1.frozen? ⟨w.heap.size + 1 + 1, 0, none⟩ = false) ∧ (w1.cell? ⟨w.heap.size + 1 + 1, 1, none⟩ = some (.slice none 0 0) ∧ w1.frozen? ⟨w.heap.size + 1 + 1, 1, none⟩ = false) ∧
    AccE w1 W (w.heap.size + 1 + 1 + 1) N (.slice none 0 0) [])
    ⟨((w.alloc (.cells #[.int .i64 N, .slice ao L.length cap] 27)).alloc (.cells #[.int .i64 x, .int .i64 y, .int .i64 s] 36)).alloc (.cells #[.int .i64 0, .slice none 0 0] 27), ((Fx.refl No w).alloc _).alloc _ |>.alloc _, by simp, by go_simp, by go_simp, by go_simp, by go_simp, ⟨by go_simp, by go_simp⟩, ⟨by go_simp, by go_simp⟩, (Fx.refl No _).alloc _, by go_simp, ⟨by go_simp, by go_simp⟩, OwnT.nil _ _, by simp, by simp⟩ ?_
  rintro W0 ⟨w1, hF1, hz1, c1, e0, e1, e2, ⟨q0, f0⟩, ⟨q1, f1⟩, hA⟩
  obtain ⟨cb, hcb⟩ : ∃ e, e = w.heap.size := ⟨_, rfl⟩
  rw [← hcb] at hz1 c1 e0 e1 e2 q0 f0 q1 f1 hA ⊢
  obtain ⟨eb, heb⟩ : ∃ e, e = cb + 1 := ⟨_, rfl⟩
  rw [← heb] at hz1 e0 e1 e2 q0 f0 q1 f1 hA ⊢
  obtain ⟨qb, hqb⟩ : ∃ e, e = eb + 1 := ⟨_, rfl⟩
  rw [← hqb] at hz1 q0 f0 q1 f1 hA ⊢
  obtain ⟨ob, hob⟩ : ∃ e, e = qb + 1 := ⟨_, rfl⟩
  rw [← hob] at hz1 hA ⊢
  have HF1 := Lib.hid hF1
  have HA := Lib.hid hA
  have HOb : Hid (ob = w1.heap.size) := Lib.hid hz1.symm
  have hqo : qb < ob := by omega
  have hcb1 : cb < w1.heap.size := by omega
  have heb1 : eb < w1.heap.size := by omega
  have hq0 : w.heap.size ≤ qb := by omega
  have hq1 : qb < w1.heap.size := by omega
  have hwob : w.heap.size ≤ ob := by omega
  have HQ0 := Lib.hid q0
  have HF0 := Lib.hid f0
  have HQ1 := Lib.hid q1
  have HFf1 := Lib.hid f1
  have HC1 := Lib.hid c1
  have HE0 := Lib.hid e0
  have HE1 := Lib.hid e1
  have HE2 := Lib.hid e2
  clear hF1 hA hcb heb hqb hob hz1 q0 f0 q1 f1 c1 e0 e1 e2
  go_loopw [6, 7] (fun d i ws => ∃ (k : Nat) (vs : Value), i = .int .i64 k ∧ k ≤ L.length ∧ d = .bool (insStE ⟨x, y, s⟩ (L.take k)).2 ∧ AccE w1 ws ob N vs (insStE ⟨x, y, s⟩ (L.take k)).1) (fun _ i _ => L.length - (intOf i).toNat)
  case atStart => exact ⟨0, _, rfl, Nat.zero_le _, rfl, HA.out⟩
  case round =>
    obtain ⟨k, vs, rfl, hk, rfl, hA⟩ := hrel
    have hacl2 : (insStE ⟨x, y, s⟩ (L.take k)).1.length ≤ 1000001 := by have h0 := (insStE_len ⟨x, y, s⟩ (L.take k) [] false).1; rw [List.length_take] at h0; simp at h0; unfold insStE; omega
    obtain ⟨acc, hacc⟩ : ∃ a, a = (insStE ⟨x, y, s⟩ (L.take k)).1 := ⟨_, rfl⟩
    obtain ⟨d, hd⟩ : ∃ a, a = (insStE ⟨x, y, s⟩ (L.take k)).2 := ⟨_, rfl⟩
    rw [← hacc] at hA hacl2
    rw [← hd]
    have HSt : Hid (insStE ⟨x, y, s⟩ (L.take k) = (acc, d)) := Lib.hid (Prod.ext hacc.symm hd.symm)
    obtain ⟨so, sc, rfl, _⟩ := SlV.ofOwns hA.own
    have HA := Lib.hid hA
    have c1 := hA.fx.cell' HC1.out (fun h => h)
    have e0 := hA.fx.cell' HE0.out (fun h => h)
    have e1 := hA.fx.cell' HE1.out (fun h => h)
    have e2 := hA.fx.cell' HE2.out (fun h => h)
    obtain ⟨o1, o2⟩ := hA.o1
    have hlo := hA.lo.2
    clear hA hacc hd
    by_cases hlt : k < L.length
    · obtain ⟨b, o, rfl, hDb, p1, p2, p3⟩ := HC.out k hlt
      have hbw := World.block_lt_of_cell? w _ p1
      have hbw : b < w.heap.size := hbw
      have q1' := p1
      have q2' := p2
      have q3' := p3
      have p1 := HA.out.fx.cell' (HF1.out.cell' p1 (fun h => h)) (fun h => h)
      have p2 := HA.out.fx.cell' (HF1.out.cell' p2 (fun h => h)) (fun h => h)
      have p3 := HA.out.fx.cell' (HF1.out.cell' p3 (fun h => h)) (fun h => h)
      obtain ⟨z, hz'⟩ : ∃ z, z = (gt L k).f := ⟨_, rfl⟩
      obtain ⟨u, hu⟩ : ∃ z, z = (gt L k).t := ⟨_, rfl⟩
      obtain ⟨r, hr⟩ : ∃ z, z = (gt L k).l := ⟨_, rfl⟩
      rw [← hz'] at p1 q1'
      rw [← hu] at p2 q2'
      rw [← hr] at p3 q3'
      have HGk : Hid (gt L k = ⟨z, u, r⟩) := Lib.hid (Ed.ext' hz'.symm hu.symm hr.symm)
      have HNx : Hid (insStE ⟨x, y, s⟩ (L.take (k + 1)) = insStepE ⟨x, y, s⟩ (acc, d) ⟨z, u, r⟩) := Lib.hid (by rw [insStE_take hlt, HSt.out, HGk.out])
      have hkl : (k : Int) < (L.length : Int) := by omega
      have hk0 : (0 : Int) ≤ (k : Int) := by omega
      clear hz' hu hr
      have HW1 := Lib.hid (HF1.out.cell' q1' (fun h => h))
      have HW2 := Lib.hid (HF1.out.cell' q2' (fun h => h))
      have HW3 := Lib.hid (HF1.out.cell' q3' (fun h => h))
      clear q1' q2' q3'
      have hcbl : cb < w1.heap.size := hcb1
      have hw01 : w.heap.size ≤ w1.heap.size := HF1.out.size
      have hob1 : w1.heap.size = ob := HOb.out.symm
      have HSK : Hid (∀ W, AccE w1 W ob N (.slice so acc.length sc) acc → True) := Lib.hid fun _ _ => trivial
      cases d
      · have CL : Hid (∀ W, Fx No wr W → Calls Try.prog 55 #[.agg #[.int .i64 x, .int .i64 y, .int .i64 s], .agg #[.int .i64 z, .int .i64 u, .int .i64 r]] W fun e w' => e = .returned (.int .i64 (cmpE ⟨x, y, s⟩ ⟨z, u, r⟩)) ∧ Fx No W w') := Lib.hid fun W _ => refCmp_any ⟨x, y, s⟩ ⟨z, u, r⟩ W
        obtain ⟨t, ht⟩ : ∃ t, t = cmpE ⟨x, y, s⟩ ⟨z, u, r⟩ := ⟨_, rfl⟩
        rw [← ht] at CL
        have HTt := Lib.hid ht
        have g0 : ∀ W, Fx No wr W → W.cell? ⟨cb, 1, none⟩ = some (.slice (some ⟨b, o, none⟩) L.length cap) := fun W h => h.cell' c1 (fun h => h)
        have g1 : ∀ W, Fx No wr W → W.cell? ⟨eb, 0, none⟩ = some (.int .i64 x) := fun W h => h.cell' e0 (fun h => h)
        have g2 : ∀ W, Fx No wr W → W.cell? ⟨eb, 1, none⟩ = some (.int .i64 y) := fun W h => h.cell' e1 (fun h => h)
        have g6 : ∀ W, Fx No wr W → W.cell? ⟨eb, 2, none⟩ = some (.int .i64 s) := fun W h => h.cell' e2 (fun h => h)
        have g3 : ∀ W, Fx No wr W → W.cell? ⟨b, o + k * 3, none⟩ = some (.int .i64 z) := fun W h => h.cell' p1 (fun h => h)
        have g4 : ∀ W, Fx No wr W → W.cell? ⟨b, o + k * 3 + 1, none⟩ = some (.int .i64 u) := fun W h => h.cell' p2 (fun h => h)
        have g5 : ∀ W, Fx No wr W → W.cell? ⟨b, o + k * 3 + 2, none⟩ = some (.int .i64 r) := fun W h => h.cell' p3 (fun h => h)
        have s0 : Fx No wr wr := Fx.refl _ _
        have hx0 := c1
        have HP1 := Lib.hid p1
        have HP2 := Lib.hid p2
        have HEe0 := Lib.hid e0
        have HEe1 := Lib.hid e1
        have HCc1 := Lib.hid c1
        clear ht hx0 o1 o2 c1 e0 e1 e2 p1 p2 p3
        go_wp2_with fail
        go_region_held3 (fun W => Fx No wr W)
          (first
            | exact s0.drew
            | exact Fx.transNo (by assumption) hfi)
          (first
            | (go_at_call 55; with_reducible refine (CL.out _ (by assumption)).mono ?_; rintro e w' ⟨rfl, hfi⟩))
        all_goals
          have HK : Hid (Fx No wr w') := by assumption
          have HX := Lib.hid (HA.out.no HK.out)
          clear g0 g1 g2 g3 g4 g5 g6 s0 CL
          by_cases hc0 : t < 0
          rotate_left
          · have d0 : decide (t < 0) = false := decide_eq_false hc0
            have HNx : Hid (insStE ⟨x, y, s⟩ (L.take (k + 1)) = (acc ++ [(⟨z, u, r⟩ : Ed)], false)) := Lib.hid (by rw [HNx.out, insStepE, ← HTt.out]; simp [hc0])
            go_wp2_with fail
            refine wp_hold (fun W => AccE w1 W ob N (.slice so acc.length sc) acc) HX.out ?_
            rintro wx hX
            have HX := Lib.hid hX
            clear hX
            have c1 := HX.out.fx.cell' HC1.out (fun h => h)
            have p1 := HX.out.fx.cell' HW1.out (fun h => h)
            have p2 := HX.out.fx.cell' HW2.out (fun h => h)
            have p3 := HX.out.fx.cell' HW3.out (fun h => h)
            obtain ⟨o1, o2⟩ := HX.out.o1
            have hlo := HX.out.lo.2
            have hvs : ∀ g, (Value.slice so acc.length sc).ownBlock = some g → ob + 1 ≤ g := fun g e => (World.ownsRow.lt HX.out.own g e).1
            have HVs := Lib.hid hvs
            have s0 : Fx (fun g => (Value.slice so acc.length sc).ownBlock = some g ∨ g = ob) wx wx := Fx.refl _ _
            have ns : ∀ j, j < w1.heap.size → ¬ ((Value.slice so acc.length sc).ownBlock = some j ∨ j = ob) := fun j hj h => by
              rcases h with h | h
              · have := hvs j h; omega
              · omega
            have g0 : ∀ W, Fx (fun g => (Value.slice so acc.length sc).ownBlock = some g ∨ g = ob) wx W → W.cell? ⟨cb, 1, none⟩ = some (.slice (some ⟨b, o, none⟩) L.length cap) := fun W h => h.cell' c1 (ns _ hcbl)
            have g3 : ∀ W, Fx (fun g => (Value.slice so acc.length sc).ownBlock = some g ∨ g = ob) wx W → W.cell? ⟨b, o + k * 3, none⟩ = some (.int .i64 z) := fun W h => h.cell' p1 (ns _ (by show b < w1.heap.size; omega))
            have g4 : ∀ W, Fx (fun g => (Value.slice so acc.length sc).ownBlock = some g ∨ g = ob) wx W → W.cell? ⟨b, o + k * 3 + 1, none⟩ = some (.int .i64 u) := fun W h => h.cell' p2 (ns _ (by show b < w1.heap.size; omega))
            have g5 : ∀ W, Fx (fun g => (Value.slice so acc.length sc).ownBlock = some g ∨ g = ob) wx W → W.cell? ⟨b, o + k * 3 + 2, none⟩ = some (.int .i64 r) := fun W h => h.cell' p3 (ns _ (by show b < w1.heap.size; omega))
            have HOw : Hid (∀ W, Fx No wx W → W.ownsRow (ob + 1) 36 3 (.slice so acc.length sc) (acc.length) (icells e3 acc)) := Lib.hid fun W hf => by have := HX.out.own.no hf; unfold OwnT at this; simpa using this
            clear hvs c1 p1 p2 p3 ns
            refine wp_region_G 10 (fun b W => Fx (fun g => (Value.slice so acc.length sc).ownBlock = some g ∨ g = ob) wx W ∧ (b = false → W.cell? ⟨ob, 1, none⟩ = some (.slice so acc.length sc) ∧ W.frozen? ⟨ob, 1, none⟩ = false)) (by kernel_rfl) ⟨s0.drew, fun _ => ⟨o1, o2⟩⟩ ?_
            intro hS hC
            refine wpG_take (i := 0) (v := ?_) rfl (by kernel_rfl) (by kernel_rfl) (by kernel_rfl) (by kernel_rfl) (fun _ _ _ h => h) (by decide) (Or.inl ⟨by rfl, ?_⟩) hC hS ?_
            rotate_left
            · (intro W ⟨hf, hc⟩; have hc := hc rfl; go_simp; first | done | with_reducible rfl)
            clear hS hC
            intro hS hC
            try simp only [Act.put, List.setIfInBounds_toArray]
            refine wpG_take (i := 1) (v := ?_) rfl (by kernel_rfl) (by kernel_rfl) (by kernel_rfl) (by kernel_rfl) (fun _ _ _ h => h) (by decide) (Or.inl ⟨by rfl, ?_⟩) hC hS ?_
            rotate_left
            · (intro W ⟨hf, hc⟩; have hc := hc rfl; go_simp; first | done | with_reducible rfl)
            clear hS hC
            intro hS hC
            try simp only [Act.put]
            refine wpG_take (i := 2) (v := ?_) rfl (by kernel_rfl) (by kernel_rfl) (by kernel_rfl) (by kernel_rfl) (fun _ _ _ h => h) (by decide) (Or.inl ⟨by rfl, ?_⟩) hC hS ?_
            rotate_left
            · (intro W ⟨hf, hc⟩; have hc := hc rfl; go_simp; first | done | with_reducible rfl)
            clear hS hC
            intro hS hC
            try simp only [Act.put]
            refine wpG_take (i := 3) (v := ?_) rfl (by kernel_rfl) (by kernel_rfl) (by kernel_rfl) (by kernel_rfl) (fun _ _ _ h => h) (by decide) (Or.inl ⟨by rfl, ?_⟩) hC hS ?_
            rotate_left
            · (intro W ⟨hf, hc⟩; have hc := hc rfl; go_simp; first | done | with_reducible rfl)
            clear hS hC
            intro hS hC
            try simp only [Act.put]
            refine wpG_take (i := 4) (v := ?_) rfl (by kernel_rfl) (by kernel_rfl) (by kernel_rfl) (by kernel_rfl) (fun _ _ _ h => h) (by decide) (Or.inl ⟨by rfl, ?_⟩) hC hS ?_
            rotate_left
            · (intro W ⟨hf, hc⟩; have hc := hc rfl; go_simp; first | done | with_reducible rfl)
            clear hS hC
            intro hS hC
            try simp only [Act.put]
            refine wpG_take (i := 5) (v := ?_) rfl (by kernel_rfl) (by kernel_rfl) (by kernel_rfl) (by kernel_rfl) (fun _ _ _ h => h) (by decide) (Or.inl ⟨by rfl, ?_⟩) hC hS ?_
            rotate_left
            · (intro W ⟨hf, hc⟩; have hc := hc rfl; go_simp; first | done | with_reducible rfl)
            clear hS hC
            intro hS hC
            try simp only [Act.put]
            refine wpG_take (i := 6) (v := ?_) rfl (by kernel_rfl) (by kernel_rfl) (by kernel_rfl) (by kernel_rfl) (fun _ _ _ h => h) (by decide) (Or.inl ⟨by rfl, ?_⟩) hC hS ?_
            rotate_left
            · (intro W ⟨hf, hc⟩; have hc := hc rfl; go_simp; first | done | with_reducible rfl)
            clear hS hC
            intro hS hC
            try simp only [Act.put]
            refine wpG_one (i := 7) (by kernel_rfl) rfl hC (fun K hK => ?_)
            go_simp
            refine hK.out _ _ ⟨s0.drew.alloc _, fun _ => ((Fx.refl No _).drew.alloc _).cellF o1 o2 (fun h => h)⟩ (fun hS' hC' => ?_)
            clear hK K hS hC
            have hS := hS'
            have hC := hC'
            clear hS' hC'
            try simp only [Act.put, List.setIfInBounds_toArray, List.set_cons_zero, List.set_cons_succ]
            refine wpG_one (i := 8) (by kernel_rfl) rfl hC (fun K hK => ?_)
            refine step_append_kept rfl (.tmp 37) (.tmp 43) 25 rfl (ob + 1) 36 Try.underlying25 hi hz hs hb rfl (by decide) (.slice so acc.length sc) (acc.length) (icells e3 acc) (by simp [Act.eval]) (HOw.out _ ((Fx.refl No wx).drew.alloc _)) (fun _ => True) (.slice (some ⟨wx.heap.size, 0, none⟩) 1 1) 1 (ints [z, u, r]) (by simp [Act.eval]) (SlV.lit wx.drew 36 #[.int .i64 z, .int .i64 u, .int .i64 r] 3 1 rfl (by unfold maxLen; omega)) (ints_one _) (by omega) (by unfold maxLen; omega) (by omega) (by simp; omega) ?_
            intro v' w2 ho hfx hk3 hb2
            obtain ⟨g, gcap, rfl, hg1, hg2⟩ := ownsRow_pos ho (by omega)
            have hob : ¬ (Value.slice so acc.length sc).ownBlock = some ob := fun e => by have := HVs.out ob e; omega
            obtain ⟨t3, t4⟩ := ((Fx.refl No wx).drew.alloc (.cells #[.int .i64 z, .int .i64 u, .int .i64 r] 36)).cellF o1 o2 (fun h => h)
            obtain ⟨t3, t4⟩ := hfx.cellF t3 t4 hob
            have hS2 : Fx (fun b => (Value.slice so acc.length sc).ownBlock = some b ∨ b = ob) wx w2 := (s0.drew.alloc _).trans (hfx.mono fun _ _ e => .inl e)
            have HA5 := Lib.hid (HX.out.snoc (x := ⟨z, u, r⟩) ((Fx.refl No wx).drew.alloc _) hfx (by simpa [e3] using ho))
            refine hK.out _ _ ⟨hS2, fun _ => ⟨t3, t4⟩⟩ (fun hS' hC' => ?_)
            clear ho hfx hk3 hb2
            clear hK K hS hC
            have hS := hS'
            have hC := hC'
            clear hS' hC'
            try simp only [Act.put, List.setIfInBounds_toArray]
            refine wpG_take (i := 9) (v := ?_) rfl (by kernel_rfl) (by kernel_rfl) (by kernel_rfl) (by kernel_rfl) (fun _ _ _ h => h) (by decide) (Or.inl ⟨by rfl, ?_⟩) hC hS ?_
            rotate_left
            · (intro W ⟨hf, hc⟩; have hc := hc rfl; go_simp; first | done | with_reducible rfl)
            clear hS hC
            intro hS hC
            try simp only [Act.put]
            refine wpG_one (i := 10) (by kernel_rfl) rfl hC (fun K hK => ?_)
            go_simp
            refine hK.out _ _ ⟨Fx.setCell hS2 (a := ⟨ob, 1, none⟩) (.inr (.inr rfl)) _, fun h => absurd h (by decide +kernel)⟩ (fun _ _ => ?_)
            clear hK K hS hC
            refine wpG_done (by kernel_rfl) ?_ _
            clear o1 o2 t3 t4 hS2 s0 g0 g3 g4 g5
            go_wp2
            go_roundw
            case rel => exact ⟨k + 1, _, by go_num, by omega, by rw [HNx.out], by rw [HNx.out]; exact HA5.out⟩
            case measure => simp [intOf]; omega
          · have d0 : decide (t < 0) = true := decide_eq_true hc0
            have HNx : Hid (insStE ⟨x, y, s⟩ (L.take (k + 1)) = ((acc ++ [(⟨x, y, s⟩ : Ed)]) ++ [(⟨z, u, r⟩ : Ed)], true)) := Lib.hid (by rw [HNx.out, insStepE, ← HTt.out]; simp [hc0])
            have e0' := HX.out.fx.cell' HE0.out (fun h => h)
            have e1' := HX.out.fx.cell' HE1.out (fun h => h)
            have e2' := HX.out.fx.cell' HE2.out (fun h => h)
            obtain ⟨o1, o2⟩ := HX.out.o1
            have hob : ¬ (Value.slice so acc.length sc).ownBlock = some ob := fun e => by have := (World.ownsRow.lt HX.out.own ob e).1; omega
            have hlo9 := HX.out.lo.2
            have HOo := Lib.hid hob
            clear hob
            go_wp2_with (at_builtin; refine wpList_append_kept rfl _ _ 25 rfl (ob + 1) 36 Try.underlying25 hi hz hs hb rfl (by decide) rfl (World.ownsRow.alloc HX.out.own _) rfl (SlV.lit _ 36 #[.int .i64 _, .int .i64 _, .int .i64 _] 3 1 rfl (by unfold maxLen; omega)) (ints_one [_, _, _]) (by omega) (by unfold maxLen; omega) (by omega) (by simp; omega) ?_)
            intro v' w2 ho hfx hk3 hb2
            obtain ⟨ga, gcap, rfl, hg1, hg2⟩ := ownsRow_pos ho (by omega)
            obtain ⟨t3, t4⟩ := ((Fx.refl No w').alloc (.cells #[.int .i64 x, .int .i64 y, .int .i64 s] 36)).cellF o1 o2 (fun h => h)
            obtain ⟨t3, t4⟩ := hfx.cellF t3 t4 HOo.out
            have HA9 := Lib.hid (HX.out.snoc (x := ⟨x, y, s⟩) ((Fx.refl No w').alloc _) hfx (by exact ho))
            clear ho hfx hk3 hb2 hg1 hg2 e0' e1' e2' o1 o2
            go_wp2_with fail
            refine wp_hold (fun W => AccE w1 W ob N (.slice (some ⟨ga, 0, none⟩) (acc.length + 1) gcap) (acc ++ [(⟨x, y, s⟩ : Ed)])) HA9.out ?_
            rintro wx hX
            have HX := Lib.hid hX
            clear hX HA9 t3 t4
            have c1 := HX.out.fx.cell' HC1.out (fun h => h)
            have p1 := HX.out.fx.cell' HW1.out (fun h => h)
            have p2 := HX.out.fx.cell' HW2.out (fun h => h)
            have p3 := HX.out.fx.cell' HW3.out (fun h => h)
            obtain ⟨o1, o2⟩ := HX.out.o1
            have hlo := HX.out.lo.2
            have hvs : ∀ g, (Value.slice (some ⟨ga, 0, none⟩) (acc.length + 1) gcap).ownBlock = some g → ob + 1 ≤ g := fun g e => (World.ownsRow.lt HX.out.own g e).1
            have HVs := Lib.hid hvs
            have s0 : Fx (fun g => (Value.slice (some ⟨ga, 0, none⟩) (acc.length + 1) gcap).ownBlock = some g ∨ g = ob) wx wx := Fx.refl _ _
            have ns : ∀ j, j < w1.heap.size → ¬ ((Value.slice (some ⟨ga, 0, none⟩) (acc.length + 1) gcap).ownBlock = some j ∨ j = ob) := fun j hj h => by
              rcases h with h | h
              · have := hvs j h; omega
              · omega
            have g0 : ∀ W, Fx (fun g => (Value.slice (some ⟨ga, 0, none⟩) (acc.length + 1) gcap).ownBlock = some g ∨ g = ob) wx W → W.cell? ⟨cb, 1, none⟩ = some (.slice (some ⟨b, o, none⟩) L.length cap) := fun W h => h.cell' c1 (ns _ hcbl)
            have g3 : ∀ W, Fx (fun g => (Value.slice (some ⟨ga, 0, none⟩) (acc.length + 1) gcap).ownBlock = some g ∨ g = ob) wx W → W.cell? ⟨b, o + k * 3, none⟩ = some (.int .i64 z) := fun W h => h.cell' p1 (ns _ (by show b < w1.heap.size; omega))
            have g4 : ∀ W, Fx (fun g => (Value.slice (some ⟨ga, 0, none⟩) (acc.length + 1) gcap).ownBlock = some g ∨ g = ob) wx W → W.cell? ⟨b, o + k * 3 + 1, none⟩ = some (.int .i64 u) := fun W h => h.cell' p2 (ns _ (by show b < w1.heap.size; omega))
            have g5 : ∀ W, Fx (fun g => (Value.slice (some ⟨ga, 0, none⟩) (acc.length + 1) gcap).ownBlock = some g ∨ g = ob) wx W → W.cell? ⟨b, o + k * 3 + 2, none⟩ = some (.int .i64 r) := fun W h => h.cell' p3 (ns _ (by show b < w1.heap.size; omega))
            have HOw : Hid (∀ W, Fx No wx W → W.ownsRow (ob + 1) 36 3 (.slice (some ⟨ga, 0, none⟩) (acc.length + 1) gcap) ((acc.length + 1)) (icells e3 (acc ++ [(⟨x, y, s⟩ : Ed)]))) := Lib.hid fun W hf => by have := HX.out.own.no hf; unfold OwnT at this; simpa using this
            clear hvs c1 p1 p2 p3 ns
            refine wp_region_G 10 (fun b W => Fx (fun g => (Value.slice (some ⟨ga, 0, none⟩) (acc.length + 1) gcap).ownBlock = some g ∨ g = ob) wx W ∧ (b = false → W.cell? ⟨ob, 1, none⟩ = some (.slice (some ⟨ga, 0, none⟩) (acc.length + 1) gcap) ∧ W.frozen? ⟨ob, 1, none⟩ = false)) (by kernel_rfl) ⟨s0.drew, fun _ => ⟨o1, o2⟩⟩ ?_
            intro hS hC
            refine wpG_take (i := 0) (v := ?_) rfl (by kernel_rfl) (by kernel_rfl) (by kernel_rfl) (by kernel_rfl) (fun _ _ _ h => h) (by decide) (Or.inl ⟨by rfl, ?_⟩) hC hS ?_
            rotate_left
            · (intro W ⟨hf, hc⟩; have hc := hc rfl; go_simp; first | done | with_reducible rfl)
            clear hS hC
            intro hS hC
            try simp only [Act.put, List.setIfInBounds_toArray]
            refine wpG_take (i := 1) (v := ?_) rfl (by kernel_rfl) (by kernel_rfl) (by kernel_rfl) (by kernel_rfl) (fun _ _ _ h => h) (by decide) (Or.inl ⟨by rfl, ?_⟩) hC hS ?_
            rotate_left
            · (intro W ⟨hf, hc⟩; have hc := hc rfl; go_simp; first | done | with_reducible rfl)
            clear hS hC
            intro hS hC
            try simp only [Act.put]
            refine wpG_take (i := 2) (v := ?_) rfl (by kernel_rfl) (by kernel_rfl) (by kernel_rfl) (by kernel_rfl) (fun _ _ _ h => h) (by decide) (Or.inl ⟨by rfl, ?_⟩) hC hS ?_
            rotate_left
            · (intro W ⟨hf, hc⟩; have hc := hc rfl; go_simp; first | done | with_reducible rfl)
            clear hS hC
            intro hS hC
            try simp only [Act.put]
            refine wpG_take (i := 3) (v := ?_) rfl (by kernel_rfl) (by kernel_rfl) (by kernel_rfl) (by kernel_rfl) (fun _ _ _ h => h) (by decide) (Or.inl ⟨by rfl, ?_⟩) hC hS ?_
            rotate_left
            · (intro W ⟨hf, hc⟩; have hc := hc rfl; go_simp; first | done | with_reducible rfl)
            clear hS hC
            intro hS hC
            try simp only [Act.put]
            refine wpG_take (i := 4) (v := ?_) rfl (by kernel_rfl) (by kernel_rfl) (by kernel_rfl) (by kernel_rfl) (fun _ _ _ h => h) (by decide) (Or.inl ⟨by rfl, ?_⟩) hC hS ?_
            rotate_left
            · (intro W ⟨hf, hc⟩; have hc := hc rfl; go_simp; first | done | with_reducible rfl)
            clear hS hC
            intro hS hC
            try simp only [Act.put]
            refine wpG_take (i := 5) (v := ?_) rfl (by kernel_rfl) (by kernel_rfl) (by kernel_rfl) (by kernel_rfl) (fun _ _ _ h => h) (by decide) (Or.inl ⟨by rfl, ?_⟩) hC hS ?_
            rotate_left
            · (intro W ⟨hf, hc⟩; have hc := hc rfl; go_simp; first | done | with_reducible rfl)
            clear hS hC
            intro hS hC
            try simp only [Act.put]
            refine wpG_take (i := 6) (v := ?_) rfl (by kernel_rfl) (by kernel_rfl) (by kernel_rfl) (by kernel_rfl) (fun _ _ _ h => h) (by decide) (Or.inl ⟨by rfl, ?_⟩) hC hS ?_
            rotate_left
            · (intro W ⟨hf, hc⟩; have hc := hc rfl; go_simp; first | done | with_reducible rfl)
            clear hS hC
            intro hS hC
            try simp only [Act.put]
            refine wpG_one (i := 7) (by kernel_rfl) rfl hC (fun K hK => ?_)
            go_simp
            refine hK.out _ _ ⟨s0.drew.alloc _, fun _ => ((Fx.refl No _).drew.alloc _).cellF o1 o2 (fun h => h)⟩ (fun hS' hC' => ?_)
            clear hK K hS hC
            have hS := hS'
            have hC := hC'
            clear hS' hC'
            try simp only [Act.put, List.setIfInBounds_toArray, List.set_cons_zero, List.set_cons_succ]
            refine wpG_one (i := 8) (by kernel_rfl) rfl hC (fun K hK => ?_)
            refine step_append_kept rfl (.tmp 37) (.tmp 43) 25 rfl (ob + 1) 36 Try.underlying25 hi hz hs hb rfl (by decide) (.slice (some ⟨ga, 0, none⟩) (acc.length + 1) gcap) ((acc.length + 1)) (icells e3 (acc ++ [(⟨x, y, s⟩ : Ed)])) (by simp [Act.eval]) (HOw.out _ ((Fx.refl No wx).drew.alloc _)) (fun _ => True) (.slice (some ⟨wx.heap.size, 0, none⟩) 1 1) 1 (ints [z, u, r]) (by simp [Act.eval]) (SlV.lit wx.drew 36 #[.int .i64 z, .int .i64 u, .int .i64 r] 3 1 rfl (by unfold maxLen; omega)) (ints_one _) (by omega) (by unfold maxLen; omega) (by omega) (by simp; omega) ?_
            intro v' w2 ho hfx hk3 hb2
            obtain ⟨g, gcap, rfl, hg1, hg2⟩ := ownsRow_pos ho (by omega)
            have hob : ¬ (Value.slice (some ⟨ga, 0, none⟩) (acc.length + 1) gcap).ownBlock = some ob := fun e => by have := HVs.out ob e; omega
            obtain ⟨t3, t4⟩ := ((Fx.refl No wx).drew.alloc (.cells #[.int .i64 z, .int .i64 u, .int .i64 r] 36)).cellF o1 o2 (fun h => h)
            obtain ⟨t3, t4⟩ := hfx.cellF t3 t4 hob
            have hS2 : Fx (fun b => (Value.slice (some ⟨ga, 0, none⟩) (acc.length + 1) gcap).ownBlock = some b ∨ b = ob) wx w2 := (s0.drew.alloc _).trans (hfx.mono fun _ _ e => .inl e)
            have HA5 := Lib.hid (HX.out.snoc (x := ⟨z, u, r⟩) ((Fx.refl No wx).drew.alloc _) hfx (by simpa [e3] using ho))
            refine hK.out _ _ ⟨hS2, fun _ => ⟨t3, t4⟩⟩ (fun hS' hC' => ?_)
            clear ho hfx hk3 hb2
            clear hK K hS hC
            have hS := hS'
            have hC := hC'
            clear hS' hC'
            try simp only [Act.put, List.setIfInBounds_toArray]
            refine wpG_take (i := 9) (v := ?_) rfl (by kernel_rfl) (by kernel_rfl) (by kernel_rfl) (by kernel_rfl) (fun _ _ _ h => h) (by decide) (Or.inl ⟨by rfl, ?_⟩) hC hS ?_
            rotate_left
            · (intro W ⟨hf, hc⟩; have hc := hc rfl; go_simp; first | done | with_reducible rfl)
            clear hS hC
            intro hS hC
            try simp only [Act.put]
            refine wpG_one (i := 10) (by kernel_rfl) rfl hC (fun K hK => ?_)
            go_simp
            refine hK.out _ _ ⟨Fx.setCell hS2 (a := ⟨ob, 1, none⟩) (.inr (.inr rfl)) _, fun h => absurd h (by decide +kernel)⟩ (fun _ _ => ?_)
            clear hK K hS hC
            refine wpG_done (by kernel_rfl) ?_ _
            clear o1 o2 t3 t4 hS2 s0 g0 g3 g4 g5
            go_wp2
            go_roundw
            case rel => exact ⟨k + 1, _, by go_num, by omega, by rw [HNx.out], by rw [HNx.out]; exact HA5.out⟩
            case measure => simp [intOf]; omega
      · skip
        have HNx : Hid (insStE ⟨x, y, s⟩ (L.take (k + 1)) = (acc ++ [(⟨z, u, r⟩ : Ed)], true)) := Lib.hid (by rw [HNx.out, insStepE]; simp)
        go_wp2_with fail
        go_quiet (fail)
        all_goals
          clear o1 o2 c1 e0 e1 e2 p1 p2 p3
          have HX := Lib.hid (HA.out.no ((Fx.refl No wr).drewN nq))
          go_wp2_with fail
          refine wp_hold (fun W => AccE w1 W ob N (.slice so acc.length sc) acc) HX.out ?_
          rintro wx hX
          have HX := Lib.hid hX
          clear hX
          have c1 := HX.out.fx.cell' HC1.out (fun h => h)
          have p1 := HX.out.fx.cell' HW1.out (fun h => h)
          have p2 := HX.out.fx.cell' HW2.out (fun h => h)
          have p3 := HX.out.fx.cell' HW3.out (fun h => h)
          obtain ⟨o1, o2⟩ := HX.out.o1
          have hlo := HX.out.lo.2
          have hvs : ∀ g, (Value.slice so acc.length sc).ownBlock = some g → ob + 1 ≤ g := fun g e => (World.ownsRow.lt HX.out.own g e).1
          have HVs := Lib.hid hvs
          have s0 : Fx (fun g => (Value.slice so acc.length sc).ownBlock = some g ∨ g = ob) wx wx := Fx.refl _ _
          have ns : ∀ j, j < w1.heap.size → ¬ ((Value.slice so acc.length sc).ownBlock = some j ∨ j = ob) := fun j hj h => by
            rcases h with h | h
            · have := hvs j h; omega
            · omega
          have g0 : ∀ W, Fx (fun g => (Value.slice so acc.length sc).ownBlock = some g ∨ g = ob) wx W → W.cell? ⟨cb, 1, none⟩ = some (.slice (some ⟨b, o, none⟩) L.length cap) := fun W h => h.cell' c1 (ns _ hcbl)
          have g3 : ∀ W, Fx (fun g => (Value.slice so acc.length sc).ownBlock = some g ∨ g = ob) wx W → W.cell? ⟨b, o + k * 3, none⟩ = some (.int .i64 z) := fun W h => h.cell' p1 (ns _ (by show b < w1.heap.size; omega))
          have g4 : ∀ W, Fx (fun g => (Value.slice so acc.length sc).ownBlock = some g ∨ g = ob) wx W → W.cell? ⟨b, o + k * 3 + 1, none⟩ = some (.int .i64 u) := fun W h => h.cell' p2 (ns _ (by show b < w1.heap.size; omega))
          have g5 : ∀ W, Fx (fun g => (Value.slice so acc.length sc).ownBlock = some g ∨ g = ob) wx W → W.cell? ⟨b, o + k * 3 + 2, none⟩ = some (.int .i64 r) := fun W h => h.cell' p3 (ns _ (by show b < w1.heap.size; omega))
          have HOw : Hid (∀ W, Fx No wx W → W.ownsRow (ob + 1) 36 3 (.slice so acc.length sc) (acc.length) (icells e3 acc)) := Lib.hid fun W hf => by have := HX.out.own.no hf; unfold OwnT at this; simpa using this
          clear hvs c1 p1 p2 p3 ns
          refine wp_region_G 10 (fun b W => Fx (fun g => (Value.slice so acc.length sc).ownBlock = some g ∨ g = ob) wx W ∧ (b = false → W.cell? ⟨ob, 1, none⟩ = some (.slice so acc.length sc) ∧ W.frozen? ⟨ob, 1, none⟩ = false)) (by kernel_rfl) ⟨s0.drew, fun _ => ⟨o1, o2⟩⟩ ?_
          intro hS hC
          refine wpG_take (i := 0) (v := ?_) rfl (by kernel_rfl) (by kernel_rfl) (by kernel_rfl) (by kernel_rfl) (fun _ _ _ h => h) (by decide) (Or.inl ⟨by rfl, ?_⟩) hC hS ?_
          rotate_left
          · (intro W ⟨hf, hc⟩; have hc := hc rfl; go_simp; first | done | with_reducible rfl)
          clear hS hC
          intro hS hC
          try simp only [Act.put, List.setIfInBounds_toArray]
          refine wpG_take (i := 1) (v := ?_) rfl (by kernel_rfl) (by kernel_rfl) (by kernel_rfl) (by kernel_rfl) (fun _ _ _ h => h) (by decide) (Or.inl ⟨by rfl, ?_⟩) hC hS ?_
          rotate_left
          · (intro W ⟨hf, hc⟩; have hc := hc rfl; go_simp; first | done | with_reducible rfl)
          clear hS hC
          intro hS hC
          try simp only [Act.put]
          refine wpG_take (i := 2) (v := ?_) rfl (by kernel_rfl) (by kernel_rfl) (by kernel_rfl) (by kernel_rfl) (fun _ _ _ h => h) (by decide) (Or.inl ⟨by rfl, ?_⟩) hC hS ?_
          rotate_left
          · (intro W ⟨hf, hc⟩; have hc := hc rfl; go_simp; first | done | with_reducible rfl)
          clear hS hC
          intro hS hC
          try simp only [Act.put]
          refine wpG_take (i := 3) (v := ?_) rfl (by kernel_rfl) (by kernel_rfl) (by kernel_rfl) (by kernel_rfl) (fun _ _ _ h => h) (by decide) (Or.inl ⟨by rfl, ?_⟩) hC hS ?_
          rotate_left
          · (intro W ⟨hf, hc⟩; have hc := hc rfl; go_simp; first | done | with_reducible rfl)
          clear hS hC
          intro hS hC
          try simp only [Act.put]
          refine wpG_take (i := 4) (v := ?_) rfl (by kernel_rfl) (by kernel_rfl) (by kernel_rfl) (by kernel_rfl) (fun _ _ _ h => h) (by decide) (Or.inl ⟨by rfl, ?_⟩) hC hS ?_
          rotate_left
          · (intro W ⟨hf, hc⟩; have hc := hc rfl; go_simp; first | done | with_reducible rfl)
          clear hS hC
          intro hS hC
          try simp only [Act.put]
          refine wpG_take (i := 5) (v := ?_) rfl (by kernel_rfl) (by kernel_rfl) (by kernel_rfl) (by kernel_rfl) (fun _ _ _ h => h) (by decide) (Or.inl ⟨by rfl, ?_⟩) hC hS ?_
          rotate_left
          · (intro W ⟨hf, hc⟩; have hc := hc rfl; go_simp; first | done | with_reducible rfl)
          clear hS hC
          intro hS hC
          try simp only [Act.put]
          refine wpG_take (i := 6) (v := ?_) rfl (by kernel_rfl) (by kernel_rfl) (by kernel_rfl) (by kernel_rfl) (fun _ _ _ h => h) (by decide) (Or.inl ⟨by rfl, ?_⟩) hC hS ?_
          rotate_left
          · (intro W ⟨hf, hc⟩; have hc := hc rfl; go_simp; first | done | with_reducible rfl)
          clear hS hC
          intro hS hC
          try simp only [Act.put]
          refine wpG_one (i := 7) (by kernel_rfl) rfl hC (fun K hK => ?_)
          go_simp
          refine hK.out _ _ ⟨s0.drew.alloc _, fun _ => ((Fx.refl No _).drew.alloc _).cellF o1 o2 (fun h => h)⟩ (fun hS' hC' => ?_)
          clear hK K hS hC
          have hS := hS'
          have hC := hC'
          clear hS' hC'
          try simp only [Act.put, List.setIfInBounds_toArray, List.set_cons_zero, List.set_cons_succ]
          refine wpG_one (i := 8) (by kernel_rfl) rfl hC (fun K hK => ?_)
          refine step_append_kept rfl (.tmp 37) (.tmp 43) 25 rfl (ob + 1) 36 Try.underlying25 hi hz hs hb rfl (by decide) (.slice so acc.length sc) (acc.length) (icells e3 acc) (by simp [Act.eval]) (HOw.out _ ((Fx.refl No wx).drew.alloc _)) (fun _ => True) (.slice (some ⟨wx.heap.size, 0, none⟩) 1 1) 1 (ints [z, u, r]) (by simp [Act.eval]) (SlV.lit wx.drew 36 #[.int .i64 z, .int .i64 u, .int .i64 r] 3 1 rfl (by unfold maxLen; omega)) (ints_one _) (by omega) (by unfold maxLen; omega) (by omega) (by simp; omega) ?_
          intro v' w2 ho hfx hk3 hb2
          obtain ⟨g, gcap, rfl, hg1, hg2⟩ := ownsRow_pos ho (by omega)
          have hob : ¬ (Value.slice so acc.length sc).ownBlock = some ob := fun e => by have := HVs.out ob e; omega
          obtain ⟨t3, t4⟩ := ((Fx.refl No wx).drew.alloc (.cells #[.int .i64 z, .int .i64 u, .int .i64 r] 36)).cellF o1 o2 (fun h => h)
          obtain ⟨t3, t4⟩ := hfx.cellF t3 t4 hob
          have hS2 : Fx (fun b => (Value.slice so acc.length sc).ownBlock = some b ∨ b = ob) wx w2 := (s0.drew.alloc _).trans (hfx.mono fun _ _ e => .inl e)
          have HA5 := Lib.hid (HX.out.snoc (x := ⟨z, u, r⟩) ((Fx.refl No wx).drew.alloc _) hfx (by simpa [e3] using ho))
          refine hK.out _ _ ⟨hS2, fun _ => ⟨t3, t4⟩⟩ (fun hS' hC' => ?_)
          clear ho hfx hk3 hb2
          clear hK K hS hC
          have hS := hS'
          have hC := hC'
          clear hS' hC'
          try simp only [Act.put, List.setIfInBounds_toArray]
          refine wpG_take (i := 9) (v := ?_) rfl (by kernel_rfl) (by kernel_rfl) (by kernel_rfl) (by kernel_rfl) (fun _ _ _ h => h) (by decide) (Or.inl ⟨by rfl, ?_⟩) hC hS ?_
          rotate_left
          · (intro W ⟨hf, hc⟩; have hc := hc rfl; go_simp; first | done | with_reducible rfl)
          clear hS hC
          intro hS hC
          try simp only [Act.put]
          refine wpG_one (i := 10) (by kernel_rfl) rfl hC (fun K hK => ?_)
          go_simp
          refine hK.out _ _ ⟨Fx.setCell hS2 (a := ⟨ob, 1, none⟩) (.inr (.inr rfl)) _, fun h => absurd h (by decide +kernel)⟩ (fun _ _ => ?_)
          clear hK K hS hC
          refine wpG_done (by kernel_rfl) ?_ _
          clear o1 o2 t3 t4 hS2 s0 g0 g3 g4 g5
          go_wp2
          go_roundw
          case rel => exact ⟨k + 1, _, by go_num, by omega, by rw [HNx.out], by rw [HNx.out]; exact HA5.out⟩
          case measure => simp [intOf]; omega
    · skip
      obtain rfl : k = L.length := by omega
      rw [List.take_length] at HSt
      have HR : Hid (withL ⟨x, y, s⟩ L = if d = true then acc else acc ++ [(⟨x, y, s⟩ : Ed)]) := Lib.hid (by rw [withL, HSt.out])
      clear e0 e1 e2 o1 o2 hlo
      cases d
      · skip
        have HR : Hid (withL ⟨x, y, s⟩ L = acc ++ [(⟨x, y, s⟩ : Ed)]) := Lib.hid (by rw [HR.out]; simp)
        obtain ⟨q0', f0'⟩ := HA.out.fx.cellF HQ0.out HF0.out (fun h => h)
        obtain ⟨q1', f1'⟩ := HA.out.fx.cellF HQ1.out HFf1.out (fun h => h)
        have o0' := HA.out.o0
        have HX2 : Hid (∀ w2, Fx (fun b => (Value.slice so acc.length sc).ownBlock = some b) (wr.alloc (.cells #[.int .i64 x, .int .i64 y, .int .i64 s] 36)) w2 → (w2.cell? ⟨qb, 0, none⟩ = some (.int .i64 0) ∧ w2.frozen? ⟨qb, 0, none⟩ = false) ∧ (w2.cell? ⟨qb, 1, none⟩ = some (.slice none 0 0) ∧ w2.frozen? ⟨qb, 1, none⟩ = false) ∧ w2.cell? ⟨ob, 0, none⟩ = some (.int .i64 N)) := Lib.hid fun w2 hfx => by
          have n1 : ¬ (Value.slice so acc.length sc).ownBlock = some qb := fun e => by have := (World.ownsRow.lt HA.out.own qb e).1; omega
          have n2 : ¬ (Value.slice so acc.length sc).ownBlock = some ob := fun e => by have := (World.ownsRow.lt HA.out.own ob e).1; omega
          have al := (Fx.refl No wr).alloc (.cells #[.int .i64 x, .int .i64 y, .int .i64 s] 36)
          obtain ⟨a1, a2⟩ := al.cellF q0' f0' (fun h => h)
          obtain ⟨a3, a4⟩ := al.cellF q1' f1' (fun h => h)
          exact ⟨hfx.cellF a1 a2 n1, hfx.cellF a3 a4 n1, hfx.cell' (al.cell' o0' (fun h => h)) n2⟩
        clear q0' f0' q1' f1' o0'
        have e0' := HA.out.fx.cell' HE0.out (fun h => h)
        have e1' := HA.out.fx.cell' HE1.out (fun h => h)
        have e2' := HA.out.fx.cell' HE2.out (fun h => h)
        obtain ⟨o1, o2⟩ := HA.out.o1
        have hob : ¬ (Value.slice so acc.length sc).ownBlock = some ob := fun e => by have := (World.ownsRow.lt HA.out.own ob e).1; omega
        have hlo9 := HA.out.lo.2
        have HOo := Lib.hid hob
        clear hob
        go_wp2_with (at_builtin; refine wpList_append_kept rfl _ _ 25 rfl (ob + 1) 36 Try.underlying25 hi hz hs hb rfl (by decide) rfl (World.ownsRow.alloc HA.out.own _) rfl (SlV.lit _ 36 #[.int .i64 _, .int .i64 _, .int .i64 _] 3 1 rfl (by unfold maxLen; omega)) (ints_one [_, _, _]) (by omega) (by unfold maxLen; omega) (by omega) (by simp; omega) ?_)
        intro v' w2 ho hfx hk3 hb2
        obtain ⟨ga, gcap, rfl, hg1, hg2⟩ := ownsRow_pos ho (by omega)
        obtain ⟨t3, t4⟩ := ((Fx.refl No wr).alloc (.cells #[.int .i64 x, .int .i64 y, .int .i64 s] 36)).cellF o1 o2 (fun h => h)
        obtain ⟨t3, t4⟩ := hfx.cellF t3 t4 HOo.out
        have HA9 := Lib.hid (HA.out.snoc (x := ⟨x, y, s⟩) ((Fx.refl No wr).alloc _) hfx (by exact ho))
        obtain ⟨⟨q0, f0⟩, ⟨q1, f1⟩, o0⟩ := HX2.out _ hfx
        have hqob : ¬ qb = ob := by omega
        have hobq : ¬ ob = qb := by omega
        clear ho hfx hk3 hb2 hg1 hg2 e0' e1' e2' o1 o2
        have q0k := HA9.out.fx.cellF HQ0.out HF0.out (fun h => h)
        have q1k := HA9.out.fx.cellF HQ1.out HFf1.out (fun h => h)
        obtain ⟨g1, g2, g3, g4⟩ := put_two (w2.setCell ⟨ob, 1, none⟩ (.slice (some ⟨ga, 0, none⟩) (acc.length + 1) gcap)) (qb := qb) (.int .i64 N) (.slice (some ⟨ga, 0, none⟩) (acc.length + 1) gcap) q0k.1 q1k.1
        have HG1 := Lib.hid g1
        have HG2 := Lib.hid g2
        have HG3 := Lib.hid g3
        have HG4 := Lib.hid g4
        have HLo := Lib.hid HA9.out.lo
        clear g1 g2 g3 g4 q0k q1k
        go_wp2
        refine bodyPost_ret (v := .agg #[.int .i64 N, (.slice (some ⟨ga, 0, none⟩) (acc.length + 1) gcap)]) (by have g1 := HG1.out; have g2 := HG2.out; simp [results, Try.results46, go_sem, g1, g2]) rfl ⟨_, rfl, ?_, ?_⟩
        · exact ((HF1.out.trans HA9.out.fx).setCell (.inl hq0) _).setCell (.inl hq0) _
        · rw [HR.out]
          refine RowV.mono (HA9.out.own.row.keep HG3.out fun x hx e => by have h1 := hx.1; have e : x = qb := e; omega) fun x hx => ?_
          have h1 := hx.1
          have h2 := hx.2
          have h3 := HLo.out
          have h4 := HG4.out
          exact ⟨.inr (by omega), by omega⟩
      · skip
        have HR : Hid (withL ⟨x, y, s⟩ L = acc) := Lib.hid (by rw [HR.out]; simp)
        obtain ⟨o1, o2⟩ := HA.out.o1
        obtain ⟨q0, f0⟩ := HA.out.fx.cellF HQ0.out HF0.out (fun h => h)
        obtain ⟨q1, f1⟩ := HA.out.fx.cellF HQ1.out HFf1.out (fun h => h)
        have o0 := HA.out.o0
        obtain ⟨g1, g2, g3, g4⟩ := put_two wr (qb := qb) (.int .i64 N) (.slice so acc.length sc) q0 q1
        have HG1 := Lib.hid g1
        have HG2 := Lib.hid g2
        have HG3 := Lib.hid g3
        have HG4 := Lib.hid g4
        have HLo := Lib.hid HA.out.lo
        clear g1 g2 g3 g4
        go_wp2
        refine bodyPost_ret (v := .agg #[.int .i64 N, (.slice so acc.length sc)]) (by have g1 := HG1.out; have g2 := HG2.out; simp [results, Try.results46, go_sem, g1, g2]) rfl ⟨_, rfl, ?_, ?_⟩
        · exact ((HF1.out.trans HA.out.fx).setCell (.inl hq0) _).setCell (.inl hq0) _
        · rw [HR.out]
          refine RowV.mono (HA.out.own.row.keep HG3.out fun x hx e => by have h1 := hx.1; have e : x = qb := e; omega) fun x hx => ?_
          have h1 := hx.1
          have h2 := hx.2
          have h3 := HLo.out
          have h4 := HG4.out
          exact ⟨.inr (by omega), by omega⟩
end
#print axioms refWith_any
end Go.Proofs.Yteafkafkbipcmaa

namespace Go.Proofs.Yteafkafkbipcmaa
open Go.RowKit
set_option linter.unusedVariables false

theorem delE_len (e : Ed) (L : List Ed) : (delE e L).length ≤ L.length := List.length_filter_le _ _
theorem delE_snoc (e z : Ed) (L : List Ed) : delE e (L ++ [z]) = delE e L ++ if decide (z = e) = true then [] else [z] := by
  unfold delE
  rw [List.filter_append]
  congr 1
  by_cases h : z = e
  · rw [List.filter_cons, if_neg (by simp [h]), if_pos (by simp [h])]; rfl
  · rw [List.filter_cons, if_pos (by simp [h]), if_neg (by simp [h])]; rfl
theorem delE_lt (e : Ed) (L : List Ed) : decide (((delE e L).length : Int) < (L.length : Int)) = decide (e ∈ L) := by
  rw [Bool.eq_iff_iff, decide_eq_true_iff, decide_eq_true_iff]
  constructor
  · intro h
    by_cases hm : e ∈ L
    · exact hm
    · rw [delE_not hm] at h; omega
  · intro h
    have : (delE e L).length < L.length := by
      unfold delE
      rw [List.length_filter_lt_length_iff_exists]
      exact ⟨e, h, by simp⟩
    omega
section
variable {w w' : World} {D S : Nat → Prop} {L : List Ed} {v : Value}
end
end Go.Proofs.Yteafkafkbipcmaa

namespace Go.Proofs.Yteafkafkbipcmaa
open Go.RowKit
set_option linter.unusedVariables false

theorem Fx.weaken {S : Nat → Prop} {w w' : World} (h : Fx No w w') : Fx S w w' := h.mono fun _ _ e => e.elim
/-- behind k edges: the box holds the graph with them -/
structure StA (w w1 ws : World) (D : Nat → Prop) (cb N : Nat) (L xs : List Ed) (k : Nat) (vk : Value) (c : Nat) : Prop where
  fx : Fx (fun j => j = cb) w1 ws
  c0 : ws.cell? ⟨cb, 0, none⟩ = some (.int .i64 (N : Nat)) ∧ ws.frozen? ⟨cb, 0, none⟩ = false
  c1 : ws.cell? ⟨cb, 1, none⟩ = some vk ∧ ws.frozen? ⟨cb, 1, none⟩ = false
  row : EdsV ws (fun j => ((D j ∧ j < w.heap.size) ∨ w1.heap.size ≤ j) ∧ j < ws.heap.size) vk (addL L (xs.take k))
  cnt : c + L.length = (addL L (xs.take k)).length
section
variable {w w' : World} {D S E : Nat → Prop} {L xs : List Ed} {v u : Value}
set_option maxRecDepth 100000 in
set_option maxHeartbeats 4000000 in
theorem refAdd_no (h : EdsV w D v L) (hx : EdsV w E u xs) (N : Nat) (hbad : xs.any (badE N) = true) : Calls Try.prog 29 #[.agg #[.int .i64 (N : Nat), v], u] w fun e w' => e = .returned (.tuple #[.agg #[.int .i64 (N : Nat), v], .int .i64 0, .int .i64 130]) ∧ Fx No w w' := by
  have HB := Lib.hid hbad
  clear hbad
  have H := Lib.hid h.bound
  have HX := Lib.hid hx
  obtain ⟨ao, cap, rfl, _, _, _⟩ := h.facts
  obtain ⟨bo, bcap, rfl, _, _, hc'⟩ := hx.facts
  have HC' := Lib.hid hc'
  clear h hx hc'
  go_enter Try.func29, Try.ntmps29
  go_wp2_with fail
  refine wp_hold (fun W => Fx No w W ∧ W.heap.size = w.heap.size + 1 + 1 ∧ W.cell? ⟨w.heap.size, 0, none⟩ = some (.int .i64 (N : Nat)) ∧ W.frozen? ⟨w.heap.size, 0, none⟩ = false ∧ W.cell? ⟨w.heap.size, 1, none⟩ = some (.slice ao L.length cap) ∧ W.frozen? ⟨w.heap.size, 1, none⟩ = false ∧
    (W.cell? ⟨w.heap.size + 1, 0, none⟩ = some (.int .i64 0) ∧ W.frozen? ⟨w.heap.size + 1, 0, none⟩ = false) ∧ (W.cell? ⟨w.heap.size + 1, 1, none⟩ = some (.slice none 0 0) ∧ W.frozen? ⟨w.heap.size + 1, 1, none⟩ = false))
    ⟨((Fx.refl No w).alloc _).alloc _, by simp, by go_simp, by go_simp, by go_simp, by go_simp, ⟨by go_simp, by go_simp⟩, ⟨by go_simp, by go_simp⟩⟩ ?_
  rintro w1 ⟨hF1, hz1, c0, f0, c1, f1, ⟨q0, p0⟩, ⟨q1, p1⟩⟩
  obtain ⟨cb, hcb⟩ : ∃ e, e = w.heap.size := ⟨_, rfl⟩
  rw [← hcb] at hz1 c0 c1 f0 f1 q0 q1 p0 p1 ⊢
  obtain ⟨rb, hrb⟩ : ∃ e, e = cb + 1 := ⟨_, rfl⟩
  rw [← hrb] at hz1 q0 q1 p0 p1 ⊢
  have hcr : ¬ cb = rb := by omega
  have hrc : ¬ rb = cb := by omega
  have hcw : w.heap.size ≤ cb := by omega
  have hrw : w.heap.size ≤ rb := by omega
  have hc1 : cb < w1.heap.size := by omega
  have hr1 : rb < w1.heap.size := by omega
  have HF1 := Lib.hid hF1
  have HC0 := Lib.hid c0
  have HC1 := Lib.hid c1
  have HG0 := Lib.hid f0
  have HG1 := Lib.hid f1
  have HQ0 := Lib.hid q0
  have HQ1 := Lib.hid q1
  have HP0 := Lib.hid p0
  have HP1 := Lib.hid p1
  clear hcb hF1 hz1 hrb c0 c1 f0 f1 q0 q1 p0 p1
  go_loopw [7] (fun i ws => ∃ k : Nat, i = .int .i64 k ∧ k ≤ xs.length ∧ Fx No w1 ws ∧ ∀ j, j < k → badE N (gt xs j) = false) (fun i _ => xs.length - (intOf i).toNat)
  case atStart => exact ⟨0, rfl, Nat.zero_le _, Fx.refl _ _, fun j hj => by omega⟩
  case round =>
    obtain ⟨k, rfl, hk, hf, hq⟩ := hrel
    have HF := Lib.hid hf
    have HQq := Lib.hid hq
    have c0 := hf.cell' HC0.out (fun h => h)
    have c1 := hf.cell' HC1.out (fun h => h)
    clear hf hq
    by_cases hlt : k < xs.length
    · obtain ⟨b2, o2, rfl, _, e0, e1, e2⟩ := HC'.out k hlt
      have e0 := HF.out.cell' (HF1.out.cell' e0 (fun h => h)) (fun h => h)
      have e1 := HF.out.cell' (HF1.out.cell' e1 (fun h => h)) (fun h => h)
      clear e2
      have HM := Lib.hid (gt_mem hlt)
      obtain ⟨x, hx⟩ : ∃ x, x = gt xs k := ⟨_, rfl⟩
      rw [← hx] at e0 e1 HM
      have HXk := Lib.hid hx
      have hlt0 : (0 : Int) ≤ (k : Int) := by omega
      have hlt1 : (k : Int) < (xs.length : Int) := by omega
      clear hx
      by_cases h0 : x.f < 0
      · have d0 : decide (x.f < 0) = true := decide_eq_true h0
        clear HM
        go_wp2_with fail
        go_quiet (fail)
        all_goals
          have HFy : Hid (Fx No w1 (wr.drewN nq)) := Lib.hid (HF.out.drewN nq)
          generalize wr.drewN nq = wy at *
          have c0 := HFy.out.cell' HC0.out (fun h => h)
          have c1 := HFy.out.cell' HC1.out (fun h => h)
          obtain ⟨q0, p0⟩ := HFy.out.cellF HQ0.out HP0.out (fun h => h)
          obtain ⟨q1, p1⟩ := HFy.out.cellF HQ1.out HP1.out (fun h => h)
          obtain ⟨g1, g2, g3, g4⟩ := put_two wy (qb := rb) (.int .i64 (N : Nat)) (.slice ao L.length cap) q0 q1
          have HH0 : Hid ((wy.setCell ⟨rb, 0, none⟩ (.int .i64 (N : Nat))).cell? ⟨rb, 0, none⟩ = some (.int .i64 (N : Nat))) := Lib.hid (World.cell?_setCell_same _ _ _ q0)
          have HH1 := Lib.hid g1
          have HH2 := Lib.hid g2
          clear g1 g2 g3 g4
          go_wp2
          refine bodyPost_ret (v := .tuple #[.agg #[.int .i64 (N : Nat), .slice ao L.length cap], .int .i64 0, .int .i64 130]) (by have g0 := HH0.out; have g1 := HH1.out; have g2 := HH2.out; simp [results, Try.results29, go_sem, g1, g2]) rfl ⟨rfl, ?_⟩
          exact ((HF1.out.trans HFy.out).setCell (.inl hrw) _).setCell (.inl hrw) _
      by_cases h1 : (N : Int) ≤ x.f
      · have d0 : decide (x.f < 0) = false := decide_eq_false h0
        have d1 : decide ((N : Int) ≤ x.f) = true := decide_eq_true h1
        clear HM
        go_wp2_with fail
        go_quiet (fail)
        all_goals
          have HFy : Hid (Fx No w1 (wr.drewN nq)) := Lib.hid (HF.out.drewN nq)
          generalize wr.drewN nq = wy at *
          have c0 := HFy.out.cell' HC0.out (fun h => h)
          have c1 := HFy.out.cell' HC1.out (fun h => h)
          obtain ⟨q0, p0⟩ := HFy.out.cellF HQ0.out HP0.out (fun h => h)
          obtain ⟨q1, p1⟩ := HFy.out.cellF HQ1.out HP1.out (fun h => h)
          obtain ⟨g1, g2, g3, g4⟩ := put_two wy (qb := rb) (.int .i64 (N : Nat)) (.slice ao L.length cap) q0 q1
          have HH0 : Hid ((wy.setCell ⟨rb, 0, none⟩ (.int .i64 (N : Nat))).cell? ⟨rb, 0, none⟩ = some (.int .i64 (N : Nat))) := Lib.hid (World.cell?_setCell_same _ _ _ q0)
          have HH1 := Lib.hid g1
          have HH2 := Lib.hid g2
          clear g1 g2 g3 g4
          go_wp2
          refine bodyPost_ret (v := .tuple #[.agg #[.int .i64 (N : Nat), .slice ao L.length cap], .int .i64 0, .int .i64 130]) (by have g0 := HH0.out; have g1 := HH1.out; have g2 := HH2.out; simp [results, Try.results29, go_sem, g1, g2]) rfl ⟨rfl, ?_⟩
          exact ((HF1.out.trans HFy.out).setCell (.inl hrw) _).setCell (.inl hrw) _
      by_cases h2 : x.t < 0
      · have d0 : decide (x.f < 0) = false := decide_eq_false h0
        have d1 : decide ((N : Int) ≤ x.f) = false := decide_eq_false h1
        have d2 : decide (x.t < 0) = true := decide_eq_true h2
        clear HM
        go_wp2_with fail
        go_quiet (fail)
        all_goals
          have HFy : Hid (Fx No w1 (wr.drewN nq)) := Lib.hid (HF.out.drewN nq)
          generalize wr.drewN nq = wy at *
          have c0 := HFy.out.cell' HC0.out (fun h => h)
          have c1 := HFy.out.cell' HC1.out (fun h => h)
          obtain ⟨q0, p0⟩ := HFy.out.cellF HQ0.out HP0.out (fun h => h)
          obtain ⟨q1, p1⟩ := HFy.out.cellF HQ1.out HP1.out (fun h => h)
          obtain ⟨g1, g2, g3, g4⟩ := put_two wy (qb := rb) (.int .i64 (N : Nat)) (.slice ao L.length cap) q0 q1
          have HH0 : Hid ((wy.setCell ⟨rb, 0, none⟩ (.int .i64 (N : Nat))).cell? ⟨rb, 0, none⟩ = some (.int .i64 (N : Nat))) := Lib.hid (World.cell?_setCell_same _ _ _ q0)
          have HH1 := Lib.hid g1
          have HH2 := Lib.hid g2
          clear g1 g2 g3 g4
          go_wp2
          refine bodyPost_ret (v := .tuple #[.agg #[.int .i64 (N : Nat), .slice ao L.length cap], .int .i64 0, .int .i64 130]) (by have g0 := HH0.out; have g1 := HH1.out; have g2 := HH2.out; simp [results, Try.results29, go_sem, g1, g2]) rfl ⟨rfl, ?_⟩
          exact ((HF1.out.trans HFy.out).setCell (.inl hrw) _).setCell (.inl hrw) _
      by_cases h3 : (N : Int) ≤ x.t
      · have d0 : decide (x.f < 0) = false := decide_eq_false h0
        have d1 : decide ((N : Int) ≤ x.f) = false := decide_eq_false h1
        have d2 : decide (x.t < 0) = false := decide_eq_false h2
        have d3 : decide ((N : Int) ≤ x.t) = true := decide_eq_true h3
        clear HM
        go_wp2_with fail
        go_quiet (fail)
        all_goals
          have HFy : Hid (Fx No w1 (wr.drewN nq)) := Lib.hid (HF.out.drewN nq)
          generalize wr.drewN nq = wy at *
          have c0 := HFy.out.cell' HC0.out (fun h => h)
          have c1 := HFy.out.cell' HC1.out (fun h => h)
          obtain ⟨q0, p0⟩ := HFy.out.cellF HQ0.out HP0.out (fun h => h)
          obtain ⟨q1, p1⟩ := HFy.out.cellF HQ1.out HP1.out (fun h => h)
          obtain ⟨g1, g2, g3, g4⟩ := put_two wy (qb := rb) (.int .i64 (N : Nat)) (.slice ao L.length cap) q0 q1
          have HH0 : Hid ((wy.setCell ⟨rb, 0, none⟩ (.int .i64 (N : Nat))).cell? ⟨rb, 0, none⟩ = some (.int .i64 (N : Nat))) := Lib.hid (World.cell?_setCell_same _ _ _ q0)
          have HH1 := Lib.hid g1
          have HH2 := Lib.hid g2
          clear g1 g2 g3 g4
          go_wp2
          refine bodyPost_ret (v := .tuple #[.agg #[.int .i64 (N : Nat), .slice ao L.length cap], .int .i64 0, .int .i64 130]) (by have g0 := HH0.out; have g1 := HH1.out; have g2 := HH2.out; simp [results, Try.results29, go_sem, g1, g2]) rfl ⟨rfl, ?_⟩
          exact ((HF1.out.trans HFy.out).setCell (.inl hrw) _).setCell (.inl hrw) _
      have d0 : decide (x.f < 0) = false := decide_eq_false h0
      have d1 : decide ((N : Int) ≤ x.f) = false := decide_eq_false h1
      have d2 : decide (x.t < 0) = false := decide_eq_false h2
      have d3 : decide ((N : Int) ≤ x.t) = false := decide_eq_false h3
      have hbd : badE N x = false := by unfold badE; simp only [Bool.not_eq_false', Bool.and_eq_true, decide_eq_true_eq]; omega
      have HBd := Lib.hid hbd
      clear hbd
      go_wp2_with fail
      go_quiet (fail)
      all_goals
        go_wp2
        go_roundw
        case rel => exact ⟨k + 1, by go_num, by omega, HF.out.drewN _, fun j hj => by
          by_cases e : j = k
          · subst e; rw [← HXk.out]; exact HBd.out
          · exact HQq.out j (by omega)⟩
        case measure => simp [intOf]; omega
    · exfalso
      obtain ⟨x, hx, hb⟩ := List.any_eq_true.1 HB.out
      obtain ⟨i, hi, e⟩ := List.getElem_of_mem hx
      have := HQq.out i (by omega)
      rw [show gt xs i = x by rw [← e]; simp [gt, hi]] at this
      rw [this] at hb
      cases hb
set_option maxRecDepth 100000 in
set_option maxHeartbeats 4000000 in
theorem refAdd_any (h : EdsV w D v L) (ha : Asc L) (hx : EdsV w E u xs) (N : Nat) (hgood : xs.any (badE N) = false) (hl : L.length + xs.length ≤ 1000000) : Calls Try.prog 29 #[.agg #[.int .i64 (N : Nat), v], u] w fun e w' => ∃ (v' : Value) (c : Nat), e = .returned (.tuple #[.agg #[.int .i64 (N : Nat), v'], .int .i64 (c : Nat), .int .i64 0]) ∧ c + L.length = (addL L xs).length ∧ Fx No w w' ∧ EdsV w' (fun k => (D k ∨ w.heap.size ≤ k) ∧ k < w'.heap.size) v' (addL L xs) := by
  have H := Lib.hid h.bound
  have HX := Lib.hid hx
  obtain ⟨ao, cap, rfl, _, _, _⟩ := h.facts
  obtain ⟨bo, bcap, rfl, _, _, hc'⟩ := hx.facts
  have HC' := Lib.hid hc'
  have HGd := Lib.hid hgood
  have HA := Lib.hid ha
  clear h hx hc'
  go_enter Try.func29, Try.ntmps29
  go_wp2_with fail
  refine wp_hold (fun W => Fx No w W ∧ W.heap.size = w.heap.size + 1 + 1 ∧ W.cell? ⟨w.heap.size, 0, none⟩ = some (.int .i64 (N : Nat)) ∧ W.frozen? ⟨w.heap.size, 0, none⟩ = false ∧ W.cell? ⟨w.heap.size, 1, none⟩ = some (.slice ao L.length cap) ∧ W.frozen? ⟨w.heap.size, 1, none⟩ = false ∧
    (W.cell? ⟨w.heap.size + 1, 0, none⟩ = some (.int .i64 0) ∧ W.frozen? ⟨w.heap.size + 1, 0, none⟩ = false) ∧ (W.cell? ⟨w.heap.size + 1, 1, none⟩ = some (.slice none 0 0) ∧ W.frozen? ⟨w.heap.size + 1, 1, none⟩ = false))
    ⟨((Fx.refl No w).alloc _).alloc _, by simp, by go_simp, by go_simp, by go_simp, by go_simp, ⟨by go_simp, by go_simp⟩, ⟨by go_simp, by go_simp⟩⟩ ?_
  rintro w1 ⟨hF1, hz1, c0, f0, c1, f1, ⟨q0, p0⟩, ⟨q1, p1⟩⟩
  obtain ⟨cb, hcb⟩ : ∃ e, e = w.heap.size := ⟨_, rfl⟩
  rw [← hcb] at hz1 c0 c1 f0 f1 q0 q1 p0 p1 ⊢
  obtain ⟨rb, hrb⟩ : ∃ e, e = cb + 1 := ⟨_, rfl⟩
  rw [← hrb] at hz1 q0 q1 p0 p1 ⊢
  have hcr : ¬ cb = rb := by omega
  have hrc : ¬ rb = cb := by omega
  have hcw : w.heap.size ≤ cb := by omega
  have hrw : w.heap.size ≤ rb := by omega
  have hc1 : cb < w1.heap.size := by omega
  have hr1 : rb < w1.heap.size := by omega
  have HF1 := Lib.hid hF1
  have HC0 := Lib.hid c0
  have HC1 := Lib.hid c1
  have HG0 := Lib.hid f0
  have HG1 := Lib.hid f1
  have HQ0 := Lib.hid q0
  have HQ1 := Lib.hid q1
  have HP0 := Lib.hid p0
  have HP1 := Lib.hid p1
  clear hcb hF1 hz1 hrb c0 c1 f0 f1 q0 q1 p0 p1
  go_loopw [7] (fun i ws => ∃ k : Nat, i = .int .i64 k ∧ k ≤ xs.length ∧ Fx No w1 ws ∧ ∀ j, j < k → badE N (gt xs j) = false) (fun i _ => xs.length - (intOf i).toNat)
  case atStart => exact ⟨0, rfl, Nat.zero_le _, Fx.refl _ _, fun j hj => by omega⟩
  case round =>
    obtain ⟨k, rfl, hk, hf, hq⟩ := hrel
    have HF := Lib.hid hf
    have HQq := Lib.hid hq
    have c0 := hf.cell' HC0.out (fun h => h)
    have c1 := hf.cell' HC1.out (fun h => h)
    clear hf hq
    by_cases hlt : k < xs.length
    · obtain ⟨b2, o2, rfl, _, e0, e1, e2⟩ := HC'.out k hlt
      have e0 := HF.out.cell' (HF1.out.cell' e0 (fun h => h)) (fun h => h)
      have e1 := HF.out.cell' (HF1.out.cell' e1 (fun h => h)) (fun h => h)
      clear e2
      have HM := Lib.hid (gt_mem hlt)
      obtain ⟨x, hx⟩ : ∃ x, x = gt xs k := ⟨_, rfl⟩
      rw [← hx] at e0 e1 HM
      have HXk := Lib.hid hx
      have hlt0 : (0 : Int) ≤ (k : Int) := by omega
      have hlt1 : (k : Int) < (xs.length : Int) := by omega
      clear hx
      have hb1 := List.any_eq_false.1 HGd.out x HM.out
      have hb2 : badE N x = false := by simpa using hb1
      obtain ⟨⟨l0, l1⟩, l2, l3⟩ : (0 ≤ x.f ∧ x.f < (N : Int)) ∧ 0 ≤ x.t ∧ x.t < (N : Int) := by simpa [badE] using hb2
      have h0 : ¬ x.f < 0 := by omega
      have h1 : ¬ (N : Int) ≤ x.f := by omega
      have h2 : ¬ x.t < 0 := by omega
      have h3 : ¬ (N : Int) ≤ x.t := by omega
      have d0 : decide (x.f < 0) = false := decide_eq_false h0
      have d1 : decide ((N : Int) ≤ x.f) = false := decide_eq_false h1
      have d2 : decide (x.t < 0) = false := decide_eq_false h2
      have d3 : decide ((N : Int) ≤ x.t) = false := decide_eq_false h3
      have hbd : badE N x = false := hb2
      have HBd := Lib.hid hbd
      clear hbd hb1 hb2 l0 l1 l2 l3
      go_wp2_with fail
      go_quiet (fail)
      all_goals
        go_wp2
        go_roundw
        case rel => exact ⟨k + 1, by go_num, by omega, HF.out.drewN _, fun j hj => by
          by_cases e : j = k
          · subst e; rw [← HXk.out]; exact HBd.out
          · exact HQq.out j (by omega)⟩
        case measure => simp [intOf]; omega
    · obtain rfl : k = xs.length := by omega
      clear HQq c0 c1
      go_wp2_with fail
      refine wp_hold (fun W => ∃ (vk : Value) (c : Nat), StA w w1 W D cb N L xs 0 vk c ∧ c = 0 ∧ vk = .slice ao L.length cap) ?st ?_
      case st =>
        refine ⟨_, 0, ⟨(HF.out.weaken : Fx (fun j => j = cb) w1 wr), HF.out.cellF HC0.out HG0.out (fun h => h), HF.out.cellF HC1.out HG1.out (fun h => h), ?_, by simp [addL]⟩, rfl, rfl⟩
        exact (H.out.no (HF1.out.trans HF.out)).mono fun j hj => ⟨.inl hj, by have := hj.2; have := HF1.out.size; have := HF.out.size; omega⟩
      rintro w2 ⟨vk, c, hst, rfl, rfl⟩
      have HST := Lib.hid hst
      clear hst HF
      go_loopw [8, 9] (fun m i ws => ∃ (k : Nat) (vk : Value) (c : Nat), i = .int .i64 k ∧ m = .int .i64 c ∧ k ≤ xs.length ∧ StA w w1 ws D cb N L xs k vk c) (fun _ i _ => xs.length - (intOf i).toNat)
      case atStart => exact ⟨0, _, 0, rfl, rfl, Nat.zero_le _, HST.out⟩
      case round =>
        clear HST
        obtain ⟨k, vk, c, rfl, rfl, hk, hst⟩ := hrel
        have hal := addL_len L (xs.take k)
        rw [List.length_take] at hal
        have hcn := hst.cnt
        obtain ⟨acc, hacc⟩ : ∃ a, a = addL L (xs.take k) := ⟨_, rfl⟩
        obtain ⟨so, sc, rfl, _, _, _⟩ := EdsV.facts hst.row
        rw [← hacc] at hal hcn
        have hcb3 : c ≤ 1000000 := by omega
        have hac3 : acc.length ≤ 1000000 := by omega
        have HAc := Lib.hid hacc
        have HST := Lib.hid hst
        have c0 := hst.c0
        have c1 := hst.c1
        obtain ⟨c0, f0⟩ := c0
        obtain ⟨c1, f1⟩ := c1
        rw [← hacc] at c1
        have hsz := hst.fx.size
        clear hst hacc hal
        by_cases hlt : k < xs.length
        · obtain ⟨b2, o2, rfl, _, e0, e1, e2⟩ := HC'.out k hlt
          have hb2 := World.block_lt_of_cell? w _ e0
          have hb2 : b2 < w.heap.size := hb2
          have hnb : ¬ b2 = cb := by omega
          have e0 := HST.out.fx.cell' (HF1.out.cell' e0 (fun h => h)) hnb
          have e1 := HST.out.fx.cell' (HF1.out.cell' e1 (fun h => h)) hnb
          have e2 := HST.out.fx.cell' (HF1.out.cell' e2 (fun h => h)) hnb
          have HTk : Hid (addL L (xs.take (k + 1)) = insE (gt xs k) acc) := Lib.hid (by rw [take_gt hlt, addL_snoc, ← HAc.out])
          have HAa : Hid (Asc acc) := Lib.hid (by rw [HAc.out]; exact addL_asc HA.out _)
          obtain ⟨x, hx⟩ : ∃ x, x = gt xs k := ⟨_, rfl⟩
          rw [← hx] at e0 e1 e2 HTk
          obtain ⟨xf, xt, xl⟩ := x
          simp only at e0 e1 e2
          have HRo : Hid (EdsV wr (fun j => ((D j ∧ j < w.heap.size) ∨ w1.heap.size ≤ j) ∧ j < wr.heap.size) (.slice so acc.length sc) acc) := Lib.hid (by have := HST.out.row; rw [← HAc.out] at this; exact this)
          obtain ⟨t, ht⟩ : ∃ t, t = decide ((⟨xf, xt, xl⟩ : Ed) ∈ acc) := ⟨_, rfl⟩
          have HT := Lib.hid ht
          have CH : Hid (∀ W, Fx No wr W → Calls Try.prog 45 #[.agg #[.int .i64 (N : Nat), .slice so acc.length sc], .agg #[.int .i64 xf, .int .i64 xt, .int .i64 xl]] W fun e w' => e = .returned (.bool t) ∧ Fx No W w') := Lib.hid fun W hf => by rw [ht]; exact refHas_any (HRo.out.no hf) (N : Int) ⟨xf, xt, xl⟩
          have g0 : ∀ W, Fx No wr W → W.cell? ⟨cb, 0, none⟩ = some (.int .i64 (N : Nat)) := fun W h => h.cell' c0 (fun h => h)
          have g1 : ∀ W, Fx No wr W → W.cell? ⟨cb, 1, none⟩ = some (.slice so acc.length sc) := fun W h => h.cell' c1 (fun h => h)
          have g2 : ∀ W, Fx No wr W → W.cell? ⟨b2, o2 + k * 3, none⟩ = some (.int .i64 xf) := fun W h => h.cell' e0 (fun h => h)
          have g3 : ∀ W, Fx No wr W → W.cell? ⟨b2, o2 + k * 3 + 1, none⟩ = some (.int .i64 xt) := fun W h => h.cell' e1 (fun h => h)
          have g4 : ∀ W, Fx No wr W → W.cell? ⟨b2, o2 + k * 3 + 2, none⟩ = some (.int .i64 xl) := fun W h => h.cell' e2 (fun h => h)
          have s0 : Fx No wr wr := Fx.refl _ _
          have hlt0 : (0 : Int) ≤ (k : Int) := by omega
          have hlt1 : (k : Int) < (xs.length : Int) := by omega
          have HE0 := Lib.hid e0
          have HE1 := Lib.hid e1
          have HE2 := Lib.hid e2
          have HK0 := Lib.hid c0
          have HK1 := Lib.hid c1
          have HK2 := Lib.hid f0
          have HK3 := Lib.hid f1
          clear hx ht e0 e1 e2 c0 c1 f0 f1
          go_wp2_with fail
          refine wp_region_H (fun W => Fx No wr W) (by kernel_rfl) s0.drew ?_
          intro hS
          refine wpAnyH_take (i := 0) (v := ?_) rfl (by kernel_rfl) (by kernel_rfl) (by kernel_rfl) (fun _ _ _ h => h) (Or.inl ⟨by rfl, ?_⟩) hS ?_
          rotate_left
          · (intro W hs; go_simp; first | done | with_reducible rfl)
          try simp only [Act.put, List.getElem_toArray, List.getElem_cons_zero, List.setIfInBounds_toArray, List.set_cons_zero, List.set_cons_succ]
          refine wpAnyH_take (i := 1) (v := ?_) rfl (by kernel_rfl) (by kernel_rfl) (by kernel_rfl) (fun _ _ _ h => h) (Or.inl ⟨by rfl, ?_⟩) hS ?_
          rotate_left
          · (intro W hs; go_simp; first | done | with_reducible rfl)
          try simp only [Act.put, List.getElem_toArray, List.getElem_cons_zero, List.getElem_cons_succ, List.setIfInBounds_toArray, List.set_cons_zero, List.set_cons_succ]
          refine wpAnyH_take (i := 2) (v := ?_) rfl (by kernel_rfl) (by kernel_rfl) (by kernel_rfl) (fun _ _ _ h => h) (Or.inl ⟨by rfl, ?_⟩) hS ?_
          rotate_left
          · (intro W hs; go_simp; first | done | with_reducible rfl)
          try simp only [Act.put, List.getElem_toArray, List.getElem_cons_zero, List.getElem_cons_succ, List.setIfInBounds_toArray, List.set_cons_zero, List.set_cons_succ]
          refine wpAnyH_take (i := 3) (v := ?_) rfl (by kernel_rfl) (by kernel_rfl) (by kernel_rfl) (fun _ _ _ h => h) (Or.inl ⟨by rfl, ?_⟩) hS ?_
          rotate_left
          · (intro W hs; go_simp; first | done | with_reducible rfl)
          try simp only [Act.put, List.getElem_toArray, List.getElem_cons_zero, List.getElem_cons_succ, List.setIfInBounds_toArray, List.set_cons_zero, List.set_cons_succ]
          refine wpAnyH_take (i := 4) (v := ?_) rfl (by kernel_rfl) (by kernel_rfl) (by kernel_rfl) (fun _ _ _ h => h) (Or.inl ⟨by rfl, ?_⟩) hS ?_
          rotate_left
          · (intro W hs; go_simp; first | done | with_reducible rfl)
          try simp only [Act.put, List.getElem_toArray, List.getElem_cons_zero, List.getElem_cons_succ, List.setIfInBounds_toArray, List.set_cons_zero, List.set_cons_succ]
          refine wpH_one (i := 5) (by kernel_rfl) rfl (fun K hK => ?_)
          go_simp
          refine (CH.out _ hS).mono ?_
          rintro e w' ⟨rfl, hfi⟩
          refine hK.out _ _ (hS.trans hfi) (fun hS' => ?_)
          clear hK K hS hfi
          have hS := hS'
          clear hS'
          try simp only [Act.put, List.getElem_toArray, List.getElem_cons_zero, List.getElem_cons_succ, List.setIfInBounds_toArray, List.set_cons_zero, List.set_cons_succ]
          refine wpAnyH_take (i := 6) (v := ?_) rfl (by kernel_rfl) (by kernel_rfl) (by kernel_rfl) (fun _ _ _ h => h) (Or.inl ⟨by rfl, ?_⟩) hS ?_
          rotate_left
          · (intro W hs; go_simp; first | done | with_reducible rfl)
          try simp only [Act.put, List.getElem_toArray, List.getElem_cons_zero, List.getElem_cons_succ, List.setIfInBounds_toArray, List.set_cons_zero, List.set_cons_succ]
          refine wpAnyH_done (by kernel_rfl) ?_ _
          have HS3 := Lib.hid hS
          clear g0 g1 g2 g3 g4 s0 hS CH
          cases t
          · have hni : (⟨xf, xt, xl⟩ : Ed) ∉ acc := of_decide_eq_false HT.out.symm
            have HNi := Lib.hid hni
            clear hni
            go_wp2_with fail
            refine wp_hold (fun W => Fx No wr W) HS3.out ?_
            rintro wx hwx
            have HWx := Lib.hid hwx
            clear hwx HS3
            have CW : Hid (∀ W, Fx No wx W → Calls Try.prog 46 #[.agg #[.int .i64 (N : Nat), .slice so acc.length sc], .agg #[.int .i64 xf, .int .i64 xt, .int .i64 xl]] W (RefG (fun j => ((D j ∧ j < w.heap.size) ∨ w1.heap.size ≤ j) ∧ j < wr.heap.size) (N : Int) (insE ⟨xf, xt, xl⟩ acc) W)) := Lib.hid fun W hf => by rw [← insStE_all HNi.out]; exact refWith_any (HRo.out.no (HWx.out.trans hf)) (N : Int) xf xt xl hac3
            have c0 := HWx.out.cell' HK0.out (fun h => h)
            have c1 := HWx.out.cell' HK1.out (fun h => h)
            have e0 := HWx.out.cell' HE0.out (fun h => h)
            have e1 := HWx.out.cell' HE1.out (fun h => h)
            have e2 := HWx.out.cell' HE2.out (fun h => h)
            have g0 : ∀ W, Fx No wx W → W.cell? ⟨cb, 0, none⟩ = some (.int .i64 (N : Nat)) := fun W h => h.cell' c0 (fun h => h)
            have g1 : ∀ W, Fx No wx W → W.cell? ⟨cb, 1, none⟩ = some (.slice so acc.length sc) := fun W h => h.cell' c1 (fun h => h)
            have g2 : ∀ W, Fx No wx W → W.cell? ⟨b2, o2 + k * 3, none⟩ = some (.int .i64 xf) := fun W h => h.cell' e0 (fun h => h)
            have g3 : ∀ W, Fx No wx W → W.cell? ⟨b2, o2 + k * 3 + 1, none⟩ = some (.int .i64 xt) := fun W h => h.cell' e1 (fun h => h)
            have g4 : ∀ W, Fx No wx W → W.cell? ⟨b2, o2 + k * 3 + 2, none⟩ = some (.int .i64 xl) := fun W h => h.cell' e2 (fun h => h)
            have s0 : Fx No wx wx := Fx.refl _ _
            clear c0 c1 e0 e1 e2
            refine wp_region_G 6 (fun b W => b = false → Fx No wx W) (by kernel_rfl) (fun _ => s0.drew) ?_
            intro hS hC
            refine wpG_take (i := 0) (v := ?_) rfl (by kernel_rfl) (by kernel_rfl) (by kernel_rfl) (by kernel_rfl) (fun _ _ _ h => h) (by decide) (Or.inl ⟨by rfl, ?_⟩) hC hS ?_
            rotate_left
            · (intro W hc; have hf := hc rfl; go_simp; first | done | with_reducible rfl)
            clear hS hC
            intro hS hC
            try simp only [Act.put, List.getElem_toArray, List.getElem_cons_zero, List.setIfInBounds_toArray, List.set_cons_zero, List.set_cons_succ]
            refine wpG_take (i := 1) (v := ?_) rfl (by kernel_rfl) (by kernel_rfl) (by kernel_rfl) (by kernel_rfl) (fun _ _ _ h => h) (by decide) (Or.inl ⟨by rfl, ?_⟩) hC hS ?_
            rotate_left
            · (intro W hc; have hf := hc rfl; go_simp; first | done | with_reducible rfl)
            clear hS hC
            intro hS hC
            try simp only [Act.put, List.getElem_toArray, List.getElem_cons_zero, List.getElem_cons_succ, List.setIfInBounds_toArray, List.set_cons_zero, List.set_cons_succ]
            refine wpG_take (i := 2) (v := ?_) rfl (by kernel_rfl) (by kernel_rfl) (by kernel_rfl) (by kernel_rfl) (fun _ _ _ h => h) (by decide) (Or.inl ⟨by rfl, ?_⟩) hC hS ?_
            rotate_left
            · (intro W hc; have hf := hc rfl; go_simp; first | done | with_reducible rfl)
            clear hS hC
            intro hS hC
            try simp only [Act.put, List.getElem_toArray, List.getElem_cons_zero, List.getElem_cons_succ, List.setIfInBounds_toArray, List.set_cons_zero, List.set_cons_succ]
            refine wpG_take (i := 3) (v := ?_) rfl (by kernel_rfl) (by kernel_rfl) (by kernel_rfl) (by kernel_rfl) (fun _ _ _ h => h) (by decide) (Or.inl ⟨by rfl, ?_⟩) hC hS ?_
            rotate_left
            · (intro W hc; have hf := hc rfl; go_simp; first | done | with_reducible rfl)
            clear hS hC
            intro hS hC
            try simp only [Act.put, List.getElem_toArray, List.getElem_cons_zero, List.getElem_cons_succ, List.setIfInBounds_toArray, List.set_cons_zero, List.set_cons_succ]
            refine wpG_take (i := 4) (v := ?_) rfl (by kernel_rfl) (by kernel_rfl) (by kernel_rfl) (by kernel_rfl) (fun _ _ _ h => h) (by decide) (Or.inl ⟨by rfl, ?_⟩) hC hS ?_
            rotate_left
            · (intro W hc; have hf := hc rfl; go_simp; first | done | with_reducible rfl)
            clear hS hC
            intro hS hC
            try simp only [Act.put, List.getElem_toArray, List.getElem_cons_zero, List.getElem_cons_succ, List.setIfInBounds_toArray, List.set_cons_zero, List.set_cons_succ]
            refine wpG_one (i := 5) (by kernel_rfl) rfl hC (fun K hK => ?_)
            go_simp
            refine (CW.out _ (hS rfl)).mono ?_
            rintro e w3 ⟨v3, rfl, hfi, hr3⟩
            obtain ⟨ao3, cap3, rfl, _, _, _⟩ := EdsV.facts hr3
            refine hK.out _ _ (fun _ => (hS rfl).trans hfi) (fun hS' hC' => ?_)
            have HF3 : Hid (Fx No wr w3) := Lib.hid (HWx.out.trans ((hS rfl).trans hfi))
            have HR3 := Lib.hid hr3
            obtain ⟨q0, p0⟩ := HF3.out.cellF HK0.out HK2.out (fun h => h)
            obtain ⟨q1, p1⟩ := HF3.out.cellF HK1.out HK3.out (fun h => h)
            clear hK K hS hC hfi hr3 g0 g1 g2 g3 g4 s0 CW
            have hS := hS'
            have hC := hC'
            clear hS' hC'
            try simp only [Act.put, List.getElem_toArray, List.getElem_cons_zero, List.getElem_cons_succ, List.setIfInBounds_toArray, List.set_cons_zero, List.set_cons_succ]
            refine wpG_one (i := 6) (by kernel_rfl) rfl hC (fun K hK => ?_)
            go_simp
            have HSt2 : Hid ((insE ⟨xf, xt, xl⟩ acc).length = acc.length + 1 → StA w w1 ((w3.setCell ⟨cb, 0, none⟩ (.int .i64 (N : Nat))).setCell ⟨cb, 1, none⟩ (.slice ao3 (insE ⟨xf, xt, xl⟩ acc).length cap3)) D cb N L xs (k + 1) (.slice ao3 (insE ⟨xf, xt, xl⟩ acc).length cap3) (c + 1)) := Lib.hid (fun hln => by
              obtain ⟨g1, g2, g3, g4⟩ := put_two w3 (qb := cb) (.int .i64 (N : Nat)) (.slice ao3 (insE ⟨xf, xt, xl⟩ acc).length cap3) q0 q1
              have hsz3 := HF3.out.size
              refine ⟨(HST.out.fx.trans HF3.out.weaken).trans g3, ⟨g1, by simpa using p0⟩, ⟨g2, by simpa using p1⟩, ?_, by rw [HTk.out, hln]; omega⟩
              rw [HTk.out]
              refine RowV.mono (HR3.out.keep g3 fun x hx e => ?_) fun x hx => ?_
              · have e : x = cb := e
                have h1 := hx.1
                have h2 := HWx.out.size
                have h5 : wx.drew.heap.size = wx.heap.size := rfl
                rcases h1 with ⟨⟨_, h⟩ | h, _⟩ | h <;> omega
              · have h1 := hx.1
                have h2 := hx.2
                have h3 := HWx.out.size
                have h5 : wx.drew.heap.size = wx.heap.size := rfl
                rw [g4]
                refine ⟨?_, by omega⟩
                rcases h1 with h | h
                · exact h.1
                · exact .inr (by omega))
            refine hK.out _ _ (fun h => absurd h (by decide +kernel)) (fun _ _ => ?_)
            clear hK K hS hC
            refine wpG_done (by kernel_rfl) ?_ _
            clear q0 p0 q1 p1
            have HLn : Hid ((insE ⟨xf, xt, xl⟩ acc).length = acc.length + 1) := Lib.hid (length_insE HAa.out HNi.out)
            go_wp2
            go_roundw
            case rel => exact ⟨k + 1, _, c + 1, by go_num, by go_num, by omega, HSt2.out HLn.out⟩
            case measure => simp [intOf]; omega
          · have him : (⟨xf, xt, xl⟩ : Ed) ∈ acc := of_decide_eq_true HT.out.symm
            have HSt2 : Hid (StA w w1 w' D cb N L xs (k + 1) (.slice so acc.length sc) c) := Lib.hid (by
              have e : addL L (xs.take (k + 1)) = addL L (xs.take k) := by rw [HTk.out, insE_mem HAa.out him, HAc.out]
              have hs := HST.out
              rw [← HAc.out] at hs
              exact ⟨hs.fx.transNo HS3.out, HS3.out.cellF hs.c0.1 hs.c0.2 (fun h => h), HS3.out.cellF hs.c1.1 hs.c1.2 (fun h => h), by rw [e]; exact (hs.row.no HS3.out).mono fun j hj => ⟨hj.1, by have := hj.2; have := HS3.out.size; omega⟩, by rw [e]; exact hs.cnt⟩)
            clear him
            go_wp2
            go_roundw
            case rel => exact ⟨k + 1, _, c, by go_num, rfl, by omega, HSt2.out⟩
            case measure => simp [intOf]; omega
        · obtain rfl : k = xs.length := by omega
          rw [List.take_length] at HAc
          obtain ⟨q0, p0⟩ := HST.out.fx.cellF HQ0.out HP0.out hrc
          obtain ⟨q1, p1⟩ := HST.out.fx.cellF HQ1.out HP1.out hrc
          obtain ⟨g1, g2, g3, g4⟩ := put_two wr (qb := rb) (.int .i64 (N : Nat)) (.slice so acc.length sc) q0 q1
          have HH1 := Lib.hid g1
          have HH2 := Lib.hid g2
          have HH3 := Lib.hid g3
          have HH4 := Lib.hid g4
          have HRo : Hid (EdsV wr (fun j => ((D j ∧ j < w.heap.size) ∨ w1.heap.size ≤ j) ∧ j < wr.heap.size) (.slice so acc.length sc) acc) := Lib.hid (by have := HST.out.row; rw [List.take_length, ← HAc.out] at this; exact this)
          clear g1 g2 g3 g4
          go_wp2
          refine bodyPost_ret (v := .tuple #[.agg #[.int .i64 (N : Nat), .slice so acc.length sc], .int .i64 (c : Nat), .int .i64 0]) (by have g1 := HH1.out; have g2 := HH2.out; simp [results, Try.results29, go_sem, g1, g2]) rfl ⟨.slice so acc.length sc, c, rfl, by rw [← HAc.out]; exact hcn, ?_, ?_⟩
          · exact ((HF1.out.trans' HST.out.fx fun g e hl => by have e : g = cb := e; omega).setCell (.inl hrw) _).setCell (.inl hrw) _
          · rw [← HAc.out]
            refine RowV.mono (HRo.out.keep HH3.out fun x hx e => by have e : x = rb := e; rcases hx.1 with h | h <;> omega) fun x hx => ?_
            have h2 := hx.2
            have h4 := HH4.out
            have h5 := HF1.out.size
            exact ⟨hx.1.imp (fun h => h.1) fun h => by omega, by omega⟩
end
#print axioms refAdd_no
#print axioms refAdd_any
end Go.Proofs.Yteafkafkbipcmaa

namespace Go.Proofs.Yteafkafkbipcmaa
open Go.RowKit
set_option linter.unusedVariables false

/-- from a node and to another one (-1: any) -/
def someE (fr to : Int) (x : Ed) : Bool := (decide (fr = -1) || decide (x.f = fr)) && (decide (to = -1) || decide (x.t = to))
def nxStep (n : Int) (out : List Int) (x : Ed) : List Int := if x.f = n ∧ (out = [] ∨ gi out (out.length - 1) ≠ x.t) then out ++ [x.t] else out
/-- to whom the edges from n lead, as the reference tells it -/
def nextL (n : Int) (L : List Ed) : List Int := L.foldl (nxStep n) []
theorem nextL_snoc (n : Int) (L : List Ed) (x : Ed) : nextL n (L ++ [x]) = nxStep n (nextL n L) x := by simp [nextL]
theorem nextL_len (n : Int) (L : List Ed) : (nextL n L).length ≤ L.length := by
  suffices h : ∀ (L : List Ed) (a : List Int), (L.foldl (nxStep n) a).length ≤ a.length + L.length by simpa [nextL] using h L []
  intro L
  induction L with
  | nil => intro a; simp
  | cons x xs ih =>
    intro a
    have h1 := ih (nxStep n a x)
    have h2 : (nxStep n a x).length ≤ a.length + 1 := by unfold nxStep; split <;> simp
    rw [List.foldl_cons, List.length_cons]; omega
theorem ints_append (a b : List Int) : ints (a ++ b) = ints a ++ ints b := by simp [ints]
theorem World.ownsRow.drewN {w : World} {B t s : Nat} {v : Value} {n : Nat} {xs : List Value} (h : w.ownsRow B t s v n xs) (q : Nat) : (w.drewN q).ownsRow B t s v n xs := ownsRow_fx h ((Fx.refl No w).drewN q) fun _ _ h => h
section
variable {w w' : World} {D S E : Nat → Prop} {L xs : List Ed} {v u : Value}
set_option maxRecDepth 100000 in
set_option maxHeartbeats 4000000 in
theorem refSome_any (h : EdsV w D v L) (N fr to : Int) (hl : L.length ≤ 1000000) : Calls Try.prog 12 #[.agg #[.int .i64 N, v], .int .i64 fr, .int .i64 to] w fun e w' => ∃ v', e = .returned v' ∧ Fx No w w' ∧ OwnR w' w.heap.size v' (L.filter (someE fr to)) := by
  obtain ⟨ii, hi, hz, hs, hb⟩ := info_parts info_edge13
  have H := Lib.hid h
  obtain ⟨ao, cap, rfl, _, _, hc⟩ := h.facts
  have HC := Lib.hid hc
  clear h hc
  go_enter Try.func12, Try.ntmps12
  go_wp2_with fail
  refine wp_hold (fun W => Fx No w W ∧ W.cell? ⟨w.heap.size, 1, none⟩ = some (.slice ao L.length cap)) ⟨(Fx.refl No w).alloc _, by go_simp⟩ ?_
  rintro w1 ⟨hF1, c1⟩
  obtain ⟨cb, hcb⟩ : ∃ e, e = w.heap.size := ⟨_, rfl⟩
  rw [← hcb] at c1 ⊢
  have HF1 := Lib.hid hF1
  have HC1 := Lib.hid c1
  have z1 := hF1.size
  clear hF1 c1 hcb
  go_loopw [7, 8] (fun l i ws => ∃ k : Nat, i = .int .i64 k ∧ k ≤ L.length ∧ Fx No w1 ws ∧ OwnR ws w1.heap.size l ((L.take k).filter (someE fr to))) (fun _ i _ => L.length - (intOf i).toNat)
  case atStart => exact ⟨0, rfl, Nat.zero_le _, Fx.refl _ _, by simpa using OwnT.nil _ _⟩
  case round =>
    obtain ⟨k, rfl, hk, hf, ho⟩ := hrel
    have HF := Lib.hid hf
    have HO := Lib.hid ho
    have c1 := hf.cell' HC1.out (fun h => h)
    have hzr := hf.size
    clear hf ho
    by_cases hlt : k < L.length
    · obtain ⟨bb, oo, rfl, _, p0, p1, p2⟩ := HC.out k hlt
      have p0 := HF.out.cell' (HF1.out.cell' p0 (fun h => h)) (fun h => h)
      have p1 := HF.out.cell' (HF1.out.cell' p1 (fun h => h)) (fun h => h)
      have p2 := HF.out.cell' (HF1.out.cell' p2 (fun h => h)) (fun h => h)
      have HTk := Lib.hid (take_gt hlt)
      obtain ⟨x, hx⟩ : ∃ x, x = gt L k := ⟨_, rfl⟩
      rw [← hx] at p0 p1 p2 HTk
      obtain ⟨f1, f2, f3⟩ := x
      simp only at p0 p1 p2
      have hk0 : (0 : Int) ≤ (k : Int) := by omega
      have hk1 : (k : Int) < (L.length : Int) := by omega
      clear hx
      obtain ⟨acc, hacc⟩ : ∃ a, a = (L.take k).filter (someE fr to) := ⟨_, rfl⟩
      have hal : acc.length ≤ k := by rw [hacc]; exact Nat.le_trans (List.length_filter_le _ _) (by rw [List.length_take]; omega)
      rw [← hacc] at HO
      have HAc := Lib.hid hacc.symm
      clear hacc
      by_cases c1' : fr = -1
      · have d1 : (fr == -1) = true := by simpa using c1'
        by_cases c3 : to = -1
        · have d3 : (to == -1) = true := by simpa using c3
          have HN : Hid ((L.take (k + 1)).filter (someE fr to) = acc ++ [⟨f1, f2, f3⟩]) := Lib.hid (by rw [HTk.out, List.filter_append, HAc.out]; simp [someE, c1', c3])
          clear c1' c3
          go_wp2_with (at_builtin; refine wpList_append_kept rfl _ _ 25 rfl w1.heap.size 36 Try.underlying25 hi hz hs hb rfl (by decide) rfl (World.ownsRow.alloc HO.out _) rfl (SlV.lit _ 36 #[.int .i64 f1, .int .i64 f2, .int .i64 f3] 3 1 rfl (by unfold maxLen; omega)) (ints_one [_, _, _]) (by omega) (by unfold maxLen; omega) (by omega) (by simp; omega) ?_)
          intro v2 w2 ho hf _ _
          have HO2 : Hid (OwnR w2 w1.heap.size v2 ((L.take (k + 1)).filter (someE fr to))) := Lib.hid (by rw [HN.out]; exact OwnT.snoc ho)
          have HF2 : Hid (Fx No w1 w2) := Lib.hid ((HF.out.alloc _).trans' hf fun j h1 h2 => by have := (OwnT.lt HO.out h1).1; omega)
          clear ho hf
          go_wp2
          go_roundw
          case rel => exact ⟨k + 1, by go_num, by omega, HF2.out, HO2.out⟩
          case measure => simp [intOf]; omega
        · have d3 : (to == -1) = false := by simpa using c3
          by_cases c4 : f2 = to
          · have d4 : (f2 == to) = true := by simpa using c4
            have HN : Hid ((L.take (k + 1)).filter (someE fr to) = acc ++ [⟨f1, f2, f3⟩]) := Lib.hid (by rw [HTk.out, List.filter_append, HAc.out]; simp [someE, c1', c4])
            clear c1' c4
            go_wp2_with (at_builtin; refine wpList_append_kept rfl _ _ 25 rfl w1.heap.size 36 Try.underlying25 hi hz hs hb rfl (by decide) rfl (World.ownsRow.alloc HO.out _) rfl (SlV.lit _ 36 #[.int .i64 f1, .int .i64 f2, .int .i64 f3] 3 1 rfl (by unfold maxLen; omega)) (ints_one [_, _, _]) (by omega) (by unfold maxLen; omega) (by omega) (by simp; omega) ?_)
            intro v2 w2 ho hf _ _
            have HO2 : Hid (OwnR w2 w1.heap.size v2 ((L.take (k + 1)).filter (someE fr to))) := Lib.hid (by rw [HN.out]; exact OwnT.snoc ho)
            have HF2 : Hid (Fx No w1 w2) := Lib.hid ((HF.out.alloc _).trans' hf fun j h1 h2 => by have := (OwnT.lt HO.out h1).1; omega)
            clear ho hf
            go_wp2
            go_roundw
            case rel => exact ⟨k + 1, by go_num, by omega, HF2.out, HO2.out⟩
            case measure => simp [intOf]; omega
          · have d4 : (f2 == to) = false := by simpa using c4
            have HN : Hid ((L.take (k + 1)).filter (someE fr to) = acc) := Lib.hid (by rw [HTk.out, List.filter_append, HAc.out]; simp [someE, c1', c3, c4])
            clear c1' c3 c4
            go_wp2
            go_roundw
            case rel => exact ⟨k + 1, by go_num, by omega, HF.out, by rw [HN.out]; exact HO.out⟩
            case measure => simp [intOf]; omega
      · have d1 : (fr == -1) = false := by simpa using c1'
        by_cases c2 : f1 = fr
        · have d2 : (f1 == fr) = true := by simpa using c2
          by_cases c3 : to = -1
          · have d3 : (to == -1) = true := by simpa using c3
            have HN : Hid ((L.take (k + 1)).filter (someE fr to) = acc ++ [⟨f1, f2, f3⟩]) := Lib.hid (by rw [HTk.out, List.filter_append, HAc.out]; simp [someE, c2, c3])
            clear c2 c3
            go_wp2_with (at_builtin; refine wpList_append_kept rfl _ _ 25 rfl w1.heap.size 36 Try.underlying25 hi hz hs hb rfl (by decide) rfl (World.ownsRow.alloc HO.out _) rfl (SlV.lit _ 36 #[.int .i64 f1, .int .i64 f2, .int .i64 f3] 3 1 rfl (by unfold maxLen; omega)) (ints_one [_, _, _]) (by omega) (by unfold maxLen; omega) (by omega) (by simp; omega) ?_)
            intro v2 w2 ho hf _ _
            have HO2 : Hid (OwnR w2 w1.heap.size v2 ((L.take (k + 1)).filter (someE fr to))) := Lib.hid (by rw [HN.out]; exact OwnT.snoc ho)
            have HF2 : Hid (Fx No w1 w2) := Lib.hid ((HF.out.alloc _).trans' hf fun j h1 h2 => by have := (OwnT.lt HO.out h1).1; omega)
            clear ho hf
            go_wp2
            go_roundw
            case rel => exact ⟨k + 1, by go_num, by omega, HF2.out, HO2.out⟩
            case measure => simp [intOf]; omega
          · have d3 : (to == -1) = false := by simpa using c3
            by_cases c4 : f2 = to
            · have d4 : (f2 == to) = true := by simpa using c4
              have HN : Hid ((L.take (k + 1)).filter (someE fr to) = acc ++ [⟨f1, f2, f3⟩]) := Lib.hid (by rw [HTk.out, List.filter_append, HAc.out]; simp [someE, c2, c4])
              clear c2 c4
              go_wp2_with (at_builtin; refine wpList_append_kept rfl _ _ 25 rfl w1.heap.size 36 Try.underlying25 hi hz hs hb rfl (by decide) rfl (World.ownsRow.alloc HO.out _) rfl (SlV.lit _ 36 #[.int .i64 f1, .int .i64 f2, .int .i64 f3] 3 1 rfl (by unfold maxLen; omega)) (ints_one [_, _, _]) (by omega) (by unfold maxLen; omega) (by omega) (by simp; omega) ?_)
              intro v2 w2 ho hf _ _
              have HO2 : Hid (OwnR w2 w1.heap.size v2 ((L.take (k + 1)).filter (someE fr to))) := Lib.hid (by rw [HN.out]; exact OwnT.snoc ho)
              have HF2 : Hid (Fx No w1 w2) := Lib.hid ((HF.out.alloc _).trans' hf fun j h1 h2 => by have := (OwnT.lt HO.out h1).1; omega)
              clear ho hf
              go_wp2
              go_roundw
              case rel => exact ⟨k + 1, by go_num, by omega, HF2.out, HO2.out⟩
              case measure => simp [intOf]; omega
            · have d4 : (f2 == to) = false := by simpa using c4
              have HN : Hid ((L.take (k + 1)).filter (someE fr to) = acc) := Lib.hid (by rw [HTk.out, List.filter_append, HAc.out]; simp [someE, c2, c3, c4])
              clear c2 c3 c4
              go_wp2
              go_roundw
              case rel => exact ⟨k + 1, by go_num, by omega, HF.out, by rw [HN.out]; exact HO.out⟩
              case measure => simp [intOf]; omega
        · have d2 : (f1 == fr) = false := by simpa using c2
          have HN : Hid ((L.take (k + 1)).filter (someE fr to) = acc) := Lib.hid (by rw [HTk.out, List.filter_append, HAc.out]; simp [someE, c1', c2])
          clear c1' c2
          go_wp2
          go_roundw
          case rel => exact ⟨k + 1, by go_num, by omega, HF.out, by rw [HN.out]; exact HO.out⟩
          case measure => simp [intOf]; omega
    · obtain rfl : k = L.length := by omega
      go_wp2
      go_ret
      refine ⟨_, rfl, HF1.out.trans HF.out, ?_⟩
      have h1 := HO.out
      rw [List.take_length] at h1
      exact h1.base z1
end
#print axioms refSome_any
end Go.Proofs.Yteafkafkbipcmaa
