/- The law BitsPlays: does, at an act of two sets (Less). -/
import Derived.Test.YthbfpcheljaeaaaDoorPlaysC
namespace Go.Proofs.YthbfpcheljaeaaaDoor
open Go.RowKit
set_option linter.unusedVariables false

set_option maxRecDepth 100000 in
set_option maxHeartbeats 4000000 in
theorem doesMany5_any {w : World} {D E F : Nat → Prop} {rv lv mv : Value} {b n X : Nat} (a : ActM) (h : SetIn w D b n X) (hD : ∀ k, D k → k < w.heap.size) (hr : IsR w E rv n X) (hE : ∀ k, E k → ¬ D k) (hEb : ∀ k, E k → k < w.heap.size)
    (hl : IntsV w F lv a.l) (hm : IntsV w F mv a.m) (hT : TabOk w) (hTD : ¬ D 0) (hs : a.s ≤ 400) (hlo : -9223372036854775808 ≤ a.s) (hd : a.d = 5) :
    Calls Tryd.prog 28 #[.pointer (some ⟨b, 0, none⟩), .agg #[rv], .agg #[.int .i64 a.d, .int .i64 a.i, .int .i64 a.s, lv, mv, .bool a.own]] w (DoesR D E w b n (actX n X a)) := by
  have H := Lib.hid h
  have HR := Lib.hid hr
  have HD := Lib.hid hD
  have HE := Lib.hid hE
  have HEb := Lib.hid hEb
  have HL := Lib.hid hl
  have HM := Lib.hid hm
  have HT := Lib.hid hT
  have HTD := Lib.hid hTD
  have HA := Lib.hid (rfl : actX n X a = actX n X a)
  obtain ⟨ro, rcap, rfl, _⟩ := hr.facts
  obtain ⟨lo, lcap, rfl, _, _⟩ := hl.facts
  obtain ⟨mo, mcap, rfl, _, _⟩ := hm.facts
  have hB := BoxOk.made w (.slice ro n rcap) (.slice lo a.l.length lcap) (.slice mo a.m.length mcap) a
  have hfx : Fx No w (((w.alloc (.cells #[.slice ro n rcap] 28)).alloc (.cells #[.int .i64 a.d, .int .i64 a.i, .int .i64 a.s, .slice lo a.l.length lcap, .slice mo a.m.length mcap, .bool a.own] 47)).alloc (.cells #[.slice none 0 0] 28)) := (((Fx.refl No w).alloc _).alloc _).alloc _
  have hz0 : (((w.alloc (.cells #[.slice ro n rcap] 28)).alloc (.cells #[.int .i64 a.d, .int .i64 a.i, .int .i64 a.s, .slice lo a.l.length lcap, .slice mo a.m.length mcap, .bool a.own] 47)).alloc (.cells #[.slice none 0 0] 28)).heap.size = w.heap.size + 3 := by simp
  have hwr : IntKind.i64.wrap (a.s + 9) = a.s + 9 := IntWalk.i64_in _ (by omega)
  obtain ⟨d, i, s, l, m, own⟩ := a
  simp only at hd hB hfx hs hlo hwr hz0 ⊢
  obtain ⟨ln, hln⟩ : ∃ k, k = l.length := ⟨_, rfl⟩
  obtain ⟨mn, hmn⟩ : ∃ k, k = m.length := ⟨_, rfl⟩
  have HL : Hid (IntsV w F (.slice lo ln lcap) l) := by rw [hln]; exact HL
  have HM : Hid (IntsV w F (.slice mo mn mcap) m) := by rw [hmn]; exact HM
  rw [← hln, ← hmn] at hB hfx hz0
  rw [← hln, ← hmn]
  obtain ⟨N1, hN1⟩ : ∃ k, k = newN s := ⟨_, rfl⟩
  obtain ⟨N2, hN2⟩ : ∃ k, k = newN (s + 9) := ⟨_, rfl⟩
  obtain ⟨X1, hX1⟩ : ∃ k, k = ofX N1 l := ⟨_, rfl⟩
  obtain ⟨X2, hX2⟩ : ∃ k, k = ofX N2 m := ⟨_, rfl⟩
  have C9 : Hid (∀ w', w.heap.size + 3 ≤ w'.heap.size → Fx No w w' → Calls Tryd.prog 9 #[.int .i64 s, .slice lo ln lcap] w' fun e w'' => ∃ x, e = .returned (.pointer (some ⟨x, 0, none⟩)) ∧ Fx No w' w'' ∧ Hid (SetIn w'' (fun k => w.heap.size + 3 ≤ k) x N1 X1)) := fun w' h0 h => by
    refine (of_any s (HL.out.keep h No.disj)).mono ?_
    rintro e w'' ⟨x, rfl, hf, hs⟩
    exact ⟨x, rfl, hf, by rw [hX1, hN1]; exact Lib.hid (hs.mono fun k hk => Nat.le_trans h0 hk.1)⟩
  have C9' : Hid (∀ w', w.heap.size + 3 ≤ w'.heap.size → Fx No w w' → Calls Tryd.prog 9 #[.int .i64 (s + 9), .slice mo mn mcap] w' fun e w'' => ∃ x, e = .returned (.pointer (some ⟨x, 0, none⟩)) ∧ Fx No w' w'' ∧ Hid (SetIn w'' (fun k => w.heap.size + 3 ≤ k) x N2 X2)) := fun w' h0 h => by
    refine (of_any (s + 9) (HM.out.keep h No.disj)).mono ?_
    rintro e w'' ⟨x, rfl, hf, hs⟩
    exact ⟨x, rfl, hf, by rw [hX2, hN2]; exact Lib.hid (hs.mono fun k hk => Nat.le_trans h0 hk.1)⟩
  have C10 : Hid (∀ w', Fx No w w' → Calls Tryd.prog 10 #[.int .i64 s, .slice lo ln lcap] w' fun e w'' => ∃ po pc, e = .returned (.agg #[.slice po N1 pc]) ∧ Fx No w' w'' ∧ Hid (IsR w'' (Iv w'.heap.size w''.heap.size) (.slice po N1 pc) N1 X1)) := fun w' h => by
    refine (refOf_any s (HL.out.keep h No.disj)).mono ?_
    rintro e w'' ⟨x, rfl, hf, hs⟩
    rw [← hN1] at hs
    rw [← hX1] at hs
    obtain ⟨po, pc, rfl, _⟩ := hs.facts
    exact ⟨po, pc, rfl, hf, Lib.hid hs⟩
  have C10' : Hid (∀ w', Fx No w w' → Calls Tryd.prog 10 #[.int .i64 (s + 9), .slice mo mn mcap] w' fun e w'' => ∃ po pc, e = .returned (.agg #[.slice po N2 pc]) ∧ Fx No w' w'' ∧ Hid (IsR w'' (Iv w'.heap.size w''.heap.size) (.slice po N2 pc) N2 X2)) := fun w' h => by
    refine (refOf_any (s + 9) (HM.out.keep h No.disj)).mono ?_
    rintro e w'' ⟨x, rfl, hf, hs⟩
    rw [← hN2] at hs
    rw [← hX2] at hs
    obtain ⟨po, pc, rfl, _⟩ := hs.facts
    exact ⟨po, pc, rfl, hf, Lib.hid hs⟩
  have HN1 := Lib.hid hN1
  have HN2 := Lib.hid hN2
  have HX1 := Lib.hid hX1
  have HX2 := Lib.hid hX2
  have HB := Lib.hid hB
  have HFX := Lib.hid hfx
  have HZ0 := Lib.hid hz0
  clear h hr hD hE hEb hB hfx hl hm hT hTD hln hmn hN1 hN2 hX1 hX2 HA hz0
  obtain rfl := hd
  go_enter Tryd.func28, Tryd.ntmps28
  go_upto_region 12 with fail
  go_cut [12, 13] (R12 w (.slice ro n rcap) (.slice lo ln lcap) (.slice mo mn mcap) ⟨5, i, s, l, m, own⟩ N1 X1 N2 X2)
  case first =>
    generalize hwb : (((w.alloc (Obj.cells #[Value.slice ro n rcap] 28)).alloc (Obj.cells #[Value.int IntKind.i64 5, Value.int IntKind.i64 i, Value.int IntKind.i64 s, Value.slice lo ln lcap, Value.slice mo mn mcap, Value.bool own] 47)).alloc (Obj.cells #[Value.slice none 0 0] 28)) = wb
    have hB := HB.out
    have hFX := HFX.out
    have hZ0 := HZ0.out
    rw [hwb] at hB hFX hZ0
    have HB := Lib.hid hB
    have HFX := Lib.hid hFX
    have q2 : ∀ w', Fx No wb w' → w'.cell? ⟨w.heap.size + 1, 2, none⟩ = some (.int .i64 s) := fun w' h => h.cell' hB.p2 (fun h => h)
    have q3 : ∀ w', Fx No wb w' → w'.cell? ⟨w.heap.size + 1, 3, none⟩ = some (.slice lo ln lcap) := fun w' h => h.cell' hB.p3 (fun h => h)
    have q4 : ∀ w', Fx No wb w' → w'.cell? ⟨w.heap.size + 1, 4, none⟩ = some (.slice mo mn mcap) := fun w' h => h.cell' hB.p4 (fun h => h)
    have hk0 : Fx No wb wb := Fx.refl _ _
    have D9 : Hid (∀ w', Fx No wb w' → _) := Lib.hid fun w' h => C9.out w' (Nat.le_trans (Nat.le_of_eq hZ0.symm) h.size) (HFX.out.trans h)
    have D9' : Hid (∀ w', Fx No wb w' → _) := Lib.hid fun w' h => C9'.out w' (Nat.le_trans (Nat.le_of_eq hZ0.symm) h.size) (HFX.out.trans h)
    clear hB hFX hwb hlo hs
    go_region_held3 (fun w' => Fx No wb w')
      (first
        | exact hk0.drew
        | exact Fx.transNo (by assumption) hfy
        | exact Fx.transNo (by assumption) hfx)
      (first
        | (go_at_call 9; with_reducible refine (D9.out _ (by assumption)).mono ?_; rintro e w' ⟨x, rfl, hfx, hsx⟩)
        | (go_at_call 9; with_reducible refine (D9'.out _ (by assumption)).mono ?_; rintro e w' ⟨y, rfl, hfy, hsy⟩))
    have hH : Fx No wb w' := by assumption
    go_wp2_with fail
    go_meet
    exact ⟨x, y, rfl, rfl, HFX.out.trans hH, hsx.out.no hfy, hsy.out, HB.out.keep hH (fun _ _ h => h), by have := hH.size; omega⟩
  case rest =>
    obtain ⟨x, y, rfl, rfl, hf, hsx, hsy, hB, hz⟩ := hcut
    have HF := Lib.hid hf
    have HSX := Lib.hid hsx
    have HSY := Lib.hid hsy
    have HB := Lib.hid hB
    have q2 : ∀ w', Fx No wc w' → w'.cell? ⟨w.heap.size + 1, 2, none⟩ = some (.int .i64 s) := fun w' h => h.cell' hB.p2 (fun h => h)
    have q3 : ∀ w', Fx No wc w' → w'.cell? ⟨w.heap.size + 1, 3, none⟩ = some (.slice lo ln lcap) := fun w' h => h.cell' hB.p3 (fun h => h)
    have q4 : ∀ w', Fx No wc w' → w'.cell? ⟨w.heap.size + 1, 4, none⟩ = some (.slice mo mn mcap) := fun w' h => h.cell' hB.p4 (fun h => h)
    have hk0 : Fx No wc wc := Fx.refl _ _
    have D10 : Hid (∀ w', Fx No wc w' → _) := Lib.hid fun w' h => C10.out w' (HF.out.trans h)
    have D10' : Hid (∀ w', Fx No wc w' → _) := Lib.hid fun w' h => C10'.out w' (HF.out.trans h)
    clear hf hsx hsy hB hlo hs
    go_upto_region 13 with fail
    go_cut [14, 15] (R13 w (.slice ro n rcap) (.slice lo ln lcap) (.slice mo mn mcap) ⟨5, i, s, l, m, own⟩ x y N1 X1 N2 X2)
    case first =>
      go_region_held3 (fun w' => Fx No wc w')
        (repeat (first
          | with_reducible exact hk0
          | with_reducible exact hK2.out
          | with_reducible exact hK1.out
          | with_reducible refine Fx.drew ?_
          | with_reducible refine Fx.alloc ?_ _
          | ((with_reducible refine Fx.setCell ?_ (.inl ?_) _); rotate_left; focus (first | omega | (simp; done) | (simp; omega)))))
        (first
          | (go_at_call 10; with_reducible refine (D10.out _ (by assumption)).mono ?_; rintro e w1 ⟨po, pc, rfl, hfp, hsp⟩; have hK1 := Lib.hid (Fx.transNo (S := No) (w := wc) (by assumption) hfp); have hc1 := hfp.cells; have hl1 := hfp.lts; have hz1 := hfp.size; (try simp at hz1); (try have hl3 : wc.heap.size < w1.heap.size := by omega); (try have hl4 : wc.heap.size + 1 < w1.heap.size := by omega))
          | (go_at_call 10; with_reducible refine (D10'.out _ (by assumption)).mono ?_; rintro e w2 ⟨qo, qc, rfl, hfq, hsq⟩; have hK2 := Lib.hid (Fx.transNo (S := No) (w := wc) (by assumption) hfq); have hc2 := hfq.cells; have hl2 := hfq.lts; have hz2 := hfq.size; (try simp at hz2); (try have hl5 : wc.heap.size < w2.heap.size := by omega); (try have hl6 : wc.heap.size + 1 < w2.heap.size := by omega)))
      all_goals
        go_wp2_with fail
        go_meet
        go_light
        refine ⟨_, _, po, pc, qo, qc, rfl, rfl, HF.out.trans (by assumption), SetIn.dx HSX.out (by assumption) ?_ ?_, SetIn.dx HSY.out (by assumption) ?_ ?_, HB.out.keep (S := No) (w := wc) (by assumption) (fun _ _ h => h), ?_, ?_, ?_, ?_, ?_, ?_, ?_, ?_, ?_, ?_⟩
        iterate 9 (focus (first | omega | (simp; done) | (simp; omega)))
        · first
            | (simp [go_sem, *]; done)
            | (rw [World.cell?_setCell_other _ _ _ _ (addr_ne (by first | (simp; done) | (simp; omega)))]; refine World.cell?_setCell_same _ _ _ (u := .slice none 0 0) ?_; simp [go_sem, *]; done)
            | (refine World.cell?_setCell_same _ _ _ (u := .slice none 0 0) ?_; rw [World.cell?_setCell_other _ _ _ _ (addr_ne (by first | (simp; done) | (simp; omega)))]; simp [go_sem, *]; done)
            | (refine World.cell?_setCell_same _ _ _ (u := .slice none 0 0) ?_; simp [go_sem, *]; done)
            | (rw [World.cell?_alloc_lt _ _ _ (by simp; omega)]; refine World.cell?_setCell_same _ _ _ (u := .slice none 0 0) ?_; simp [go_sem, *]; done)
            | trace_state
        · first
            | (simp [go_sem, *]; done)
            | (rw [World.cell?_setCell_other _ _ _ _ (addr_ne (by first | (simp; done) | (simp; omega)))]; refine World.cell?_setCell_same _ _ _ (u := .slice none 0 0) ?_; simp [go_sem, *]; done)
            | (refine World.cell?_setCell_same _ _ _ (u := .slice none 0 0) ?_; rw [World.cell?_setCell_other _ _ _ _ (addr_ne (by first | (simp; done) | (simp; omega)))]; simp [go_sem, *]; done)
            | (refine World.cell?_setCell_same _ _ _ (u := .slice none 0 0) ?_; simp [go_sem, *]; done)
            | (rw [World.cell?_alloc_lt _ _ _ (by simp; omega)]; refine World.cell?_setCell_same _ _ _ (u := .slice none 0 0) ?_; simp [go_sem, *]; done)
            | trace_state
        · first | (simp [go_sem, *]; done) | trace_state
        · refine IsR.r13 hsp.out ?_ ?_ ?_ ?_
          · repeat (first
              | with_reducible exact Fx.refl _ _
              | with_reducible refine Fx.transNo ?_ hfq
              | with_reducible refine Fx.drew ?_
              | with_reducible refine Fx.alloc ?_ _
              | refine Fx.setCell ?_ (.inr (by first | exact .inl rfl | exact .inr rfl)) _)
          all_goals first | omega | (simp; omega) | (simp; done)
        · refine IsR.r13 hsq.out ?_ ?_ ?_ ?_
          · repeat (first
              | with_reducible exact Fx.refl _ _
              | with_reducible refine Fx.drew ?_
              | with_reducible refine Fx.alloc ?_ _
              | refine Fx.setCell ?_ (.inr (by first | exact .inl rfl | exact .inr rfl)) _)
          all_goals first | omega | (simp; omega) | (simp; done)
    case rest =>
      obtain ⟨A, B, po, pc, qo, qc, rfl, rfl, hf, hsx, hsy, hB, hA1, hB1, hAB, hA2, hB2, cA, cB, zB, hp, hq⟩ := hcut
      have HF := Lib.hid hf
      have HSX := Lib.hid hsx
      have HSY := Lib.hid hsy
      have HB := Lib.hid hB
      have HP := Lib.hid hp
      have HQ := Lib.hid hq
      have HA := Lib.hid hA1
      have hDge : Hid (∀ k, w.heap.size ≤ k → ¬ D k) := fun k hk hd => by have := HD.out k hd; omega
      have q5 := hB.p5
      have q6 := hB.c6
      have z6 := hB.z6
      have q4 := hB.c4
      have q0 := hB.p0
      simp only at q0 q5
      clear hf hsx hsy hp hq hB
      cases own
      · have HQE : Hid (IsR wc (fun k => E k ∨ DX w A B k) (.slice qo N2 qc) N2 X2) := HQ.out.mono fun k hk => .inr hk
        have HI2 : Hid (∀ w', Fx No wc w' → (some (⟨y, 0, none⟩ : Addr) = some ⟨b, 0, none⟩ ∧ X2 = X) ∨ ∃ m, SetP w' (DX w A B) (some ⟨y, 0, none⟩) m X2) := fun w' h => .inr ⟨N2, (HSY.out.no h).p⟩
        obtain ⟨Z, hZ⟩ : ∃ Z, doX 2 n X [(N1, X1), (N2, X2)] = Z := ⟨_, rfl⟩
        have HAct : Hid (actX n X ⟨5, i, s, l, m, false⟩ = Z) := by
          show actX n X ⟨5, i, s, l, m, false⟩ = Z
          rw [← hZ, HX1.out, HX2.out, HN1.out, HN2.out]; simp [actX]
        have HZ := Lib.hid hZ
        clear hZ
        go_wp2_with fail
        refine (refDo_any (D := fun k => E k ∨ w.heap.size ≤ k) 2 (((HR.out.no HF.out).mono fun k hk => .inl hk).no ((Fx.refl No _).alloc _)) (sets2 (HP.out.mono fun k hk => .inr (by have := hk.1; omega)) (HQE.out.mono fun k hk => by
          rcases hk with hk | hk
          · exact .inl hk
          · exact .inr (by have := hk.1; omega)) (.inr HF.out.size))).mono ?_
        rintro e w17 ⟨v17, rfl, hf, hs⟩
        rw [HZ.out] at hs ⊢
        obtain ⟨T, hT⟩ : ∃ T : Int, (turnN n X Z : Int) = T := ⟨_, rfl⟩
        rw [hT]
        have HTn := Lib.hid hT
        obtain ⟨vo, vc, rfl, _⟩ := hs.facts
        have HS17 := Lib.hid hs
        have HF17 : Hid (Fx No wc w17) := ((Fx.refl No wc).alloc _).trans hf
        have hz17 := HF17.out.size
        have hzw := HF.out.size
        have k0 := HF17.out.cell' q0 (fun h => h)
        have kz : w.heap.size + 1 < w17.heap.size := by omega
        clear hf hs hT
        go_wp2_with fail
        generalize hw18 : w17.alloc (Obj.cells #[Value.slice vo n vc] 28) = w18
        have hz18e : w18.heap.size = w17.heap.size + 1 := by rw [← hw18]; simp
        rw [← hz18e]
        have hf18 : Fx No w17 w18 := by rw [← hw18]; exact (Fx.refl No w17).alloc _
        have q16 : w18.cell? ⟨w17.heap.size, 0, none⟩ = some (.slice vo n vc) := by rw [← hw18]; simp
        have HF18 : Hid (Fx No wc w18) := HF17.out.trans hf18
        have hz18 := hf18.size
        have HS18 : Hid (IsR w18 (Iv (wc.heap.size) w17.heap.size) (.slice vo n vc) n Z) := (HS17.out.no hf18).mono fun k hk => ⟨by have := hk.1; simp at this; omega, hk.2⟩
        have HI18 := Lib.hid (HI2.out _ HF18.out)
        clear hw18 hf18
        refine (less2 (N1 := N1) (N2 := N2) (E := DX w A B) (H.out.no (HF.out.trans HF18.out)) (fun k hk => by have := HD.out k hk; have := HF.out.size; omega) (fun k hk hd => hDge.out k (by have := hk.1; omega) hd) (.inr ⟨N1, (HSX.out.no HF18.out).p⟩) HI18.out HZ.out HTn.out).mono ?_
        rintro e wj ⟨rfl, hf, hs⟩
        have HJ : Hid (Fx D wc wj) := HF18.out.no.trans hf
        have HSJ := Lib.hid hs
        have hzj := hf.size
        have j16 : wj.cell? ⟨w17.heap.size, 0, none⟩ = some (.slice vo n vc) := hf.cell' q16 (hDge.out _ (by simp; have := HF.out.size; omega))
        have jA : wj.cell? ⟨A, 0, none⟩ = some (.slice po N1 pc) := HJ.out.cell' cA (hDge.out _ (by simp; omega))
        have jB := HJ.out.cell' cB (hDge.out _ (by simp; omega))
        have j5 := HJ.out.cell' q5 (hDge.out _ (by simp))
        obtain ⟨j6, jz⟩ := HJ.out.cellF q6 z6 (hDge.out _ (by simp))
        have HPJ : Hid (IsR wj (DX w A B) (.slice po N1 pc) N1 X1) := HP.out.keep HJ.out fun k hk => hDge.out k (by have := hk.1; omega)
        have HXJ : Hid (SetIn wj (DX w A B) x N1 X1) := HSX.out.keep HJ.out fun k hk => hDge.out k (by have := hk.1; omega)
        have HSR : Hid (IsR wj (Iv (w.heap.size + 3) w17.heap.size) (.slice vo n vc) n Z) := (HS18.out.keep hf fun k hk => hDge.out k (by have := hk.1; omega)).mono fun k hk => ⟨by have := hk.1; omega, hk.2⟩
        have HTJ : Hid (TabOk wj) := (HT.out.no HF.out).keep HJ.out HTD.out
        have hG2 : ∀ k, k ≠ w.heap.size + 2 → ¬ (fun k => k = w.heap.size + 2) k := fun k hk h => hk h
        have r16 : ∀ w', Fx (fun k => k = w.heap.size + 2) wj w' → w'.cell? ⟨w17.heap.size, 0, none⟩ = some (.slice vo n vc) := fun w' h => h.cell' j16 (by simp; omega)
        have rA : ∀ w', Fx (fun k => k = w.heap.size + 2) wj w' → w'.cell? ⟨A, 0, none⟩ = some (.slice po N1 pc) := fun w' h => h.cell' jA (by simp; omega)
        have rB : ∀ w', Fx (fun k => k = w.heap.size + 2) wj w' → w'.cell? ⟨B, 0, none⟩ = some (.slice qo N2 qc) := fun w' h => h.cell' jB (by simp; omega)
        have r5 : ∀ w', Fx (fun k => k = w.heap.size + 2) wj w' → w'.cell? ⟨w.heap.size + 1, 5, none⟩ = some (.bool false) := fun w' h => h.cell' j5 (by simp)
        have CX : Hid (∀ w', Fx (fun k => k = w.heap.size + 2) wj w' → Calls Tryd.prog 29 #[.pointer (some ⟨x, 0, none⟩), .agg #[.slice po N1 pc]] w' fun e w'' => e = .returned (.bool true) ∧ Fx No w' w'') := fun w' h =>
          is_any (HXJ.out.keep h (fun k hk hh => by have := hk.1; omega)).p (HPJ.out.keep h (fun k hk hh => by have := hk.1; omega)) (HTJ.out.keep h (by have := HTJ.out.lt; omega))
        have HQJ : Hid (IsR wj (DX w A B) (.slice qo N2 qc) N2 X2) := HQ.out.keep HJ.out fun k hk => hDge.out k (by have := hk.1; omega)
        have HYJ : Hid (SetIn wj (DX w A B) y N2 X2) := HSY.out.keep HJ.out fun k hk => hDge.out k (by have := hk.1; omega)
        have CY : Hid (∀ w', Fx (fun k => k = w.heap.size + 2) wj w' → Calls Tryd.prog 29 #[.pointer (some ⟨y, 0, none⟩), .agg #[.slice qo N2 qc]] w' fun e w'' => e = .returned (.bool true) ∧ Fx No w' w'') := fun w' h =>
          is_any (HYJ.out.keep h (fun k hk hh => by have := hk.1; omega)).p (HQJ.out.keep h (fun k hk hh => by have := hk.1; omega)) (HTJ.out.keep h (by have := HTJ.out.lt; omega))
        have s0 : Fx (fun k => k = w.heap.size + 2) wj wj := Fx.refl _ _
        clear hf hs q16 cA cB q5 q6 z6 q4 q0 j16 jA jB j5
        go_wp2_with fail
        go_region_held3 (fun w' => Fx (fun k => k = w.heap.size + 2) wj w' ∧ w'.cell? ⟨w.heap.size + 2, 0, none⟩ = some (cellD w' ⟨w.heap.size + 2, 0, none⟩) ∧ w'.frozen? ⟨w.heap.size + 2, 0, none⟩ = false)
          (first
            | exact ⟨s0.drew, cellD_of (w := wj.drew) j6, jz⟩
            | (go_split_ands; exact ⟨Fx.transNo (by assumption) hfi, cellD_keep (by assumption) hfi (fun h => h), frozen_keep (by assumption) (by assumption) hfi (fun h => h)⟩)
            | (go_split_ands; exact held_set (by assumption) (by assumption) (by assumption)))
          (first
            | (go_at_call 29; go_split_ands; with_reducible refine (CX.out _ (by assumption)).mono ?_; rintro e w' ⟨rfl, hfi⟩)
            | (go_at_call 29; go_split_ands; with_reducible refine (CY.out _ (by assumption)).mono ?_; rintro e w' ⟨rfl, hfi⟩))
        all_goals
          go_split_ands
          have hG : Fx (fun k => k = w.heap.size + 2) wj (w'.setCell ⟨w.heap.size + 1 + 1, 0, none⟩ (.slice vo n vc)) := by assumption
          have hres : (w'.setCell ⟨w.heap.size + 1 + 1, 0, none⟩ (.slice vo n vc)).cell? ⟨w.heap.size + 2, 0, none⟩ = some (.slice vo n vc) := cell_set_any (by assumption)
          go_wp2_with fail
          refine bodyPost_ret (v := .tuple #[.agg #[.slice vo n vc], .bool true]) (by simp [results, Tryd.results28, go_sem, hres]) rfl ?_
          rw [HAct.out]
          exact doesFin HF.out HJ.out hG HD.out HSJ.out HSR.out (by omega)
      · go_upto_region 17 with fail
        generalize hwo : wc.setCell ⟨B, 0, none⟩ (Value.slice ro n rcap) = wo
        have hput : Fx (fun k => k = B) wc wo := by rw [← hwo]; exact Fx.put _ _ _ _
        have hnb : ∀ k, DX w A B k → ¬ k = B := fun k hk => hk.2.2
        have cB' : wo.cell? ⟨B, 0, none⟩ = some (.slice ro n rcap) := by rw [← hwo]; exact World.cell?_setCell_same _ _ _ cB
        have cA' := hput.cell' cA (by simpa using hAB)
        have q4' := hput.cell' q4 (by simp; omega)
        have q0' := hput.cell' q0 (by simp; omega)
        have q5' := hput.cell' q5 (by simp; omega)
        obtain ⟨q6', z6'⟩ := hput.cellF q6 z6 (by simp; omega)
        have HSX := Lib.hid (HSX.out.keep hput hnb)
        have HP := Lib.hid (HP.out.keep hput hnb)
        have HF : Hid (Fx No w wo) := HF.out.trans' hput (by rintro j rfl hj; omega)
        have HQE : Hid (IsR wo (fun k => E k ∨ DX w A B k) (.slice ro n rcap) n X) := (HR.out.no HF.out).mono fun k hk => .inl hk
        have HI2 : Hid (∀ w', Fx No wo w' → (some (⟨b, 0, none⟩ : Addr) = some ⟨b, 0, none⟩ ∧ X = X) ∨ ∃ m, SetP w' (DX w A B) (some ⟨b, 0, none⟩) m X) := fun w' h => .inl ⟨rfl, rfl⟩
        obtain ⟨Z, hZ⟩ : ∃ Z, doX 2 n X [(N1, X1), (n, X)] = Z := ⟨_, rfl⟩
        have HAct : Hid (actX n X ⟨5, i, s, l, m, true⟩ = Z) := by
          show actX n X ⟨5, i, s, l, m, true⟩ = Z
          rw [← hZ, HX1.out, HN1.out]; simp [actX]
        have HZ := Lib.hid hZ
        have hzo := hput.size
        clear hZ hput hwo cA cB q4 q0 q5 q6 z6
        have cA := cA'
        have cB := cB'
        have q4 := q4'
        have q0 := q0'
        have q5 := q5'
        have q6 := q6'
        have z6 := z6'
        clear cA' cB' q4' q0' q5' q6' z6'
        go_wp2_with fail
        refine (refDo_any (D := fun k => E k ∨ w.heap.size ≤ k) 2 (((HR.out.no HF.out).mono fun k hk => .inl hk).no ((Fx.refl No _).alloc _)) (sets2 (HP.out.mono fun k hk => .inr (by have := hk.1; omega)) (HQE.out.mono fun k hk => by
          rcases hk with hk | hk
          · exact .inl hk
          · exact .inr (by have := hk.1; omega)) (.inr HF.out.size))).mono ?_
        rintro e w17 ⟨v17, rfl, hf, hs⟩
        rw [HZ.out] at hs ⊢
        obtain ⟨T, hT⟩ : ∃ T : Int, (turnN n X Z : Int) = T := ⟨_, rfl⟩
        rw [hT]
        have HTn := Lib.hid hT
        obtain ⟨vo, vc, rfl, _⟩ := hs.facts
        have HS17 := Lib.hid hs
        have HF17 : Hid (Fx No wo w17) := ((Fx.refl No wo).alloc _).trans hf
        have hz17 := HF17.out.size
        have hzw := HF.out.size
        have k0 := HF17.out.cell' q0 (fun h => h)
        have kz : w.heap.size + 1 < w17.heap.size := by omega
        clear hf hs hT
        go_wp2_with fail
        generalize hw18 : w17.alloc (Obj.cells #[Value.slice vo n vc] 28) = w18
        have hz18e : w18.heap.size = w17.heap.size + 1 := by rw [← hw18]; simp
        rw [← hz18e]
        have hf18 : Fx No w17 w18 := by rw [← hw18]; exact (Fx.refl No w17).alloc _
        have q16 : w18.cell? ⟨w17.heap.size, 0, none⟩ = some (.slice vo n vc) := by rw [← hw18]; simp
        have HF18 : Hid (Fx No wo w18) := HF17.out.trans hf18
        have hz18 := hf18.size
        have HS18 : Hid (IsR w18 (Iv (wo.heap.size) w17.heap.size) (.slice vo n vc) n Z) := (HS17.out.no hf18).mono fun k hk => ⟨by have := hk.1; simp at this; omega, hk.2⟩
        clear hw18 hf18
        refine (less2 (N1 := N1) (N2 := n) (E := DX w A B) (H.out.no (HF.out.trans HF18.out)) (fun k hk => by have := HD.out k hk; have := HF.out.size; omega) (fun k hk hd => hDge.out k (by have := hk.1; omega) hd) (.inr ⟨N1, (HSX.out.no HF18.out).p⟩) (.inl ⟨rfl, rfl⟩) HZ.out HTn.out).mono ?_
        rintro e wj ⟨rfl, hf, hs⟩
        have HJ : Hid (Fx D wo wj) := HF18.out.no.trans hf
        have HSJ := Lib.hid hs
        have hzj := hf.size
        have j16 : wj.cell? ⟨w17.heap.size, 0, none⟩ = some (.slice vo n vc) := hf.cell' q16 (hDge.out _ (by simp; have := HF.out.size; omega))
        have jA : wj.cell? ⟨A, 0, none⟩ = some (.slice po N1 pc) := HJ.out.cell' cA (hDge.out _ (by simp; omega))
        have jB := HJ.out.cell' cB (hDge.out _ (by simp; omega))
        have j5 := HJ.out.cell' q5 (hDge.out _ (by simp))
        obtain ⟨j6, jz⟩ := HJ.out.cellF q6 z6 (hDge.out _ (by simp))
        have HPJ : Hid (IsR wj (DX w A B) (.slice po N1 pc) N1 X1) := HP.out.keep HJ.out fun k hk => hDge.out k (by have := hk.1; omega)
        have HXJ : Hid (SetIn wj (DX w A B) x N1 X1) := HSX.out.keep HJ.out fun k hk => hDge.out k (by have := hk.1; omega)
        have HSR : Hid (IsR wj (Iv (w.heap.size + 3) w17.heap.size) (.slice vo n vc) n Z) := (HS18.out.keep hf fun k hk => hDge.out k (by have := hk.1; omega)).mono fun k hk => ⟨by have := hk.1; omega, hk.2⟩
        have HTJ : Hid (TabOk wj) := (HT.out.no HF.out).keep HJ.out HTD.out
        have hG2 : ∀ k, k ≠ w.heap.size + 2 → ¬ (fun k => k = w.heap.size + 2) k := fun k hk h => hk h
        have r16 : ∀ w', Fx (fun k => k = w.heap.size + 2) wj w' → w'.cell? ⟨w17.heap.size, 0, none⟩ = some (.slice vo n vc) := fun w' h => h.cell' j16 (by simp; omega)
        have rA : ∀ w', Fx (fun k => k = w.heap.size + 2) wj w' → w'.cell? ⟨A, 0, none⟩ = some (.slice po N1 pc) := fun w' h => h.cell' jA (by simp; omega)
        have rB : ∀ w', Fx (fun k => k = w.heap.size + 2) wj w' → w'.cell? ⟨B, 0, none⟩ = some (.slice ro n rcap) := fun w' h => h.cell' jB (by simp; omega)
        have r5 : ∀ w', Fx (fun k => k = w.heap.size + 2) wj w' → w'.cell? ⟨w.heap.size + 1, 5, none⟩ = some (.bool true) := fun w' h => h.cell' j5 (by simp)
        have CX : Hid (∀ w', Fx (fun k => k = w.heap.size + 2) wj w' → Calls Tryd.prog 29 #[.pointer (some ⟨x, 0, none⟩), .agg #[.slice po N1 pc]] w' fun e w'' => e = .returned (.bool true) ∧ Fx No w' w'') := fun w' h =>
          is_any (HXJ.out.keep h (fun k hk hh => by have := hk.1; omega)).p (HPJ.out.keep h (fun k hk hh => by have := hk.1; omega)) (HTJ.out.keep h (by have := HTJ.out.lt; omega))
        have s0 : Fx (fun k => k = w.heap.size + 2) wj wj := Fx.refl _ _
        clear hf hs q16 cA cB q5 q6 z6 q4 q0 j16 jA jB j5
        go_wp2_with fail
        have CX2 : Hid (∀ w', Fx No wj w' → Calls Tryd.prog 29 #[.pointer (some ⟨x, 0, none⟩), .agg #[.slice po N1 pc]] w' fun e w'' => e = .returned (.bool true) ∧ Fx No wj w'' ∧
            w''.cell? ⟨w17.heap.size, 0, none⟩ = some (.slice vo n vc) ∧ w''.cell? ⟨w.heap.size + 1, 5, none⟩ = some (.bool true) ∧ w''.cell? ⟨w.heap.size + 2, 0, none⟩ = some (.slice none 0 0) ∧ w''.frozen? ⟨w.heap.size + 2, 0, none⟩ = false) := fun w' h => by
          refine (CX.out w' h.no).mono ?_
          rintro e w'' ⟨rfl, hf⟩
          have hf' := h.trans hf
          exact ⟨rfl, hf', r16 _ hf'.no, r5 _ hf'.no, hf'.cellF j6 jz (fun h => h)⟩
        have k16 := r16 _ s0
        have kA := rA _ s0
        have k5 := r5 _ s0
        clear r16 rA rB r5 s0
        first | (go_region_with (go_at_call 29; refine (CX2.out _ (Fx.refl No wj).drew).mono ?_; rintro e w' ⟨rfl, hfi, i16, i5, i6, iz⟩)) | fail
        all_goals
          have hG : Fx (fun k => k = w.heap.size + 2) wj (w'.setCell ⟨w.heap.size + 1 + 1, 0, none⟩ (.slice vo n vc)) := gset hfi
          have hres : (w'.setCell ⟨w.heap.size + 1 + 1, 0, none⟩ (.slice vo n vc)).cell? ⟨w.heap.size + 2, 0, none⟩ = some (.slice vo n vc) := World.cell?_setCell_same _ _ _ i6
          go_wp2_with fail
          refine bodyPost_ret (v := .tuple #[.agg #[.slice vo n vc], .bool true]) (by simp [results, Tryd.results28, go_sem, hres]) rfl ?_
          rw [HAct.out]
          exact doesFin HF.out HJ.out hG HD.out HSJ.out HSR.out (by omega)
#print axioms doesMany5_any
end Go.Proofs.YthbfpcheljaeaaaDoor
