/- graph: binary search in a sorted row of edges. -/
import Derived.Test.YtcfajeldkioomaaGA
namespace Go.Proofs.Ytcfajeldkioomaa
open Go.RowKit
set_option linter.unusedVariables false

section
variable {w : World} {D : Nat → Prop} {v : Value} {xs : List Ed}
theorem lt_pos_gt (ha : Asc xs) (e : Ed) {k : Nat} (hk : k < xs.length) : (gt xs k).lt e ↔ k < posE e xs := lt_posE ha (by simp [gt, hk])
theorem mem_pos_gt (ha : Asc xs) (e : Ed) : e ∈ xs ↔ posE e xs < xs.length ∧ gt xs (posE e xs) = e := by
  rw [mem_posE ha]
  constructor
  · intro h
    have h1 := (List.getElem?_eq_some_iff.1 h).1
    refine ⟨h1, ?_⟩
    have := (List.getElem?_eq_some_iff.1 h).2
    simp [gt, h1, this]
  · rintro ⟨h1, h2⟩
    rw [List.getElem?_eq_getElem h1]
    simp [gt, h1] at h2
    rw [h2]
set_option maxHeartbeats 1000000 in
theorem bsearch_any (h : EdsV w D v xs) (hl : xs.length ≤ 1000000) (ha : Asc xs) (e : Ed) : Calls Try.prog 62 #[v, evE e, .func (.func 17) #[] #[]] w fun r w' =>
    r = .returned (.tuple #[.int .i64 (posE e xs : Nat), .bool (decide (e ∈ xs))]) ∧ Fx No w w' := by
  obtain ⟨ao, cap, rfl, hcl, hcm, hc⟩ := h.facts
  have HC := Lib.hid hc
  have HL := Lib.hid (fun k (hk : k < xs.length) => lt_pos_gt ha e hk)
  have HM := Lib.hid (mem_pos_gt ha e)
  have CC : Hid (∀ (x y : Ed) (W : World), Calls Try.prog 17 #[evE x, evE y] W fun e w' => e = .returned (.int .i64 (cmpE x y)) ∧ Fx No W w') := Lib.hid cmp_any
  have hpl := posE_le e xs
  obtain ⟨p, hp⟩ : ∃ p, p = posE e xs := ⟨_, rfl⟩
  rw [← hp] at HL HM hpl ⊢
  obtain ⟨tm, htm⟩ : ∃ t, t = decide (e ∈ xs) := ⟨_, rfl⟩
  rw [← htm]
  have HTm := Lib.hid htm
  unfold evE
  clear hc h ha hp htm
  go_enter Try.func62, Try.ntmps62
  go_wp2_with fail
  refine wp_hold (fun W => Fx No w W ∧ W.cell? ⟨w.heap.size, 0, none⟩ = some (.int .i64 e.f) ∧ W.cell? ⟨w.heap.size, 1, none⟩ = some (.int .i64 e.t) ∧ W.cell? ⟨w.heap.size, 2, none⟩ = some (.int .i64 e.l)) ⟨(Fx.refl No w).alloc _, by go_simp, by go_simp, by go_simp⟩ ?_
  rintro wx ⟨hfx, c0, c1, c2⟩
  obtain ⟨q, hq⟩ : ∃ q, q = w.heap.size := ⟨_, rfl⟩
  rw [← hq] at c0 c1 c2 ⊢
  have HX := Lib.hid hfx
  have HQ0 := Lib.hid c0
  have HQ1 := Lib.hid c1
  have HQ2 := Lib.hid c2
  clear hfx hq c0 c1 c2
  go_loopw [9, 10] (fun i j ws => ∃ I J : Nat, i = .int .i64 I ∧ j = .int .i64 J ∧ I ≤ p ∧ p ≤ J ∧ J ≤ xs.length ∧ Fx No wx ws) (fun i j _ => (intOf j).toNat - (intOf i).toNat)
  case atStart => exact ⟨0, xs.length, rfl, rfl, Nat.zero_le _, hpl, Nat.le_refl _, Fx.refl _ _⟩
  case round =>
    obtain ⟨I, J, rfl, rfl, hI, hJ, hJl, hf⟩ := hrel
    have HF := Lib.hid hf
    have s0 : Fx No wr wr := Fx.refl _ _
    have q0 := hf.cell' HQ0.out (fun h => h)
    have q1 := hf.cell' HQ1.out (fun h => h)
    have q2 := hf.cell' HQ2.out (fun h => h)
    have g0 : ∀ W, Fx No wr W → W.cell? ⟨q, 0, none⟩ = some (.int .i64 e.f) := fun W h => h.cell' q0 (fun h => h)
    have g1 : ∀ W, Fx No wr W → W.cell? ⟨q, 1, none⟩ = some (.int .i64 e.t) := fun W h => h.cell' q1 (fun h => h)
    have g2 : ∀ W, Fx No wr W → W.cell? ⟨q, 2, none⟩ = some (.int .i64 e.l) := fun W h => h.cell' q2 (fun h => h)
    clear hf q0 q1 q2
    by_cases hlt : I < J
    · obtain ⟨h, hh⟩ : ∃ h, h = (I + J) / 2 := ⟨_, rfl⟩
      have hIh : I ≤ h := by omega
      have hhJ : h < J := by omega
      have hhl : h < xs.length := by omega
      have hlt' : (I : Int) < (J : Int) := by omega
      have e1 : IntKind.i64.wrap ((I : Int) + (J : Int)) = ((I + J : Nat) : Int) := by rw [IntKind.wrap_i64]; omega
      obtain ⟨sm, hsm⟩ : ∃ m, m = I + J := ⟨_, rfl⟩
      rw [← hsm] at e1 hh
      have e2 : IntKind.u64.wrap (sm : Int) = (sm : Int) := by rw [IntKind.wrap_u64]; omega
      have e3 : (sm : Int) / 2 = (h : Int) := by omega
      have e4 : IntKind.i64.wrap (h : Int) = (h : Int) := by rw [IntKind.wrap_i64]; omega
      have e5 : IntKind.u64.wrap (h : Int) = (h : Int) := by rw [IntKind.wrap_u64]; omega
      obtain ⟨b, o, rfl, _, p0, p1, p2⟩ := HC.out h hhl
      obtain ⟨x, hx⟩ : ∃ x, x = gt xs h := ⟨_, rfl⟩
      have HLh := Lib.hid (HL.out h hhl)
      rw [← hx] at p0 p1 p2 HLh
      have k0 : ∀ W, Fx No wr W → W.cell? ⟨b, o + h * 3, none⟩ = some (.int .i64 x.f) := fun W hw => ((HX.out.trans HF.out).trans hw).cell' p0 (fun h => h)
      have k1 : ∀ W, Fx No wr W → W.cell? ⟨b, o + h * 3 + 1, none⟩ = some (.int .i64 x.t) := fun W hw => ((HX.out.trans HF.out).trans hw).cell' p1 (fun h => h)
      have k2 : ∀ W, Fx No wr W → W.cell? ⟨b, o + h * 3 + 2, none⟩ = some (.int .i64 x.l) := fun W hw => ((HX.out.trans HF.out).trans hw).cell' p2 (fun h => h)
      clear p0 p1 p2 hx hh hsm
      rcases (Classical.em (h < p)) with hc | hc
      · have CCx : Hid (∀ W : World, Calls Try.prog 17 #[.agg #[.int .i64 x.f, .int .i64 x.t, .int .i64 x.l], .agg #[.int .i64 e.f, .int .i64 e.t, .int .i64 e.l]] W fun e' w' => e' = .returned (.int .i64 (cmpE x e)) ∧ Fx No W w') := Lib.hid fun W => CC.out x e W
        have d1 : decide (cmpE x e < 0) = true := decide_eq_true (cmpE_neg.2 (HLh.out.2 hc))
        go_wp2_with fail
        refine wp_region_H (fun W => Fx No wr W) (by kernel_rfl) s0.drew ?_
        intro hS
        refine wpAnyH_take (i := 0) (v := ?_) rfl (by kernel_rfl) (by kernel_rfl) (by kernel_rfl) (fun _ _ _ h => h) (Or.inl ⟨by rfl, ?_⟩) hS ?_
        rotate_left
        · (intro W hs; go_simp; first | done | with_reducible rfl)
        try simp only [Act.put, List.getElem_toArray, List.getElem_cons_zero, List.getElem_cons_succ, List.setIfInBounds_toArray, List.set_cons_zero, List.set_cons_succ]
        refine wpAnyH_take (i := 1) (v := ?_) rfl (by kernel_rfl) (by kernel_rfl) (by kernel_rfl) (fun _ _ _ h => h) (Or.inl ⟨by rfl, ?_⟩) hS ?_
        rotate_left
        · (intro W hs; go_simp; first | done | with_reducible rfl)
        try simp only [Act.put, List.getElem_toArray, List.getElem_cons_zero, List.getElem_cons_succ, List.setIfInBounds_toArray, List.set_cons_zero, List.set_cons_succ]
        refine wpAnyH_take (i := 2) (v := ?_) rfl (by kernel_rfl) (by kernel_rfl) (by kernel_rfl) (fun _ _ _ h => h) (Or.inl ⟨by rfl, ?_⟩) hS ?_
        rotate_left
        · (intro W hs; go_simp; first | done | with_reducible rfl)
        try simp only [Act.put, List.getElem_toArray, List.getElem_cons_zero, List.getElem_cons_succ, List.setIfInBounds_toArray, List.set_cons_zero, List.set_cons_succ]
        refine wpAnyH_take (i := 3) (v := ?_) rfl (by kernel_rfl) (by kernel_rfl) (by kernel_rfl) (fun _ _ _ h => h) (Or.inl ⟨by rfl, ?_⟩) hS ?_
        rotate_left
        · (intro W hs; go_simp; first | done | with_reducible rfl)
        try simp only [Act.put, List.getElem_toArray, List.getElem_cons_zero, List.getElem_cons_succ, List.setIfInBounds_toArray, List.set_cons_zero, List.set_cons_succ]
        refine wpAnyH_take (i := 4) (v := ?_) rfl (by kernel_rfl) (by kernel_rfl) (by kernel_rfl) (fun _ _ _ h => h) (Or.inl ⟨by rfl, ?_⟩) hS ?_
        rotate_left
        · (intro W hs; go_simp; first | done | with_reducible rfl)
        try simp only [Act.put, List.getElem_toArray, List.getElem_cons_zero, List.getElem_cons_succ, List.setIfInBounds_toArray, List.set_cons_zero, List.set_cons_succ]
        refine wpAnyH_take (i := 5) (v := ?_) rfl (by kernel_rfl) (by kernel_rfl) (by kernel_rfl) (fun _ _ _ h => h) (Or.inl ⟨by rfl, ?_⟩) hS ?_
        rotate_left
        · (intro W hs; go_simp; first | done | with_reducible rfl)
        try simp only [Act.put, List.getElem_toArray, List.getElem_cons_zero, List.getElem_cons_succ, List.setIfInBounds_toArray, List.set_cons_zero, List.set_cons_succ]
        refine wpH_one (i := 6) (by kernel_rfl) rfl (fun K hK => ?_)
        go_simp
        refine (CCx.out _).mono ?_
        rintro e' w' ⟨rfl, hfi⟩
        refine hK.out _ _ (hS.trans hfi) (fun hS' => ?_)
        clear hK K hS hfi
        have hS := hS'
        clear hS'
        try simp only [Act.put, List.getElem_toArray, List.getElem_cons_zero, List.getElem_cons_succ, List.setIfInBounds_toArray, List.set_cons_zero, List.set_cons_succ]
        refine wpAnyH_take (i := 7) (v := ?_) rfl (by kernel_rfl) (by kernel_rfl) (by kernel_rfl) (fun _ _ _ h => h) (Or.inl ⟨by rfl, ?_⟩) hS ?_
        rotate_left
        · (intro W hs; go_simp; first | done | with_reducible rfl)
        try simp only [Act.put, List.getElem_toArray, List.getElem_cons_zero, List.getElem_cons_succ, List.setIfInBounds_toArray, List.set_cons_zero, List.set_cons_succ]
        refine wpAnyH_done (by kernel_rfl) ?_ _
        have HF2 := Lib.hid (HF.out.trans hS)
        clear hS s0 g0 g1 g2 k0 k1 k2
        go_wp2
        go_roundw
        case rel => exact ⟨h + 1, J, by go_num, rfl, by omega, hJ, hJl, HF2.out⟩
        case measure => simp [intOf]; omega
      · have CCx : Hid (∀ W : World, Calls Try.prog 17 #[.agg #[.int .i64 x.f, .int .i64 x.t, .int .i64 x.l], .agg #[.int .i64 e.f, .int .i64 e.t, .int .i64 e.l]] W fun e' w' => e' = .returned (.int .i64 (cmpE x e)) ∧ Fx No W w') := Lib.hid fun W => CC.out x e W
        have d1 : decide (cmpE x e < 0) = false := decide_eq_false fun q => hc (HLh.out.1 (cmpE_neg.1 q))
        go_wp2_with fail
        refine wp_region_H (fun W => Fx No wr W) (by kernel_rfl) s0.drew ?_
        intro hS
        refine wpAnyH_take (i := 0) (v := ?_) rfl (by kernel_rfl) (by kernel_rfl) (by kernel_rfl) (fun _ _ _ h => h) (Or.inl ⟨by rfl, ?_⟩) hS ?_
        rotate_left
        · (intro W hs; go_simp; first | done | with_reducible rfl)
        try simp only [Act.put, List.getElem_toArray, List.getElem_cons_zero, List.getElem_cons_succ, List.setIfInBounds_toArray, List.set_cons_zero, List.set_cons_succ]
        refine wpAnyH_take (i := 1) (v := ?_) rfl (by kernel_rfl) (by kernel_rfl) (by kernel_rfl) (fun _ _ _ h => h) (Or.inl ⟨by rfl, ?_⟩) hS ?_
        rotate_left
        · (intro W hs; go_simp; first | done | with_reducible rfl)
        try simp only [Act.put, List.getElem_toArray, List.getElem_cons_zero, List.getElem_cons_succ, List.setIfInBounds_toArray, List.set_cons_zero, List.set_cons_succ]
        refine wpAnyH_take (i := 2) (v := ?_) rfl (by kernel_rfl) (by kernel_rfl) (by kernel_rfl) (fun _ _ _ h => h) (Or.inl ⟨by rfl, ?_⟩) hS ?_
        rotate_left
        · (intro W hs; go_simp; first | done | with_reducible rfl)
        try simp only [Act.put, List.getElem_toArray, List.getElem_cons_zero, List.getElem_cons_succ, List.setIfInBounds_toArray, List.set_cons_zero, List.set_cons_succ]
        refine wpAnyH_take (i := 3) (v := ?_) rfl (by kernel_rfl) (by kernel_rfl) (by kernel_rfl) (fun _ _ _ h => h) (Or.inl ⟨by rfl, ?_⟩) hS ?_
        rotate_left
        · (intro W hs; go_simp; first | done | with_reducible rfl)
        try simp only [Act.put, List.getElem_toArray, List.getElem_cons_zero, List.getElem_cons_succ, List.setIfInBounds_toArray, List.set_cons_zero, List.set_cons_succ]
        refine wpAnyH_take (i := 4) (v := ?_) rfl (by kernel_rfl) (by kernel_rfl) (by kernel_rfl) (fun _ _ _ h => h) (Or.inl ⟨by rfl, ?_⟩) hS ?_
        rotate_left
        · (intro W hs; go_simp; first | done | with_reducible rfl)
        try simp only [Act.put, List.getElem_toArray, List.getElem_cons_zero, List.getElem_cons_succ, List.setIfInBounds_toArray, List.set_cons_zero, List.set_cons_succ]
        refine wpAnyH_take (i := 5) (v := ?_) rfl (by kernel_rfl) (by kernel_rfl) (by kernel_rfl) (fun _ _ _ h => h) (Or.inl ⟨by rfl, ?_⟩) hS ?_
        rotate_left
        · (intro W hs; go_simp; first | done | with_reducible rfl)
        try simp only [Act.put, List.getElem_toArray, List.getElem_cons_zero, List.getElem_cons_succ, List.setIfInBounds_toArray, List.set_cons_zero, List.set_cons_succ]
        refine wpH_one (i := 6) (by kernel_rfl) rfl (fun K hK => ?_)
        go_simp
        refine (CCx.out _).mono ?_
        rintro e' w' ⟨rfl, hfi⟩
        refine hK.out _ _ (hS.trans hfi) (fun hS' => ?_)
        clear hK K hS hfi
        have hS := hS'
        clear hS'
        try simp only [Act.put, List.getElem_toArray, List.getElem_cons_zero, List.getElem_cons_succ, List.setIfInBounds_toArray, List.set_cons_zero, List.set_cons_succ]
        refine wpAnyH_take (i := 7) (v := ?_) rfl (by kernel_rfl) (by kernel_rfl) (by kernel_rfl) (fun _ _ _ h => h) (Or.inl ⟨by rfl, ?_⟩) hS ?_
        rotate_left
        · (intro W hs; go_simp; first | done | with_reducible rfl)
        try simp only [Act.put, List.getElem_toArray, List.getElem_cons_zero, List.getElem_cons_succ, List.setIfInBounds_toArray, List.set_cons_zero, List.set_cons_succ]
        refine wpAnyH_done (by kernel_rfl) ?_ _
        have HF2 := Lib.hid (HF.out.trans hS)
        clear hS s0 g0 g1 g2 k0 k1 k2
        go_wp2
        go_roundw
        case rel => exact ⟨I, h, rfl, by go_num, hI, by omega, by omega, HF2.out⟩
        case measure => simp [intOf]; omega
    · obtain rfl : I = p := by omega
      obtain rfl : J = I := by omega
      have hlt' : ¬ (J : Int) < (J : Int) := by omega
      by_cases hn : J < xs.length
      · have hn' : (J : Int) < (xs.length : Int) := by omega
        obtain ⟨b, o, rfl, _, p0, p1, p2⟩ := HC.out J hn
        obtain ⟨x, hx⟩ : ∃ x, x = gt xs J := ⟨_, rfl⟩
        have HMx : Hid (tm = decide (x = e)) := Lib.hid (by
          have h1 := HM.out
          rw [← hx] at h1
          rw [HTm.out, Bool.eq_iff_iff, decide_eq_true_iff, decide_eq_true_iff, h1]
          exact ⟨fun q => q.2, fun q => ⟨hn, q⟩⟩)
        rw [← hx] at p0 p1 p2
        have k0 : ∀ W, Fx No wr W → W.cell? ⟨b, o + J * 3, none⟩ = some (.int .i64 x.f) := fun W hw => ((HX.out.trans HF.out).trans hw).cell' p0 (fun h => h)
        have k1 : ∀ W, Fx No wr W → W.cell? ⟨b, o + J * 3 + 1, none⟩ = some (.int .i64 x.t) := fun W hw => ((HX.out.trans HF.out).trans hw).cell' p1 (fun h => h)
        have k2 : ∀ W, Fx No wr W → W.cell? ⟨b, o + J * 3 + 2, none⟩ = some (.int .i64 x.l) := fun W hw => ((HX.out.trans HF.out).trans hw).cell' p2 (fun h => h)
        clear p0 p1 p2 hx
        have CCx : Hid (∀ W : World, Calls Try.prog 17 #[.agg #[.int .i64 x.f, .int .i64 x.t, .int .i64 x.l], .agg #[.int .i64 e.f, .int .i64 e.t, .int .i64 e.l]] W fun e' w' => e' = .returned (.int .i64 (cmpE x e)) ∧ Fx No W w') := Lib.hid fun W => CC.out x e W
        have d1 : (cmpE x e == 0) = tm := by
          rw [HMx.out, Bool.eq_iff_iff, beq_iff_eq, decide_eq_true_iff]
          exact cmpE_zero
        go_wp2_with fail
        refine wp_region_H (fun W => Fx No wr W) (by kernel_rfl) s0.drew ?_
        intro hS
        refine wpAnyH_take (i := 0) (v := ?_) rfl (by kernel_rfl) (by kernel_rfl) (by kernel_rfl) (fun _ _ _ h => h) (Or.inl ⟨by rfl, ?_⟩) hS ?_
        rotate_left
        · (intro W hs; go_simp; first | done | with_reducible rfl)
        try simp only [Act.put, List.getElem_toArray, List.getElem_cons_zero, List.getElem_cons_succ, List.setIfInBounds_toArray, List.set_cons_zero, List.set_cons_succ]
        refine wpAnyH_take (i := 1) (v := ?_) rfl (by kernel_rfl) (by kernel_rfl) (by kernel_rfl) (fun _ _ _ h => h) (Or.inl ⟨by rfl, ?_⟩) hS ?_
        rotate_left
        · (intro W hs; go_simp; first | done | with_reducible rfl)
        try simp only [Act.put, List.getElem_toArray, List.getElem_cons_zero, List.getElem_cons_succ, List.setIfInBounds_toArray, List.set_cons_zero, List.set_cons_succ]
        refine wpAnyH_take (i := 2) (v := ?_) rfl (by kernel_rfl) (by kernel_rfl) (by kernel_rfl) (fun _ _ _ h => h) (Or.inl ⟨by rfl, ?_⟩) hS ?_
        rotate_left
        · (intro W hs; go_simp; first | done | with_reducible rfl)
        try simp only [Act.put, List.getElem_toArray, List.getElem_cons_zero, List.getElem_cons_succ, List.setIfInBounds_toArray, List.set_cons_zero, List.set_cons_succ]
        refine wpAnyH_take (i := 3) (v := ?_) rfl (by kernel_rfl) (by kernel_rfl) (by kernel_rfl) (fun _ _ _ h => h) (Or.inl ⟨by rfl, ?_⟩) hS ?_
        rotate_left
        · (intro W hs; go_simp; first | done | with_reducible rfl)
        try simp only [Act.put, List.getElem_toArray, List.getElem_cons_zero, List.getElem_cons_succ, List.setIfInBounds_toArray, List.set_cons_zero, List.set_cons_succ]
        refine wpAnyH_take (i := 4) (v := ?_) rfl (by kernel_rfl) (by kernel_rfl) (by kernel_rfl) (fun _ _ _ h => h) (Or.inl ⟨by rfl, ?_⟩) hS ?_
        rotate_left
        · (intro W hs; go_simp; first | done | with_reducible rfl)
        try simp only [Act.put, List.getElem_toArray, List.getElem_cons_zero, List.getElem_cons_succ, List.setIfInBounds_toArray, List.set_cons_zero, List.set_cons_succ]
        refine wpAnyH_take (i := 5) (v := ?_) rfl (by kernel_rfl) (by kernel_rfl) (by kernel_rfl) (fun _ _ _ h => h) (Or.inl ⟨by rfl, ?_⟩) hS ?_
        rotate_left
        · (intro W hs; go_simp; first | done | with_reducible rfl)
        try simp only [Act.put, List.getElem_toArray, List.getElem_cons_zero, List.getElem_cons_succ, List.setIfInBounds_toArray, List.set_cons_zero, List.set_cons_succ]
        refine wpAnyH_take (i := 6) (v := ?_) rfl (by kernel_rfl) (by kernel_rfl) (by kernel_rfl) (fun _ _ _ h => h) (Or.inl ⟨by rfl, ?_⟩) hS ?_
        rotate_left
        · (intro W hs; go_simp; first | done | with_reducible rfl)
        try simp only [Act.put, List.getElem_toArray, List.getElem_cons_zero, List.getElem_cons_succ, List.setIfInBounds_toArray, List.set_cons_zero, List.set_cons_succ]
        refine wpAnyH_take (i := 7) (v := ?_) rfl (by kernel_rfl) (by kernel_rfl) (by kernel_rfl) (fun _ _ _ h => h) (Or.inl ⟨by rfl, ?_⟩) hS ?_
        rotate_left
        · (intro W hs; go_simp; first | done | with_reducible rfl)
        try simp only [Act.put, List.getElem_toArray, List.getElem_cons_zero, List.getElem_cons_succ, List.setIfInBounds_toArray, List.set_cons_zero, List.set_cons_succ]
        refine wpAnyH_take (i := 8) (v := ?_) rfl (by kernel_rfl) (by kernel_rfl) (by kernel_rfl) (fun _ _ _ h => h) (Or.inl ⟨by rfl, ?_⟩) hS ?_
        rotate_left
        · (intro W hs; go_simp; first | done | with_reducible rfl)
        try simp only [Act.put, List.getElem_toArray, List.getElem_cons_zero, List.getElem_cons_succ, List.setIfInBounds_toArray, List.set_cons_zero, List.set_cons_succ]
        refine wpAnyH_take (i := 9) (v := ?_) rfl (by kernel_rfl) (by kernel_rfl) (by kernel_rfl) (fun _ _ _ h => h) (Or.inl ⟨by rfl, ?_⟩) hS ?_
        rotate_left
        · (intro W hs; go_simp; first | done | with_reducible rfl)
        try simp only [Act.put, List.getElem_toArray, List.getElem_cons_zero, List.getElem_cons_succ, List.setIfInBounds_toArray, List.set_cons_zero, List.set_cons_succ]
        refine wpAnyH_take (i := 10) (v := ?_) rfl (by kernel_rfl) (by kernel_rfl) (by kernel_rfl) (fun _ _ _ h => h) (Or.inl ⟨by rfl, ?_⟩) hS ?_
        rotate_left
        · (intro W hs; go_simp; first | done | with_reducible rfl)
        try simp only [Act.put, List.getElem_toArray, List.getElem_cons_zero, List.getElem_cons_succ, List.setIfInBounds_toArray, List.set_cons_zero, List.set_cons_succ]
        refine wpH_one (i := 11) (by kernel_rfl) rfl (fun K hK => ?_)
        go_simp
        refine (CCx.out _).mono ?_
        rintro e' w' ⟨rfl, hfi⟩
        refine hK.out _ _ (hS.trans hfi) (fun hS' => ?_)
        clear hK K hS hfi
        have hS := hS'
        clear hS'
        try simp only [Act.put, List.getElem_toArray, List.getElem_cons_zero, List.getElem_cons_succ, List.setIfInBounds_toArray, List.set_cons_zero, List.set_cons_succ]
        refine wpAnyH_take (i := 12) (v := ?_) rfl (by kernel_rfl) (by kernel_rfl) (by kernel_rfl) (fun _ _ _ h => h) (Or.inl ⟨by rfl, ?_⟩) hS ?_
        rotate_left
        · (intro W hs; go_simp; first | done | with_reducible rfl)
        try simp only [Act.put, List.getElem_toArray, List.getElem_cons_zero, List.getElem_cons_succ, List.setIfInBounds_toArray, List.set_cons_zero, List.set_cons_succ]
        refine wpAnyH_take (i := 13) (v := ?_) rfl (by kernel_rfl) (by kernel_rfl) (by kernel_rfl) (fun _ _ _ h => h) (Or.inl ⟨by rfl, ?_⟩) hS ?_
        rotate_left
        · (intro W hs; go_simp; first | done | with_reducible rfl)
        try simp only [Act.put, List.getElem_toArray, List.getElem_cons_zero, List.getElem_cons_succ, List.setIfInBounds_toArray, List.set_cons_zero, List.set_cons_succ]
        refine wpAnyH_take (i := 14) (v := ?_) rfl (by kernel_rfl) (by kernel_rfl) (by kernel_rfl) (fun _ _ _ h => h) (Or.inl ⟨by rfl, ?_⟩) hS ?_
        rotate_left
        · (intro W hs; go_simp; first | done | with_reducible rfl)
        try simp only [Act.put, List.getElem_toArray, List.getElem_cons_zero, List.getElem_cons_succ, List.setIfInBounds_toArray, List.set_cons_zero, List.set_cons_succ]
        refine wpAnyH_take (i := 15) (v := ?_) rfl (by kernel_rfl) (by kernel_rfl) (by kernel_rfl) (fun _ _ _ h => h) (Or.inl ⟨by rfl, ?_⟩) hS ?_
        rotate_left
        · (intro W hs; go_simp; first | done | with_reducible rfl)
        try simp only [Act.put, List.getElem_toArray, List.getElem_cons_zero, List.getElem_cons_succ, List.setIfInBounds_toArray, List.set_cons_zero, List.set_cons_succ]
        refine wpAnyH_done (by kernel_rfl) ?_ _
        have HF2 := Lib.hid (HF.out.trans hS)
        clear hS s0 g0 g1 g2 k0 k1 k2
        go_wp2
        go_ret2
        exact ⟨rfl, HX.out.trans HF2.out⟩
      · obtain rfl : J = xs.length := by omega
        have hn' : ¬ (xs.length : Int) < (xs.length : Int) := by omega
        have HMx : Hid (tm = false) := Lib.hid (by
          rw [HTm.out]
          exact decide_eq_false fun q => absurd (HM.out.1 q).1 (Nat.lt_irrefl _))
        go_wp2_with fail
        refine wp_region_H (fun W => Fx No wr W) (by kernel_rfl) s0.drew ?_
        intro hS
        refine wpAnyH_take (i := 0) (v := ?_) rfl (by kernel_rfl) (by kernel_rfl) (by kernel_rfl) (fun _ _ _ h => h) (Or.inl ⟨by rfl, ?_⟩) hS ?_
        rotate_left
        · (intro W hs; go_simp; first | done | with_reducible rfl)
        try simp only [Act.put, List.getElem_toArray, List.getElem_cons_zero, List.getElem_cons_succ, List.setIfInBounds_toArray, List.set_cons_zero, List.set_cons_succ]
        refine wpAnyH_take (i := 1) (v := ?_) rfl (by kernel_rfl) (by kernel_rfl) (by kernel_rfl) (fun _ _ _ h => h) (Or.inl ⟨by rfl, ?_⟩) hS ?_
        rotate_left
        · (intro W hs; go_simp; first | done | with_reducible rfl)
        try simp only [Act.put, List.getElem_toArray, List.getElem_cons_zero, List.getElem_cons_succ, List.setIfInBounds_toArray, List.set_cons_zero, List.set_cons_succ]
        refine wpAnyH_take (i := 2) (v := ?_) rfl (by kernel_rfl) (by kernel_rfl) (by kernel_rfl) (fun _ _ _ h => h) (Or.inl ⟨by rfl, ?_⟩) hS ?_
        rotate_left
        · (intro W hs; go_simp; first | done | with_reducible rfl)
        try simp only [Act.put, List.getElem_toArray, List.getElem_cons_zero, List.getElem_cons_succ, List.setIfInBounds_toArray, List.set_cons_zero, List.set_cons_succ]
        refine wpAnyH_take (i := 3) (v := ?_) rfl (by kernel_rfl) (by kernel_rfl) (by kernel_rfl) (fun _ _ _ h => h) (Or.inl ⟨by rfl, ?_⟩) hS ?_
        rotate_left
        · (intro W hs; go_simp; first | done | with_reducible rfl)
        try simp only [Act.put, List.getElem_toArray, List.getElem_cons_zero, List.getElem_cons_succ, List.setIfInBounds_toArray, List.set_cons_zero, List.set_cons_succ]
        refine wpAnyH_take (i := 4) (v := ?_) rfl (by kernel_rfl) (by kernel_rfl) (by kernel_rfl) (fun _ _ _ h => h) (Or.inl ⟨by rfl, ?_⟩) hS ?_
        rotate_left
        · (intro W hs; go_simp; first | done | with_reducible rfl)
        try simp only [Act.put, List.getElem_toArray, List.getElem_cons_zero, List.getElem_cons_succ, List.setIfInBounds_toArray, List.set_cons_zero, List.set_cons_succ]
        refine wpAnyH_take (i := 5) (v := undef) rfl (by kernel_rfl) (by kernel_rfl) (by kernel_rfl) (fun _ _ _ h => h) (Or.inr ⟨by rfl, rfl⟩) hS ?_
        try simp only [Act.put, List.getElem_toArray, List.getElem_cons_zero, List.getElem_cons_succ, List.setIfInBounds_toArray, List.set_cons_zero, List.set_cons_succ]
        refine wpAnyH_take (i := 6) (v := undef) rfl (by kernel_rfl) (by kernel_rfl) (by kernel_rfl) (fun _ _ _ h => h) (Or.inr ⟨by rfl, rfl⟩) hS ?_
        try simp only [Act.put, List.getElem_toArray, List.getElem_cons_zero, List.getElem_cons_succ, List.setIfInBounds_toArray, List.set_cons_zero, List.set_cons_succ]
        refine wpAnyH_take (i := 7) (v := undef) rfl (by kernel_rfl) (by kernel_rfl) (by kernel_rfl) (fun _ _ _ h => h) (Or.inr ⟨by rfl, rfl⟩) hS ?_
        try simp only [Act.put, List.getElem_toArray, List.getElem_cons_zero, List.getElem_cons_succ, List.setIfInBounds_toArray, List.set_cons_zero, List.set_cons_succ]
        refine wpAnyH_take (i := 8) (v := undef) rfl (by kernel_rfl) (by kernel_rfl) (by kernel_rfl) (fun _ _ _ h => h) (Or.inr ⟨by rfl, rfl⟩) hS ?_
        try simp only [Act.put, List.getElem_toArray, List.getElem_cons_zero, List.getElem_cons_succ, List.setIfInBounds_toArray, List.set_cons_zero, List.set_cons_succ]
        refine wpAnyH_take (i := 9) (v := undef) rfl (by kernel_rfl) (by kernel_rfl) (by kernel_rfl) (fun _ _ _ h => h) (Or.inr ⟨by rfl, rfl⟩) hS ?_
        try simp only [Act.put, List.getElem_toArray, List.getElem_cons_zero, List.getElem_cons_succ, List.setIfInBounds_toArray, List.set_cons_zero, List.set_cons_succ]
        refine wpAnyH_take (i := 10) (v := undef) rfl (by kernel_rfl) (by kernel_rfl) (by kernel_rfl) (fun _ _ _ h => h) (Or.inr ⟨by rfl, rfl⟩) hS ?_
        try simp only [Act.put, List.getElem_toArray, List.getElem_cons_zero, List.getElem_cons_succ, List.setIfInBounds_toArray, List.set_cons_zero, List.set_cons_succ]
        refine wpAnyH_take (i := 11) (v := undef) rfl (by kernel_rfl) (by kernel_rfl) (by kernel_rfl) (fun _ _ _ h => h) (Or.inr ⟨by rfl, rfl⟩) hS ?_
        try simp only [Act.put, List.getElem_toArray, List.getElem_cons_zero, List.getElem_cons_succ, List.setIfInBounds_toArray, List.set_cons_zero, List.set_cons_succ]
        refine wpAnyH_take (i := 12) (v := undef) rfl (by kernel_rfl) (by kernel_rfl) (by kernel_rfl) (fun _ _ _ h => h) (Or.inr ⟨by rfl, rfl⟩) hS ?_
        try simp only [Act.put, List.getElem_toArray, List.getElem_cons_zero, List.getElem_cons_succ, List.setIfInBounds_toArray, List.set_cons_zero, List.set_cons_succ]
        refine wpAnyH_take (i := 13) (v := ?_) rfl (by kernel_rfl) (by kernel_rfl) (by kernel_rfl) (fun _ _ _ h => h) (Or.inl ⟨by rfl, ?_⟩) hS ?_
        rotate_left
        · (intro W hs; go_simp; first | done | with_reducible rfl)
        try simp only [Act.put, List.getElem_toArray, List.getElem_cons_zero, List.getElem_cons_succ, List.setIfInBounds_toArray, List.set_cons_zero, List.set_cons_succ]
        refine wpAnyH_take (i := 14) (v := ?_) rfl (by kernel_rfl) (by kernel_rfl) (by kernel_rfl) (fun _ _ _ h => h) (Or.inl ⟨by rfl, ?_⟩) hS ?_
        rotate_left
        · (intro W hs; go_simp; first | done | with_reducible rfl)
        try simp only [Act.put, List.getElem_toArray, List.getElem_cons_zero, List.getElem_cons_succ, List.setIfInBounds_toArray, List.set_cons_zero, List.set_cons_succ]
        refine wpAnyH_take (i := 15) (v := ?_) rfl (by kernel_rfl) (by kernel_rfl) (by kernel_rfl) (fun _ _ _ h => h) (Or.inl ⟨by rfl, ?_⟩) hS ?_
        rotate_left
        · (intro W hs; go_simp; first | done | with_reducible rfl)
        try simp only [Act.put, List.getElem_toArray, List.getElem_cons_zero, List.getElem_cons_succ, List.setIfInBounds_toArray, List.set_cons_zero, List.set_cons_succ]
        refine wpAnyH_done (by kernel_rfl) ?_ _
        have HF2 := Lib.hid (HF.out.trans hS)
        clear hS s0 g0 g1 g2
        go_wp2
        go_ret2
        exact ⟨by rw [HMx.out]; rfl, HX.out.trans HF2.out⟩
end
#print axioms bsearch_any
end Go.Proofs.Ytcfajeldkioomaa
