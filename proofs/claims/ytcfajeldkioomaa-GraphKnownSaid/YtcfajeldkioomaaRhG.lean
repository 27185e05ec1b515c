/- The law GraphOrders. -/
import Derived.Test.YtcfajeldkioomaaRhF
import Derived.Deep.CutBlock
namespace Go.Proofs.Ytcfajeldkioomaa
open Go.RowKit
set_option linter.unusedVariables false

section
variable {w : World} {E E2 : Nat → Prop} {v u : Value} {l : List Ed} {zs : List Int}
set_option maxRecDepth 100000 in
set_option maxHeartbeats 16000000 in
theorem orders_any (n : Int) (h : EdsV w E v l) (hok : ∀ x ∈ l, x.ok) (hz : IntsV w E2 u zs) (which : Int) : Calls Try.prog 5 #[.int .i64 n, v, u, .int .i64 which] w fun e w' => e = .returned (.bool true) ∧ Fx No w w' := by
  have HE := Lib.hid h
  have HOk := Lib.hid hok
  have HZ := Lib.hid hz
  obtain ⟨ao, cap, rfl, hcl, hcm, _⟩ := EdsV.facts h
  obtain ⟨zo, zcap, rfl, hzl, hzc⟩ := IntsV.facts hz
  have HZc := Lib.hid hzc
  clear h hok hz hzc
  by_cases h1 : 40 < l.length
  · have d1 : decide ((40 : Int) < (l.length : Int)) = true := decide_eq_true (by omega)
    go_enter Try.func5, Try.ntmps5
    go_wp2_with fail
    refine (works_any _).mono ?_
    rintro e w1 ⟨rfl, hf⟩
    have HF := Lib.hid hf
    clear hf
    go_wp2
    go_ret
    exact ⟨rfl, HF.out⟩
  · have d1 : decide ((40 : Int) < (l.length : Int)) = false := decide_eq_false (by omega)
    by_cases h2 : 40 < zs.length
    · have d2 : decide ((40 : Int) < (zs.length : Int)) = true := decide_eq_true (by omega)
      clear h1
      go_enter Try.func5, Try.ntmps5
      go_wp2_with fail
      refine (works_any _).mono ?_
      rintro e w1 ⟨rfl, hf⟩
      have HF := Lib.hid hf
      clear hf
      go_wp2
      go_ret
      exact ⟨rfl, HF.out⟩
    · have d2 : decide ((40 : Int) < (zs.length : Int)) = false := decide_eq_false (by omega)
      have hl40 : l.length ≤ 40 := by omega
      have hz40 : zs.length ≤ 40 := by omega
      clear h1 h2
      obtain ⟨ii, hi, hz0, hs, hb⟩ := info_edge'
      go_enter Try.func5, Try.ntmps5
      go_wp2_with fail
      refine (drawn_any HE.out HOk.out (by omega) n 20 (by omega)).mono ?_
      rintro e w1 ⟨gb, N, L, rv, D, R, rfl, hD, hN, hL⟩
      obtain ⟨ro, rc, rfl, _⟩ := EdsV.facts hD.row
      have HD1 := Lib.hid hD
      have hL40 : L.length ≤ 40 := by omega
      clear hD
      go_wp2_with fail
      refine wp_hold (fun W => Fx No w1 W ∧ W.cell? ⟨w1.heap.size, 0, none⟩ = some (.int .i64 (N : Nat))) ⟨(Fx.refl No _).alloc _, by go_simp⟩ ?_
      rintro wx ⟨hfx, r0⟩
      obtain ⟨rb, hrb⟩ : ∃ q, q = w1.heap.size := ⟨_, rfl⟩
      rw [← hrb] at r0 ⊢
      have HD := Lib.hid (HD1.out.no hfx)
      have HR0 := Lib.hid r0
      have HAs := Lib.hid HD1.out.g.asc
      have HNd := Lib.hid HD1.out.g.nodes
      have HLok := Lib.hid HD1.out.g.ok
      clear hfx r0 hrb
      have g0 : ∀ W, Fx No wx W → W.cell? ⟨rb, 0, none⟩ = some (.int .i64 (N : Nat)) := fun W h => h.cell' HR0.out (fun h => h)
      have C1 : Hid (∀ W, Fx No wx W → Calls Try.prog 11 #[.pointer (some ⟨gb, 0, none⟩)] W fun e w' => ∃ b', e = .returned (.pointer (some ⟨b', 0, none⟩)) ∧ Fx No W w' ∧ ∃ D', GraphV w' D' b' N (backL L)) := Lib.hid fun W h => (gBack_any (HD.out.g.no h) (by omega)).mono fun e w' ⟨b', h1, h2, D', h3, _⟩ => ⟨b', h1, h2, D', h3⟩
      have C2 : Hid (∀ W b1, (∃ D', GraphV W D' b1 N (backL L)) → Calls Try.prog 11 #[.pointer (some ⟨b1, 0, none⟩)] W fun e w' => ∃ b', e = .returned (.pointer (some ⟨b', 0, none⟩)) ∧ Fx No W w' ∧ ∃ D', GraphV w' D' b' N L) := Lib.hid fun W b1 ⟨D1, h⟩ => (gBack_any h (by have := backL_len L; omega)).mono fun e w' ⟨b', h1, h2, D', h3, _⟩ => ⟨b', h1, h2, D', by rw [backL_back HAs.out] at h3; exact h3⟩
      have C3 : Hid (∀ W b2, Fx No wx W → (∃ D', GraphV W D' b2 N L) → Calls Try.prog 29 #[.pointer (some ⟨gb, 0, none⟩), .pointer (some ⟨b2, 0, none⟩)] W fun e w' => e = .returned (.bool true) ∧ Fx No W w') := Lib.hid fun W b2 h ⟨D2, h2⟩ => (gSame_any (HD.out.g.no h) h2).mono fun e w' ⟨h1, h2⟩ => ⟨by rw [h1, decide_eq_true ⟨rfl, rfl⟩], h2⟩
      have C4 : Hid (∀ W, Fx No wx W → Calls Try.prog 30 #[.pointer (some ⟨gb, 0, none⟩)] W fun e w' => e = .returned (.int .i64 (N : Nat)) ∧ Fx No W w') := Lib.hid fun W h => (gLen_any (HD.out.g.no h)).mono fun e w' ⟨h1, h2⟩ => ⟨h1, by subst h2; exact Fx.refl _ _⟩
      go_wp2_with fail
      refine wp_region_H (fun W => Fx No wx W) (by kernel_rfl) ((Fx.refl _ _).drew) ?_
      intro hS
      refine wpAnyH_hold (fun W' => Fx No wx W') hS ?_
      clear hS
      rintro y0 hS
      have hS0 := hS
      refine wpAnyH_take (i := 0) (v := ?_) rfl (by kernel_rfl) (by kernel_rfl) (by kernel_rfl) (fun _ _ _ h => h) (Or.inl ⟨by rfl, ?_⟩) hS ?_
      rotate_left
      · (intro W hs; go_simp; first | done | with_reducible rfl)
      try simp only [Act.put, List.getElem_toArray, List.getElem_cons_zero, List.getElem_cons_succ, List.setIfInBounds_toArray, List.set_cons_zero, List.set_cons_succ]
      refine wpAnyH_take (i := 1) (v := ?_) rfl (by kernel_rfl) (by kernel_rfl) (by kernel_rfl) (fun _ _ _ h => h) (Or.inl ⟨by rfl, ?_⟩) hS ?_
      rotate_left
      · (intro W hs; go_simp; first | done | with_reducible rfl)
      try simp only [Act.put, List.getElem_toArray, List.getElem_cons_zero, List.getElem_cons_succ, List.setIfInBounds_toArray, List.set_cons_zero, List.set_cons_succ]
      refine wpH_one (i := 2) (by kernel_rfl) rfl (fun K hK => ?_)
      go_simp
      refine (C1.out _ hS).mono ?_
      rintro e y1 ⟨b1, rfl, hfi, hb1⟩
      have HB1 := Lib.hid hb1
      have HZy1 : Hid (y0.heap.size ≤ y1.heap.size) := Lib.hid hfi.size
      have HSy1 : Hid (Fx No y0 y1) := Lib.hid hfi
      refine hK.out _ _ (hS.trans hfi) (fun hS' => ?_)
      clear hK K hS hfi hb1
      have hS := hS'
      clear hS'
      try simp only [Act.put, List.getElem_toArray, List.getElem_cons_zero, List.getElem_cons_succ, List.setIfInBounds_toArray, List.set_cons_zero, List.set_cons_succ]
      refine wpH_one (i := 3) (by kernel_rfl) rfl (fun K hK => ?_)
      go_simp
      refine (C2.out _ _ HB1.out).mono ?_
      rintro e y2 ⟨b2, rfl, hfi, hb2⟩
      have HB1 := Lib.hid ((let ⟨D', h⟩ := HB1.out; (⟨D', h.no hfi⟩ : ∃ D', GraphV _ D' _ _ _)))
      have HB2 := Lib.hid hb2
      have HZy2 : Hid (y1.heap.size ≤ y2.heap.size) := Lib.hid hfi.size
      have HSy2 : Hid (Fx No y1 y2) := Lib.hid hfi
      refine hK.out _ _ (hS.trans hfi) (fun hS' => ?_)
      clear hK K hS hfi hb2
      have hS := hS'
      clear hS'
      try simp only [Act.put, List.getElem_toArray, List.getElem_cons_zero, List.getElem_cons_succ, List.setIfInBounds_toArray, List.set_cons_zero, List.set_cons_succ]
      refine wpH_one (i := 4) (by kernel_rfl) rfl (fun K hK => ?_)
      go_simp
      refine (C3.out _ _ hS HB2.out).mono ?_
      rintro e y3 ⟨rfl, hfi⟩
      have HB1 := Lib.hid ((let ⟨D', h⟩ := HB1.out; (⟨D', h.no hfi⟩ : ∃ D', GraphV _ D' _ _ _)))
      have HB2 := Lib.hid ((let ⟨D', h⟩ := HB2.out; (⟨D', h.no hfi⟩ : ∃ D', GraphV _ D' _ _ _)))
      have HZy3 : Hid (y2.heap.size ≤ y3.heap.size) := Lib.hid hfi.size
      have HSy3 : Hid (Fx No y2 y3) := Lib.hid hfi
      refine hK.out _ _ (hS.trans hfi) (fun hS' => ?_)
      clear hK K hS hfi 
      have hS := hS'
      clear hS'
      try simp only [Act.put, List.getElem_toArray, List.getElem_cons_zero, List.getElem_cons_succ, List.setIfInBounds_toArray, List.set_cons_zero, List.set_cons_succ]
      refine wpAnyH_take (i := 5) (v := ?_) rfl (by kernel_rfl) (by kernel_rfl) (by kernel_rfl) (fun _ _ _ h => h) (Or.inl ⟨by rfl, ?_⟩) hS ?_
      rotate_left
      · (intro W hs; go_simp; first | done | with_reducible rfl)
      try simp only [Act.put, List.getElem_toArray, List.getElem_cons_zero, List.getElem_cons_succ, List.setIfInBounds_toArray, List.set_cons_zero, List.set_cons_succ]
      refine wpAnyH_take (i := 6) (v := ?_) rfl (by kernel_rfl) (by kernel_rfl) (by kernel_rfl) (fun _ _ _ h => h) (Or.inl ⟨by rfl, ?_⟩) hS ?_
      rotate_left
      · (intro W hs; go_simp; first | done | with_reducible rfl)
      try simp only [Act.put, List.getElem_toArray, List.getElem_cons_zero, List.getElem_cons_succ, List.setIfInBounds_toArray, List.set_cons_zero, List.set_cons_succ]
      refine wpAnyH_take (i := 7) (v := ?_) rfl (by kernel_rfl) (by kernel_rfl) (by kernel_rfl) (fun _ _ _ h => h) (Or.inl ⟨by rfl, ?_⟩) hS ?_
      rotate_left
      · (intro W hs; go_simp; first | done | with_reducible rfl)
      try simp only [Act.put, List.getElem_toArray, List.getElem_cons_zero, List.getElem_cons_succ, List.setIfInBounds_toArray, List.set_cons_zero, List.set_cons_succ]
      refine wpAnyH_take (i := 9) (v := ?_) rfl (by kernel_rfl) (by kernel_rfl) (by kernel_rfl) (fun _ _ _ h => h) (Or.inl ⟨by rfl, ?_⟩) hS ?_
      rotate_left
      · (intro W hs; go_simp; first | done | with_reducible rfl)
      try simp only [Act.put, List.getElem_toArray, List.getElem_cons_zero, List.getElem_cons_succ, List.setIfInBounds_toArray, List.set_cons_zero, List.set_cons_succ]
      refine wpAnyH_take (i := 10) (v := ?_) rfl (by kernel_rfl) (by kernel_rfl) (by kernel_rfl) (fun _ _ _ h => h) (Or.inl ⟨by rfl, ?_⟩) hS ?_
      rotate_left
      · (intro W hs; go_simp; first | done | with_reducible rfl)
      try simp only [Act.put, List.getElem_toArray, List.getElem_cons_zero, List.getElem_cons_succ, List.setIfInBounds_toArray, List.set_cons_zero, List.set_cons_succ]
      refine wpH_one (i := 8) (by kernel_rfl) rfl (fun K hK => ?_)
      go_simp
      refine (C4.out _ hS).mono ?_
      rintro e y4 ⟨rfl, hfi⟩
      have HB1 := Lib.hid ((let ⟨D', h⟩ := HB1.out; (⟨D', h.no hfi⟩ : ∃ D', GraphV _ D' _ _ _)))
      have HB2 := Lib.hid ((let ⟨D', h⟩ := HB2.out; (⟨D', h.no hfi⟩ : ∃ D', GraphV _ D' _ _ _)))
      have HZy4 : Hid (y3.heap.size ≤ y4.heap.size) := Lib.hid hfi.size
      have HSy4 : Hid (Fx No y3 y4) := Lib.hid hfi
      refine hK.out _ _ (hS.trans hfi) (fun hS' => ?_)
      clear hK K hS hfi 
      have hS := hS'
      clear hS'
      try simp only [Act.put, List.getElem_toArray, List.getElem_cons_zero, List.getElem_cons_succ, List.setIfInBounds_toArray, List.set_cons_zero, List.set_cons_succ]
      refine wpAnyH_take (i := 11) (v := ?_) rfl (by kernel_rfl) (by kernel_rfl) (by kernel_rfl) (fun _ _ _ h => h) (Or.inl ⟨by rfl, ?_⟩) hS ?_
      rotate_left
      · (intro W hs; go_simp; first | done | with_reducible rfl)
      try simp only [Act.put, List.getElem_toArray, List.getElem_cons_zero, List.getElem_cons_succ, List.setIfInBounds_toArray, List.set_cons_zero, List.set_cons_succ]
      refine wpAnyH_take (i := 12) (v := ?_) rfl (by kernel_rfl) (by kernel_rfl) (by kernel_rfl) (fun _ _ _ h => h) (Or.inl ⟨by rfl, ?_⟩) hS ?_
      rotate_left
      · (intro W hs; go_simp; first | done | with_reducible rfl)
      try simp only [Act.put, List.getElem_toArray, List.getElem_cons_zero, List.getElem_cons_succ, List.setIfInBounds_toArray, List.set_cons_zero, List.set_cons_succ]
      refine wpAnyH_done (by kernel_rfl) ?_ _
      have HF0 := Lib.hid hS
      clear hS hS0 g0 C1 C2 C3 C4 HB1 HB2
      refine pq_hold (fun W => Fx No wx W) HF0.out ?_
      rintro wy hfy
      have HFy := Lib.hid hfy
      have r0 := hfy.cell' HR0.out (fun h => h)
      clear hfy HF0
      go_wp2
      go_loopw [11, 12, 13, 14, 15, 16, 17] (fun oo ii k _ _ _ _ ws => ∃ κ : Nat, k = .int .i64 κ ∧ oo = .int .i64 (sumK Ed.f L κ : Nat) ∧ ii = .int .i64 (sumK Ed.t L κ : Nat) ∧ κ ≤ N ∧ Fx No wx ws) (fun _ _ k _ _ _ _ _ => N - (intOf k).toNat)
      case atStart => exact ⟨0, rfl, rfl, rfl, Nat.zero_le _, HFy.out⟩
      case round =>
        obtain ⟨κ, rfl, rfl, rfl, hκ, hf⟩ := hrel
        have HF := Lib.hid hf
        have r0 := hf.cell' HR0.out (fun h => h)
        have hs1 := sumK_le Ed.f κ L
        have hs2 := sumK_le Ed.t κ L
        obtain ⟨wa, hwa⟩ : ∃ x, x = wr := ⟨_, rfl⟩
        subst hwa
        clear hf
        by_cases hκl : κ < N
        · have dk : decide ((κ : Int) < (N : Int)) = true := decide_eq_true (by omega)
          have dk2 : decide (κ < N) = true := decide_eq_true hκl
          have HK := Lib.hid hκl
          clear hκl
          go_wp2_with fail
          refine (gOut_any (HD.out.g.no HF.out) (κ : Int)).mono ?_
          rintro e w2 ⟨v2, rfl, hf, ho⟩
          rw [rowI_in HK.out] at ho
          obtain ⟨A, hA⟩ : ∃ A, A = outE L κ := ⟨_, rfl⟩
          rw [← hA] at ho
          obtain ⟨oo, oc, rfl, _⟩ := EdsV.facts (OwnT.row ho)
          have HOA := Lib.hid ho
          have HF2 := Lib.hid (HF.out.trans hf)
          have hAl : A.length ≤ 40 := by rw [hA]; exact Nat.le_trans (List.length_filter_le _ _) hL40
          have HAA : Hid (Asc A ∧ ∀ x ∈ A, x.f = (κ : Int)) := Lib.hid (by rw [hA]; exact ⟨HAs.out.out κ, fun x hx => (mem_outE.1 hx).2⟩)
          have HSA : Hid (sumK Ed.f L (κ + 1) = sumK Ed.f L κ + A.length) := Lib.hid (by rw [hA]; rfl)
          clear hf ho hA
          go_wp2_with fail
          refine (gIn_any (HD.out.g.no HF2.out) (κ : Int)).mono ?_
          rintro e w3 ⟨v3, rfl, hf, ho⟩
          rw [rowI_in HK.out] at ho
          obtain ⟨B, hB⟩ : ∃ A, A = inE L κ := ⟨_, rfl⟩
          rw [← hB] at ho
          obtain ⟨io, ic, rfl, _⟩ := EdsV.facts (OwnT.row ho)
          have HOB := Lib.hid ho
          have HOA := Lib.hid (OwnT.no HOA.out hf)
          have HF3 := Lib.hid (HF2.out.trans hf)
          have hBl : B.length ≤ 40 := by rw [hB]; exact Nat.le_trans (List.length_filter_le _ _) hL40
          have HBB : Hid (Asc B ∧ ∀ x ∈ B, x.t = (κ : Int)) := Lib.hid (by rw [hB]; exact ⟨HAs.out.inn κ, fun x hx => (mem_inE.1 hx).2⟩)
          have HSB : Hid (sumK Ed.t L (κ + 1) = sumK Ed.t L κ + B.length) := Lib.hid (by rw [hB]; rfl)
          clear hf ho hB HF2 r0
          obtain ⟨so, hso⟩ : ∃ s, s = sumK Ed.f L κ := ⟨_, rfl⟩
          obtain ⟨si, hsi⟩ : ∃ s, s = sumK Ed.t L κ := ⟨_, rfl⟩
          rw [← hso] at hs1 HSA ⊢
          rw [← hsi] at hs2 HSB ⊢
          clear hso hsi
          go_wp2
          go_loopw [16] (fun i ws => ∃ q : Nat, i = .int .i64 q ∧ q ≤ A.length ∧ Fx No w3 ws) (fun i _ => A.length - (intOf i).toNat)
          case atStart => exact ⟨0, rfl, Nat.zero_le _, Fx.refl _ _⟩
          case round =>
            obtain ⟨q, rfl, hq, hf⟩ := hrel
            have HFq := Lib.hid hf
            clear hf
            by_cases hql : q < A.length
            · have hq1 : (q : Int) < (A.length : Int) := by omega
              have hq0 : (0 : Int) ≤ (q : Int) := by omega
              obtain ⟨_, _, he, _, _, hcs⟩ := EdsV.facts (OwnT.row (OwnT.no HOA.out HFq.out))
              simp only [Value.slice.injEq] at he
              obtain ⟨rfl, _, rfl⟩ := he
              obtain ⟨xb, xo, rfl, _, p0', p1', p2'⟩ := hcs q hql
              have hkey : (gt A q).f = (κ : Int) := HAA.out.2 _ (gt_mem hql)
              rcases Nat.eq_zero_or_pos q with h0 | h0
              · subst h0
                rw [Nat.zero_mul, Nat.add_zero] at p0' p1' p2'
                rw [hkey] at p0'
                have p0 : ∀ W, Fx No wr W → W.cell? ⟨xb, xo, none⟩ = some (.int .i64 (κ : Int)) := fun W h => h.cell' p0' (fun h => h)
                have p1 : ∀ W, Fx No wr W → W.cell? ⟨xb, xo + 1, none⟩ = some (.int .i64 (gt A 0).t) := fun W h => h.cell' p1' (fun h => h)
                have p2 : ∀ W, Fx No wr W → W.cell? ⟨xb, xo + 2, none⟩ = some (.int .i64 (gt A 0).l) := fun W h => h.cell' p2' (fun h => h)
                clear hkey p0' p1' p2' hcs
                go_wp2_with fail
                refine wp_region_H (fun W => Fx No wr W) (by kernel_rfl) ((Fx.refl _ _).drew) ?_
                intro hS
                refine wpAnyH_hold (fun W' => Fx No wr W') hS ?_
                clear hS
                rintro y0 hS
                have hS0 := hS
                refine wpAnyH_take (i := 0) (v := ?_) rfl (by kernel_rfl) (by kernel_rfl) (by kernel_rfl) (fun _ _ _ h => h) (Or.inl ⟨by rfl, ?_⟩) hS ?_
                rotate_left
                · (intro W hs; go_simp; first | done | with_reducible rfl)
                try simp only [Act.put, List.getElem_toArray, List.getElem_cons_zero, List.getElem_cons_succ, List.setIfInBounds_toArray, List.set_cons_zero, List.set_cons_succ]
                refine wpAnyH_take (i := 1) (v := ?_) rfl (by kernel_rfl) (by kernel_rfl) (by kernel_rfl) (fun _ _ _ h => h) (Or.inl ⟨by rfl, ?_⟩) hS ?_
                rotate_left
                · (intro W hs; go_simp; first | done | with_reducible rfl)
                try simp only [Act.put, List.getElem_toArray, List.getElem_cons_zero, List.getElem_cons_succ, List.setIfInBounds_toArray, List.set_cons_zero, List.set_cons_succ]
                refine wpAnyH_take (i := 5) (v := ?_) rfl (by kernel_rfl) (by kernel_rfl) (by kernel_rfl) (fun _ _ _ h => h) (Or.inl ⟨by rfl, ?_⟩) hS ?_
                rotate_left
                · (intro W hs; go_simp; first | done | with_reducible rfl)
                try simp only [Act.put, List.getElem_toArray, List.getElem_cons_zero, List.getElem_cons_succ, List.setIfInBounds_toArray, List.set_cons_zero, List.set_cons_succ]
                refine wpAnyH_take (i := 2) (v := ?_) rfl (by kernel_rfl) (by kernel_rfl) (by kernel_rfl) (fun _ _ _ h => h) (Or.inl ⟨by rfl, ?_⟩) hS ?_
                rotate_left
                · (intro W hs; go_simp; first | done | with_reducible rfl)
                try simp only [Act.put, List.getElem_toArray, List.getElem_cons_zero, List.getElem_cons_succ, List.setIfInBounds_toArray, List.set_cons_zero, List.set_cons_succ]
                refine wpAnyH_take (i := 3) (v := ?_) rfl (by kernel_rfl) (by kernel_rfl) (by kernel_rfl) (fun _ _ _ h => h) (Or.inl ⟨by rfl, ?_⟩) hS ?_
                rotate_left
                · (intro W hs; go_simp; first | done | with_reducible rfl)
                try simp only [Act.put, List.getElem_toArray, List.getElem_cons_zero, List.getElem_cons_succ, List.setIfInBounds_toArray, List.set_cons_zero, List.set_cons_succ]
                refine wpAnyH_take (i := 4) (v := ?_) rfl (by kernel_rfl) (by kernel_rfl) (by kernel_rfl) (fun _ _ _ h => h) (Or.inl ⟨by rfl, ?_⟩) hS ?_
                rotate_left
                · (intro W hs; go_simp; first | done | with_reducible rfl)
                try simp only [Act.put, List.getElem_toArray, List.getElem_cons_zero, List.getElem_cons_succ, List.setIfInBounds_toArray, List.set_cons_zero, List.set_cons_succ]
                refine wpAnyH_take (i := 6) (v := ?_) rfl (by kernel_rfl) (by kernel_rfl) (by kernel_rfl) (fun _ _ _ h => h) (Or.inl ⟨by rfl, ?_⟩) hS ?_
                rotate_left
                · (intro W hs; go_simp; first | done | with_reducible rfl)
                try simp only [Act.put, List.getElem_toArray, List.getElem_cons_zero, List.getElem_cons_succ, List.setIfInBounds_toArray, List.set_cons_zero, List.set_cons_succ]
                refine wpAnyH_take (i := 7) (v := ?_) rfl (by kernel_rfl) (by kernel_rfl) (by kernel_rfl) (fun _ _ _ h => h) (Or.inl ⟨by rfl, ?_⟩) hS ?_
                rotate_left
                · (intro W hs; go_simp; first | done | with_reducible rfl)
                try simp only [Act.put, List.getElem_toArray, List.getElem_cons_zero, List.getElem_cons_succ, List.setIfInBounds_toArray, List.set_cons_zero, List.set_cons_succ]
                refine wpAnyH_take (i := 8) (v := ?_) rfl (by kernel_rfl) (by kernel_rfl) (by kernel_rfl) (fun _ _ _ h => h) (Or.inl ⟨by rfl, ?_⟩) hS ?_
                rotate_left
                · (intro W hs; go_simp; first | done | with_reducible rfl)
                try simp only [Act.put, List.getElem_toArray, List.getElem_cons_zero, List.getElem_cons_succ, List.setIfInBounds_toArray, List.set_cons_zero, List.set_cons_succ]
                refine wpAnyH_take (i := 9) (v := ?_) rfl (by kernel_rfl) (by kernel_rfl) (by kernel_rfl) (fun _ _ _ h => h) (Or.inl ⟨by rfl, ?_⟩) hS ?_
                rotate_left
                · (intro W hs; go_simp; first | done | with_reducible rfl)
                try simp only [Act.put, List.getElem_toArray, List.getElem_cons_zero, List.getElem_cons_succ, List.setIfInBounds_toArray, List.set_cons_zero, List.set_cons_succ]
                refine wpAnyH_take (i := 10) (v := ?_) rfl (by kernel_rfl) (by kernel_rfl) (by kernel_rfl) (fun _ _ _ h => h) (Or.inl ⟨by rfl, ?_⟩) hS ?_
                rotate_left
                · (intro W hs; go_simp; first | done | with_reducible rfl)
                try simp only [Act.put, List.getElem_toArray, List.getElem_cons_zero, List.getElem_cons_succ, List.setIfInBounds_toArray, List.set_cons_zero, List.set_cons_succ]
                refine wpAnyH_take (i := 11) (v := undef) rfl (by kernel_rfl) (by kernel_rfl) (by kernel_rfl) (fun _ _ _ h => h) (Or.inr ⟨by rfl, rfl⟩) hS ?_
                try simp only [Act.put, List.getElem_toArray, List.getElem_cons_zero, List.getElem_cons_succ, List.setIfInBounds_toArray, List.set_cons_zero, List.set_cons_succ]
                refine wpAnyH_take (i := 12) (v := undef) rfl (by kernel_rfl) (by kernel_rfl) (by kernel_rfl) (fun _ _ _ h => h) (Or.inr ⟨by rfl, rfl⟩) hS ?_
                try simp only [Act.put, List.getElem_toArray, List.getElem_cons_zero, List.getElem_cons_succ, List.setIfInBounds_toArray, List.set_cons_zero, List.set_cons_succ]
                refine wpAnyH_take (i := 16) (v := undef) rfl (by kernel_rfl) (by kernel_rfl) (by kernel_rfl) (fun _ _ _ h => h) (Or.inr ⟨by rfl, rfl⟩) hS ?_
                try simp only [Act.put, List.getElem_toArray, List.getElem_cons_zero, List.getElem_cons_succ, List.setIfInBounds_toArray, List.set_cons_zero, List.set_cons_succ]
                refine wpAnyH_take (i := 17) (v := undef) rfl (by kernel_rfl) (by kernel_rfl) (by kernel_rfl) (fun _ _ _ h => h) (Or.inr ⟨by rfl, rfl⟩) hS ?_
                try simp only [Act.put, List.getElem_toArray, List.getElem_cons_zero, List.getElem_cons_succ, List.setIfInBounds_toArray, List.set_cons_zero, List.set_cons_succ]
                refine wpAnyH_take (i := 13) (v := undef) rfl (by kernel_rfl) (by kernel_rfl) (by kernel_rfl) (fun _ _ _ h => h) (Or.inr ⟨by rfl, rfl⟩) hS ?_
                try simp only [Act.put, List.getElem_toArray, List.getElem_cons_zero, List.getElem_cons_succ, List.setIfInBounds_toArray, List.set_cons_zero, List.set_cons_succ]
                refine wpAnyH_take (i := 18) (v := undef) rfl (by kernel_rfl) (by kernel_rfl) (by kernel_rfl) (fun _ _ _ h => h) (Or.inr ⟨by rfl, rfl⟩) hS ?_
                try simp only [Act.put, List.getElem_toArray, List.getElem_cons_zero, List.getElem_cons_succ, List.setIfInBounds_toArray, List.set_cons_zero, List.set_cons_succ]
                refine wpAnyH_take (i := 14) (v := undef) rfl (by kernel_rfl) (by kernel_rfl) (by kernel_rfl) (fun _ _ _ h => h) (Or.inr ⟨by rfl, rfl⟩) hS ?_
                try simp only [Act.put, List.getElem_toArray, List.getElem_cons_zero, List.getElem_cons_succ, List.setIfInBounds_toArray, List.set_cons_zero, List.set_cons_succ]
                refine wpAnyH_take (i := 19) (v := undef) rfl (by kernel_rfl) (by kernel_rfl) (by kernel_rfl) (fun _ _ _ h => h) (Or.inr ⟨by rfl, rfl⟩) hS ?_
                try simp only [Act.put, List.getElem_toArray, List.getElem_cons_zero, List.getElem_cons_succ, List.setIfInBounds_toArray, List.set_cons_zero, List.set_cons_succ]
                refine wpAnyH_take (i := 15) (v := undef) rfl (by kernel_rfl) (by kernel_rfl) (by kernel_rfl) (fun _ _ _ h => h) (Or.inr ⟨by rfl, rfl⟩) hS ?_
                try simp only [Act.put, List.getElem_toArray, List.getElem_cons_zero, List.getElem_cons_succ, List.setIfInBounds_toArray, List.set_cons_zero, List.set_cons_succ]
                refine wpAnyH_take (i := 20) (v := undef) rfl (by kernel_rfl) (by kernel_rfl) (by kernel_rfl) (fun _ _ _ h => h) (Or.inr ⟨by rfl, rfl⟩) hS ?_
                try simp only [Act.put, List.getElem_toArray, List.getElem_cons_zero, List.getElem_cons_succ, List.setIfInBounds_toArray, List.set_cons_zero, List.set_cons_succ]
                refine wpAnyH_take (i := 21) (v := undef) rfl (by kernel_rfl) (by kernel_rfl) (by kernel_rfl) (fun _ _ _ h => h) (Or.inr ⟨by rfl, rfl⟩) hS ?_
                try simp only [Act.put, List.getElem_toArray, List.getElem_cons_zero, List.getElem_cons_succ, List.setIfInBounds_toArray, List.set_cons_zero, List.set_cons_succ]
                refine wpAnyH_take (i := 22) (v := ?_) rfl (by kernel_rfl) (by kernel_rfl) (by kernel_rfl) (fun _ _ _ h => h) (Or.inl ⟨by rfl, ?_⟩) hS ?_
                rotate_left
                · (intro W hs; go_simp; first | done | with_reducible rfl)
                try simp only [Act.put, List.getElem_toArray, List.getElem_cons_zero, List.getElem_cons_succ, List.setIfInBounds_toArray, List.set_cons_zero, List.set_cons_succ]
                refine wpAnyH_take (i := 23) (v := ?_) rfl (by kernel_rfl) (by kernel_rfl) (by kernel_rfl) (fun _ _ _ h => h) (Or.inl ⟨by rfl, ?_⟩) hS ?_
                rotate_left
                · (intro W hs; go_simp; first | done | with_reducible rfl)
                try simp only [Act.put, List.getElem_toArray, List.getElem_cons_zero, List.getElem_cons_succ, List.setIfInBounds_toArray, List.set_cons_zero, List.set_cons_succ]
                refine wpAnyH_done (by kernel_rfl) ?_ _
                have HS := Lib.hid hS
                clear hS hS0 p0 p1 p2
                go_wp2_with fail
                go_roundw
                case rel => exact ⟨1, by go_num, by omega, HFq.out.trans HS.out⟩
                case measure => simp [intOf]; omega
              · obtain ⟨q', rfl⟩ : ∃ q', q = q' + 1 := ⟨q - 1, by omega⟩
                obtain ⟨_, _, hxo, _, s0', s1', s2'⟩ := hcs q' (by omega)
                simp only [Option.some.injEq, Addr.mk.injEq] at hxo
                obtain ⟨rfl, rfl, _⟩ := hxo
                have CC : Hid (∀ W, Calls Try.prog 17 #[.agg #[.int .i64 (gt A q').f, .int .i64 (gt A q').t, .int .i64 (gt A q').l], .agg #[.int .i64 (gt A (q' + 1)).f, .int .i64 (gt A (q' + 1)).t, .int .i64 (gt A (q' + 1)).l]] W fun e w' => e = .returned (.int .i64 (-1)) ∧ Fx No W w') := Lib.hid fun W => by
                  have := cmp_any (gt A q') (gt A (q' + 1)) W
                  rw [cmpE_lt (gt_lt HAA.out.1 hql)] at this
                  exact this
                obtain ⟨y, hy⟩ : ∃ y, y = gt A q' := ⟨_, rfl⟩
                obtain ⟨z, hz⟩ : ∃ z, z = gt A (q' + 1) := ⟨_, rfl⟩
                rw [← hz] at p0' p1' p2' hkey CC
                rw [← hy] at s0' s1' s2' CC
                obtain ⟨yf, yt, yl⟩ := y
                obtain ⟨zf, zt, zl⟩ := z
                simp only at p0' p1' p2' s0' s1' s2' CC hkey
                subst hkey
                have p0 : ∀ W, Fx No wr W → W.cell? ⟨xb, xo + (q' + 1) * 3, none⟩ = some (.int .i64 (κ : Int)) := fun W h => h.cell' p0' (fun h => h)
                have p1 : ∀ W, Fx No wr W → W.cell? ⟨xb, xo + (q' + 1) * 3 + 1, none⟩ = some (.int .i64 zt) := fun W h => h.cell' p1' (fun h => h)
                have p2 : ∀ W, Fx No wr W → W.cell? ⟨xb, xo + (q' + 1) * 3 + 2, none⟩ = some (.int .i64 zl) := fun W h => h.cell' p2' (fun h => h)
                have s0 : ∀ W, Fx No wr W → W.cell? ⟨xb, xo + q' * 3, none⟩ = some (.int .i64 yf) := fun W h => h.cell' s0' (fun h => h)
                have s1 : ∀ W, Fx No wr W → W.cell? ⟨xb, xo + q' * 3 + 1, none⟩ = some (.int .i64 yt) := fun W h => h.cell' s1' (fun h => h)
                have s2 : ∀ W, Fx No wr W → W.cell? ⟨xb, xo + q' * 3 + 2, none⟩ = some (.int .i64 yl) := fun W h => h.cell' s2' (fun h => h)
                have hw1 : IntKind.i64.wrap ((q' : Int) + 1 - 1) = (q' : Int) := by rw [IntKind.wrap_i64]; omega
                have hw2 : IntKind.i64.wrap (q' : Int) = (q' : Int) := by rw [IntKind.wrap_i64]; omega
                have hq2 : (q' : Int) < (A.length : Int) := by omega
                have hq3 : (0 : Int) ≤ (q' : Int) := by omega
                have hq4 : (0 : Int) < (q' : Int) + 1 := by omega
                have hq5 : (0 : Int) ≤ (q' : Int) + 1 := by omega
                have hq6 : (q' : Int) + 1 < (A.length : Int) := by omega
                clear p0' p1' p2' s0' s1' s2' hcs hy hz
                go_wp2_with fail
                refine wp_region_H (fun W => Fx No wr W) (by kernel_rfl) ((Fx.refl _ _).drew) ?_
                intro hS
                refine wpAnyH_hold (fun W' => Fx No wr W') hS ?_
                clear hS
                rintro y0 hS
                have hS0 := hS
                refine wpAnyH_take (i := 0) (v := ?_) rfl (by kernel_rfl) (by kernel_rfl) (by kernel_rfl) (fun _ _ _ h => h) (Or.inl ⟨by rfl, ?_⟩) hS ?_
                rotate_left
                · (intro W hs; go_simp; first | done | with_reducible rfl)
                try simp only [Act.put, List.getElem_toArray, List.getElem_cons_zero, List.getElem_cons_succ, List.setIfInBounds_toArray, List.set_cons_zero, List.set_cons_succ]
                refine wpAnyH_take (i := 1) (v := ?_) rfl (by kernel_rfl) (by kernel_rfl) (by kernel_rfl) (fun _ _ _ h => h) (Or.inl ⟨by rfl, ?_⟩) hS ?_
                rotate_left
                · (intro W hs; go_simp; first | done | with_reducible rfl)
                try simp only [Act.put, List.getElem_toArray, List.getElem_cons_zero, List.getElem_cons_succ, List.setIfInBounds_toArray, List.set_cons_zero, List.set_cons_succ]
                refine wpAnyH_take (i := 5) (v := ?_) rfl (by kernel_rfl) (by kernel_rfl) (by kernel_rfl) (fun _ _ _ h => h) (Or.inl ⟨by rfl, ?_⟩) hS ?_
                rotate_left
                · (intro W hs; go_simp; first | done | with_reducible rfl)
                try simp only [Act.put, List.getElem_toArray, List.getElem_cons_zero, List.getElem_cons_succ, List.setIfInBounds_toArray, List.set_cons_zero, List.set_cons_succ]
                refine wpAnyH_take (i := 2) (v := ?_) rfl (by kernel_rfl) (by kernel_rfl) (by kernel_rfl) (fun _ _ _ h => h) (Or.inl ⟨by rfl, ?_⟩) hS ?_
                rotate_left
                · (intro W hs; go_simp; first | done | with_reducible rfl)
                try simp only [Act.put, List.getElem_toArray, List.getElem_cons_zero, List.getElem_cons_succ, List.setIfInBounds_toArray, List.set_cons_zero, List.set_cons_succ]
                refine wpAnyH_take (i := 3) (v := ?_) rfl (by kernel_rfl) (by kernel_rfl) (by kernel_rfl) (fun _ _ _ h => h) (Or.inl ⟨by rfl, ?_⟩) hS ?_
                rotate_left
                · (intro W hs; go_simp; first | done | with_reducible rfl)
                try simp only [Act.put, List.getElem_toArray, List.getElem_cons_zero, List.getElem_cons_succ, List.setIfInBounds_toArray, List.set_cons_zero, List.set_cons_succ]
                refine wpAnyH_take (i := 4) (v := ?_) rfl (by kernel_rfl) (by kernel_rfl) (by kernel_rfl) (fun _ _ _ h => h) (Or.inl ⟨by rfl, ?_⟩) hS ?_
                rotate_left
                · (intro W hs; go_simp; first | done | with_reducible rfl)
                try simp only [Act.put, List.getElem_toArray, List.getElem_cons_zero, List.getElem_cons_succ, List.setIfInBounds_toArray, List.set_cons_zero, List.set_cons_succ]
                refine wpAnyH_take (i := 6) (v := ?_) rfl (by kernel_rfl) (by kernel_rfl) (by kernel_rfl) (fun _ _ _ h => h) (Or.inl ⟨by rfl, ?_⟩) hS ?_
                rotate_left
                · (intro W hs; go_simp; first | done | with_reducible rfl)
                try simp only [Act.put, List.getElem_toArray, List.getElem_cons_zero, List.getElem_cons_succ, List.setIfInBounds_toArray, List.set_cons_zero, List.set_cons_succ]
                refine wpAnyH_take (i := 7) (v := ?_) rfl (by kernel_rfl) (by kernel_rfl) (by kernel_rfl) (fun _ _ _ h => h) (Or.inl ⟨by rfl, ?_⟩) hS ?_
                rotate_left
                · (intro W hs; go_simp; first | done | with_reducible rfl)
                try simp only [Act.put, List.getElem_toArray, List.getElem_cons_zero, List.getElem_cons_succ, List.setIfInBounds_toArray, List.set_cons_zero, List.set_cons_succ]
                refine wpAnyH_take (i := 8) (v := ?_) rfl (by kernel_rfl) (by kernel_rfl) (by kernel_rfl) (fun _ _ _ h => h) (Or.inl ⟨by rfl, ?_⟩) hS ?_
                rotate_left
                · (intro W hs; go_simp; first | done | with_reducible rfl)
                try simp only [Act.put, List.getElem_toArray, List.getElem_cons_zero, List.getElem_cons_succ, List.setIfInBounds_toArray, List.set_cons_zero, List.set_cons_succ]
                refine wpAnyH_take (i := 9) (v := ?_) rfl (by kernel_rfl) (by kernel_rfl) (by kernel_rfl) (fun _ _ _ h => h) (Or.inl ⟨by rfl, ?_⟩) hS ?_
                rotate_left
                · (intro W hs; go_simp; first | done | with_reducible rfl)
                try simp only [Act.put, List.getElem_toArray, List.getElem_cons_zero, List.getElem_cons_succ, List.setIfInBounds_toArray, List.set_cons_zero, List.set_cons_succ]
                refine wpAnyH_take (i := 10) (v := ?_) rfl (by kernel_rfl) (by kernel_rfl) (by kernel_rfl) (fun _ _ _ h => h) (Or.inl ⟨by rfl, ?_⟩) hS ?_
                rotate_left
                · (intro W hs; go_simp; first | done | with_reducible rfl)
                try simp only [Act.put, List.getElem_toArray, List.getElem_cons_zero, List.getElem_cons_succ, List.setIfInBounds_toArray, List.set_cons_zero, List.set_cons_succ]
                refine wpAnyH_take (i := 11) (v := ?_) rfl (by kernel_rfl) (by kernel_rfl) (by kernel_rfl) (fun _ _ _ h => h) (Or.inl ⟨by rfl, ?_⟩) hS ?_
                rotate_left
                · (intro W hs; go_simp; first | done | with_reducible rfl)
                try simp only [Act.put, List.getElem_toArray, List.getElem_cons_zero, List.getElem_cons_succ, List.setIfInBounds_toArray, List.set_cons_zero, List.set_cons_succ]
                refine wpAnyH_take (i := 12) (v := ?_) rfl (by kernel_rfl) (by kernel_rfl) (by kernel_rfl) (fun _ _ _ h => h) (Or.inl ⟨by rfl, ?_⟩) hS ?_
                rotate_left
                · (intro W hs; go_simp; first | done | with_reducible rfl)
                try simp only [Act.put, List.getElem_toArray, List.getElem_cons_zero, List.getElem_cons_succ, List.setIfInBounds_toArray, List.set_cons_zero, List.set_cons_succ]
                refine wpAnyH_take (i := 16) (v := ?_) rfl (by kernel_rfl) (by kernel_rfl) (by kernel_rfl) (fun _ _ _ h => h) (Or.inl ⟨by rfl, ?_⟩) hS ?_
                rotate_left
                · (intro W hs; go_simp; first | done | with_reducible rfl)
                try simp only [Act.put, List.getElem_toArray, List.getElem_cons_zero, List.getElem_cons_succ, List.setIfInBounds_toArray, List.set_cons_zero, List.set_cons_succ]
                refine wpAnyH_take (i := 17) (v := ?_) rfl (by kernel_rfl) (by kernel_rfl) (by kernel_rfl) (fun _ _ _ h => h) (Or.inl ⟨by rfl, ?_⟩) hS ?_
                rotate_left
                · (intro W hs; go_simp; first | done | with_reducible rfl)
                try simp only [Act.put, List.getElem_toArray, List.getElem_cons_zero, List.getElem_cons_succ, List.setIfInBounds_toArray, List.set_cons_zero, List.set_cons_succ]
                refine wpAnyH_take (i := 13) (v := ?_) rfl (by kernel_rfl) (by kernel_rfl) (by kernel_rfl) (fun _ _ _ h => h) (Or.inl ⟨by rfl, ?_⟩) hS ?_
                rotate_left
                · (intro W hs; go_simp; first | done | with_reducible rfl)
                try simp only [Act.put, List.getElem_toArray, List.getElem_cons_zero, List.getElem_cons_succ, List.setIfInBounds_toArray, List.set_cons_zero, List.set_cons_succ]
                refine wpAnyH_take (i := 18) (v := ?_) rfl (by kernel_rfl) (by kernel_rfl) (by kernel_rfl) (fun _ _ _ h => h) (Or.inl ⟨by rfl, ?_⟩) hS ?_
                rotate_left
                · (intro W hs; go_simp; first | done | with_reducible rfl)
                try simp only [Act.put, List.getElem_toArray, List.getElem_cons_zero, List.getElem_cons_succ, List.setIfInBounds_toArray, List.set_cons_zero, List.set_cons_succ]
                refine wpAnyH_take (i := 14) (v := ?_) rfl (by kernel_rfl) (by kernel_rfl) (by kernel_rfl) (fun _ _ _ h => h) (Or.inl ⟨by rfl, ?_⟩) hS ?_
                rotate_left
                · (intro W hs; go_simp; first | done | with_reducible rfl)
                try simp only [Act.put, List.getElem_toArray, List.getElem_cons_zero, List.getElem_cons_succ, List.setIfInBounds_toArray, List.set_cons_zero, List.set_cons_succ]
                refine wpAnyH_take (i := 19) (v := ?_) rfl (by kernel_rfl) (by kernel_rfl) (by kernel_rfl) (fun _ _ _ h => h) (Or.inl ⟨by rfl, ?_⟩) hS ?_
                rotate_left
                · (intro W hs; go_simp; first | done | with_reducible rfl)
                try simp only [Act.put, List.getElem_toArray, List.getElem_cons_zero, List.getElem_cons_succ, List.setIfInBounds_toArray, List.set_cons_zero, List.set_cons_succ]
                refine wpAnyH_take (i := 15) (v := ?_) rfl (by kernel_rfl) (by kernel_rfl) (by kernel_rfl) (fun _ _ _ h => h) (Or.inl ⟨by rfl, ?_⟩) hS ?_
                rotate_left
                · (intro W hs; go_simp; first | done | with_reducible rfl)
                try simp only [Act.put, List.getElem_toArray, List.getElem_cons_zero, List.getElem_cons_succ, List.setIfInBounds_toArray, List.set_cons_zero, List.set_cons_succ]
                refine wpH_one (i := 20) (by kernel_rfl) rfl (fun K hK => ?_)
                go_simp
                refine (CC.out _).mono ?_
                rintro e y1 ⟨rfl, hfi⟩
                have HZy1 : Hid (y0.heap.size ≤ y1.heap.size) := Lib.hid hfi.size
                have HSy1 : Hid (Fx No y0 y1) := Lib.hid hfi
                refine hK.out _ _ (hS.trans hfi) (fun hS' => ?_)
                clear hK K hS hfi 
                have hS := hS'
                clear hS'
                try simp only [Act.put, List.getElem_toArray, List.getElem_cons_zero, List.getElem_cons_succ, List.setIfInBounds_toArray, List.set_cons_zero, List.set_cons_succ]
                refine wpAnyH_take (i := 21) (v := ?_) rfl (by kernel_rfl) (by kernel_rfl) (by kernel_rfl) (fun _ _ _ h => h) (Or.inl ⟨by rfl, ?_⟩) hS ?_
                rotate_left
                · (intro W hs; go_simp; first | done | with_reducible rfl)
                try simp only [Act.put, List.getElem_toArray, List.getElem_cons_zero, List.getElem_cons_succ, List.setIfInBounds_toArray, List.set_cons_zero, List.set_cons_succ]
                refine wpAnyH_take (i := 22) (v := ?_) rfl (by kernel_rfl) (by kernel_rfl) (by kernel_rfl) (fun _ _ _ h => h) (Or.inl ⟨by rfl, ?_⟩) hS ?_
                rotate_left
                · (intro W hs; go_simp; first | done | with_reducible rfl)
                try simp only [Act.put, List.getElem_toArray, List.getElem_cons_zero, List.getElem_cons_succ, List.setIfInBounds_toArray, List.set_cons_zero, List.set_cons_succ]
                refine wpAnyH_take (i := 23) (v := ?_) rfl (by kernel_rfl) (by kernel_rfl) (by kernel_rfl) (fun _ _ _ h => h) (Or.inl ⟨by rfl, ?_⟩) hS ?_
                rotate_left
                · (intro W hs; go_simp; first | done | with_reducible rfl)
                try simp only [Act.put, List.getElem_toArray, List.getElem_cons_zero, List.getElem_cons_succ, List.setIfInBounds_toArray, List.set_cons_zero, List.set_cons_succ]
                refine wpAnyH_done (by kernel_rfl) ?_ _
                have HS := Lib.hid hS
                clear hS hS0 p0 p1 p2 s0 s1 s2 CC
                go_wp2_with fail
                go_roundw
                case rel => exact ⟨q' + 1 + 1, by go_num, by omega, HFq.out.trans HS.out⟩
                case measure => simp [intOf]; omega
            · have hdF : decide ((q : Int) < (A.length : Int)) = false := decide_eq_false (by omega)
              have hdF2 : decide (q < A.length) = false := decide_eq_false hql
              clear hql
              obtain ⟨w4, hw4⟩ : ∃ x, x = wr := ⟨_, rfl⟩
              subst hw4
              have HT2 := Lib.hid HFq.out
              have HOB := Lib.hid (OwnT.no HOB.out HFq.out)
              clear HFq
              go_wp2
              go_loopw [17] (fun i ws => ∃ q : Nat, i = .int .i64 q ∧ q ≤ B.length ∧ Fx No w4 ws) (fun i _ => B.length - (intOf i).toNat)
              case atStart => exact ⟨0, rfl, Nat.zero_le _, Fx.refl _ _⟩
              case round =>
                obtain ⟨q, rfl, hq, hf⟩ := hrel
                have HFq := Lib.hid hf
                clear hf
                by_cases hql : q < B.length
                · have hq1 : (q : Int) < (B.length : Int) := by omega
                  have hq0 : (0 : Int) ≤ (q : Int) := by omega
                  obtain ⟨_, _, he, _, _, hcs⟩ := EdsV.facts (OwnT.row (OwnT.no HOB.out HFq.out))
                  simp only [Value.slice.injEq] at he
                  obtain ⟨rfl, _, rfl⟩ := he
                  obtain ⟨xb, xo, rfl, _, p0', p1', p2'⟩ := hcs q hql
                  have hkey : (gt B q).t = (κ : Int) := HBB.out.2 _ (gt_mem hql)
                  rcases Nat.eq_zero_or_pos q with h0 | h0
                  · subst h0
                    rw [Nat.zero_mul, Nat.add_zero] at p0' p1' p2'
                    rw [hkey] at p1'
                    have p0 : ∀ W, Fx No wr W → W.cell? ⟨xb, xo, none⟩ = some (.int .i64 (gt B 0).f) := fun W h => h.cell' p0' (fun h => h)
                    have p1 : ∀ W, Fx No wr W → W.cell? ⟨xb, xo + 1, none⟩ = some (.int .i64 (κ : Int)) := fun W h => h.cell' p1' (fun h => h)
                    have p2 : ∀ W, Fx No wr W → W.cell? ⟨xb, xo + 2, none⟩ = some (.int .i64 (gt B 0).l) := fun W h => h.cell' p2' (fun h => h)
                    clear hkey p0' p1' p2' hcs
                    go_wp2_with fail
                    refine wp_region_H (fun W => Fx No wr W) (by kernel_rfl) ((Fx.refl _ _).drew) ?_
                    intro hS
                    refine wpAnyH_hold (fun W' => Fx No wr W') hS ?_
                    clear hS
                    rintro y0 hS
                    have hS0 := hS
                    refine wpAnyH_take (i := 0) (v := ?_) rfl (by kernel_rfl) (by kernel_rfl) (by kernel_rfl) (fun _ _ _ h => h) (Or.inl ⟨by rfl, ?_⟩) hS ?_
                    rotate_left
                    · (intro W hs; go_simp; first | done | with_reducible rfl)
                    try simp only [Act.put, List.getElem_toArray, List.getElem_cons_zero, List.getElem_cons_succ, List.setIfInBounds_toArray, List.set_cons_zero, List.set_cons_succ]
                    refine wpAnyH_take (i := 1) (v := ?_) rfl (by kernel_rfl) (by kernel_rfl) (by kernel_rfl) (fun _ _ _ h => h) (Or.inl ⟨by rfl, ?_⟩) hS ?_
                    rotate_left
                    · (intro W hs; go_simp; first | done | with_reducible rfl)
                    try simp only [Act.put, List.getElem_toArray, List.getElem_cons_zero, List.getElem_cons_succ, List.setIfInBounds_toArray, List.set_cons_zero, List.set_cons_succ]
                    refine wpAnyH_take (i := 5) (v := ?_) rfl (by kernel_rfl) (by kernel_rfl) (by kernel_rfl) (fun _ _ _ h => h) (Or.inl ⟨by rfl, ?_⟩) hS ?_
                    rotate_left
                    · (intro W hs; go_simp; first | done | with_reducible rfl)
                    try simp only [Act.put, List.getElem_toArray, List.getElem_cons_zero, List.getElem_cons_succ, List.setIfInBounds_toArray, List.set_cons_zero, List.set_cons_succ]
                    refine wpAnyH_take (i := 2) (v := ?_) rfl (by kernel_rfl) (by kernel_rfl) (by kernel_rfl) (fun _ _ _ h => h) (Or.inl ⟨by rfl, ?_⟩) hS ?_
                    rotate_left
                    · (intro W hs; go_simp; first | done | with_reducible rfl)
                    try simp only [Act.put, List.getElem_toArray, List.getElem_cons_zero, List.getElem_cons_succ, List.setIfInBounds_toArray, List.set_cons_zero, List.set_cons_succ]
                    refine wpAnyH_take (i := 3) (v := ?_) rfl (by kernel_rfl) (by kernel_rfl) (by kernel_rfl) (fun _ _ _ h => h) (Or.inl ⟨by rfl, ?_⟩) hS ?_
                    rotate_left
                    · (intro W hs; go_simp; first | done | with_reducible rfl)
                    try simp only [Act.put, List.getElem_toArray, List.getElem_cons_zero, List.getElem_cons_succ, List.setIfInBounds_toArray, List.set_cons_zero, List.set_cons_succ]
                    refine wpAnyH_take (i := 4) (v := ?_) rfl (by kernel_rfl) (by kernel_rfl) (by kernel_rfl) (fun _ _ _ h => h) (Or.inl ⟨by rfl, ?_⟩) hS ?_
                    rotate_left
                    · (intro W hs; go_simp; first | done | with_reducible rfl)
                    try simp only [Act.put, List.getElem_toArray, List.getElem_cons_zero, List.getElem_cons_succ, List.setIfInBounds_toArray, List.set_cons_zero, List.set_cons_succ]
                    refine wpAnyH_take (i := 6) (v := ?_) rfl (by kernel_rfl) (by kernel_rfl) (by kernel_rfl) (fun _ _ _ h => h) (Or.inl ⟨by rfl, ?_⟩) hS ?_
                    rotate_left
                    · (intro W hs; go_simp; first | done | with_reducible rfl)
                    try simp only [Act.put, List.getElem_toArray, List.getElem_cons_zero, List.getElem_cons_succ, List.setIfInBounds_toArray, List.set_cons_zero, List.set_cons_succ]
                    refine wpAnyH_take (i := 7) (v := ?_) rfl (by kernel_rfl) (by kernel_rfl) (by kernel_rfl) (fun _ _ _ h => h) (Or.inl ⟨by rfl, ?_⟩) hS ?_
                    rotate_left
                    · (intro W hs; go_simp; first | done | with_reducible rfl)
                    try simp only [Act.put, List.getElem_toArray, List.getElem_cons_zero, List.getElem_cons_succ, List.setIfInBounds_toArray, List.set_cons_zero, List.set_cons_succ]
                    refine wpAnyH_take (i := 8) (v := ?_) rfl (by kernel_rfl) (by kernel_rfl) (by kernel_rfl) (fun _ _ _ h => h) (Or.inl ⟨by rfl, ?_⟩) hS ?_
                    rotate_left
                    · (intro W hs; go_simp; first | done | with_reducible rfl)
                    try simp only [Act.put, List.getElem_toArray, List.getElem_cons_zero, List.getElem_cons_succ, List.setIfInBounds_toArray, List.set_cons_zero, List.set_cons_succ]
                    refine wpAnyH_take (i := 9) (v := ?_) rfl (by kernel_rfl) (by kernel_rfl) (by kernel_rfl) (fun _ _ _ h => h) (Or.inl ⟨by rfl, ?_⟩) hS ?_
                    rotate_left
                    · (intro W hs; go_simp; first | done | with_reducible rfl)
                    try simp only [Act.put, List.getElem_toArray, List.getElem_cons_zero, List.getElem_cons_succ, List.setIfInBounds_toArray, List.set_cons_zero, List.set_cons_succ]
                    refine wpAnyH_take (i := 10) (v := ?_) rfl (by kernel_rfl) (by kernel_rfl) (by kernel_rfl) (fun _ _ _ h => h) (Or.inl ⟨by rfl, ?_⟩) hS ?_
                    rotate_left
                    · (intro W hs; go_simp; first | done | with_reducible rfl)
                    try simp only [Act.put, List.getElem_toArray, List.getElem_cons_zero, List.getElem_cons_succ, List.setIfInBounds_toArray, List.set_cons_zero, List.set_cons_succ]
                    refine wpAnyH_take (i := 11) (v := undef) rfl (by kernel_rfl) (by kernel_rfl) (by kernel_rfl) (fun _ _ _ h => h) (Or.inr ⟨by rfl, rfl⟩) hS ?_
                    try simp only [Act.put, List.getElem_toArray, List.getElem_cons_zero, List.getElem_cons_succ, List.setIfInBounds_toArray, List.set_cons_zero, List.set_cons_succ]
                    refine wpAnyH_take (i := 12) (v := undef) rfl (by kernel_rfl) (by kernel_rfl) (by kernel_rfl) (fun _ _ _ h => h) (Or.inr ⟨by rfl, rfl⟩) hS ?_
                    try simp only [Act.put, List.getElem_toArray, List.getElem_cons_zero, List.getElem_cons_succ, List.setIfInBounds_toArray, List.set_cons_zero, List.set_cons_succ]
                    refine wpAnyH_take (i := 16) (v := undef) rfl (by kernel_rfl) (by kernel_rfl) (by kernel_rfl) (fun _ _ _ h => h) (Or.inr ⟨by rfl, rfl⟩) hS ?_
                    try simp only [Act.put, List.getElem_toArray, List.getElem_cons_zero, List.getElem_cons_succ, List.setIfInBounds_toArray, List.set_cons_zero, List.set_cons_succ]
                    refine wpAnyH_take (i := 17) (v := undef) rfl (by kernel_rfl) (by kernel_rfl) (by kernel_rfl) (fun _ _ _ h => h) (Or.inr ⟨by rfl, rfl⟩) hS ?_
                    try simp only [Act.put, List.getElem_toArray, List.getElem_cons_zero, List.getElem_cons_succ, List.setIfInBounds_toArray, List.set_cons_zero, List.set_cons_succ]
                    refine wpAnyH_take (i := 13) (v := undef) rfl (by kernel_rfl) (by kernel_rfl) (by kernel_rfl) (fun _ _ _ h => h) (Or.inr ⟨by rfl, rfl⟩) hS ?_
                    try simp only [Act.put, List.getElem_toArray, List.getElem_cons_zero, List.getElem_cons_succ, List.setIfInBounds_toArray, List.set_cons_zero, List.set_cons_succ]
                    refine wpAnyH_take (i := 18) (v := undef) rfl (by kernel_rfl) (by kernel_rfl) (by kernel_rfl) (fun _ _ _ h => h) (Or.inr ⟨by rfl, rfl⟩) hS ?_
                    try simp only [Act.put, List.getElem_toArray, List.getElem_cons_zero, List.getElem_cons_succ, List.setIfInBounds_toArray, List.set_cons_zero, List.set_cons_succ]
                    refine wpAnyH_take (i := 14) (v := undef) rfl (by kernel_rfl) (by kernel_rfl) (by kernel_rfl) (fun _ _ _ h => h) (Or.inr ⟨by rfl, rfl⟩) hS ?_
                    try simp only [Act.put, List.getElem_toArray, List.getElem_cons_zero, List.getElem_cons_succ, List.setIfInBounds_toArray, List.set_cons_zero, List.set_cons_succ]
                    refine wpAnyH_take (i := 19) (v := undef) rfl (by kernel_rfl) (by kernel_rfl) (by kernel_rfl) (fun _ _ _ h => h) (Or.inr ⟨by rfl, rfl⟩) hS ?_
                    try simp only [Act.put, List.getElem_toArray, List.getElem_cons_zero, List.getElem_cons_succ, List.setIfInBounds_toArray, List.set_cons_zero, List.set_cons_succ]
                    refine wpAnyH_take (i := 15) (v := undef) rfl (by kernel_rfl) (by kernel_rfl) (by kernel_rfl) (fun _ _ _ h => h) (Or.inr ⟨by rfl, rfl⟩) hS ?_
                    try simp only [Act.put, List.getElem_toArray, List.getElem_cons_zero, List.getElem_cons_succ, List.setIfInBounds_toArray, List.set_cons_zero, List.set_cons_succ]
                    refine wpAnyH_take (i := 20) (v := undef) rfl (by kernel_rfl) (by kernel_rfl) (by kernel_rfl) (fun _ _ _ h => h) (Or.inr ⟨by rfl, rfl⟩) hS ?_
                    try simp only [Act.put, List.getElem_toArray, List.getElem_cons_zero, List.getElem_cons_succ, List.setIfInBounds_toArray, List.set_cons_zero, List.set_cons_succ]
                    refine wpAnyH_take (i := 21) (v := undef) rfl (by kernel_rfl) (by kernel_rfl) (by kernel_rfl) (fun _ _ _ h => h) (Or.inr ⟨by rfl, rfl⟩) hS ?_
                    try simp only [Act.put, List.getElem_toArray, List.getElem_cons_zero, List.getElem_cons_succ, List.setIfInBounds_toArray, List.set_cons_zero, List.set_cons_succ]
                    refine wpAnyH_take (i := 22) (v := ?_) rfl (by kernel_rfl) (by kernel_rfl) (by kernel_rfl) (fun _ _ _ h => h) (Or.inl ⟨by rfl, ?_⟩) hS ?_
                    rotate_left
                    · (intro W hs; go_simp; first | done | with_reducible rfl)
                    try simp only [Act.put, List.getElem_toArray, List.getElem_cons_zero, List.getElem_cons_succ, List.setIfInBounds_toArray, List.set_cons_zero, List.set_cons_succ]
                    refine wpAnyH_take (i := 23) (v := ?_) rfl (by kernel_rfl) (by kernel_rfl) (by kernel_rfl) (fun _ _ _ h => h) (Or.inl ⟨by rfl, ?_⟩) hS ?_
                    rotate_left
                    · (intro W hs; go_simp; first | done | with_reducible rfl)
                    try simp only [Act.put, List.getElem_toArray, List.getElem_cons_zero, List.getElem_cons_succ, List.setIfInBounds_toArray, List.set_cons_zero, List.set_cons_succ]
                    refine wpAnyH_done (by kernel_rfl) ?_ _
                    have HS := Lib.hid hS
                    clear hS hS0 p0 p1 p2
                    go_wp2_with fail
                    go_roundw
                    case rel => exact ⟨1, by go_num, by omega, HFq.out.trans HS.out⟩
                    case measure => simp [intOf]; omega
                  · obtain ⟨q', rfl⟩ : ∃ q', q = q' + 1 := ⟨q - 1, by omega⟩
                    obtain ⟨_, _, hxo, _, s0', s1', s2'⟩ := hcs q' (by omega)
                    simp only [Option.some.injEq, Addr.mk.injEq] at hxo
                    obtain ⟨rfl, rfl, _⟩ := hxo
                    have CC : Hid (∀ W, Calls Try.prog 17 #[.agg #[.int .i64 (gt B q').f, .int .i64 (gt B q').t, .int .i64 (gt B q').l], .agg #[.int .i64 (gt B (q' + 1)).f, .int .i64 (gt B (q' + 1)).t, .int .i64 (gt B (q' + 1)).l]] W fun e w' => e = .returned (.int .i64 (-1)) ∧ Fx No W w') := Lib.hid fun W => by
                      have := cmp_any (gt B q') (gt B (q' + 1)) W
                      rw [cmpE_lt (gt_lt HBB.out.1 hql)] at this
                      exact this
                    obtain ⟨y, hy⟩ : ∃ y, y = gt B q' := ⟨_, rfl⟩
                    obtain ⟨z, hz⟩ : ∃ z, z = gt B (q' + 1) := ⟨_, rfl⟩
                    rw [← hz] at p0' p1' p2' hkey CC
                    rw [← hy] at s0' s1' s2' CC
                    obtain ⟨yf, yt, yl⟩ := y
                    obtain ⟨zf, zt, zl⟩ := z
                    simp only at p0' p1' p2' s0' s1' s2' CC hkey
                    subst hkey
                    have p0 : ∀ W, Fx No wr W → W.cell? ⟨xb, xo + (q' + 1) * 3, none⟩ = some (.int .i64 zf) := fun W h => h.cell' p0' (fun h => h)
                    have p1 : ∀ W, Fx No wr W → W.cell? ⟨xb, xo + (q' + 1) * 3 + 1, none⟩ = some (.int .i64 (κ : Int)) := fun W h => h.cell' p1' (fun h => h)
                    have p2 : ∀ W, Fx No wr W → W.cell? ⟨xb, xo + (q' + 1) * 3 + 2, none⟩ = some (.int .i64 zl) := fun W h => h.cell' p2' (fun h => h)
                    have s0 : ∀ W, Fx No wr W → W.cell? ⟨xb, xo + q' * 3, none⟩ = some (.int .i64 yf) := fun W h => h.cell' s0' (fun h => h)
                    have s1 : ∀ W, Fx No wr W → W.cell? ⟨xb, xo + q' * 3 + 1, none⟩ = some (.int .i64 yt) := fun W h => h.cell' s1' (fun h => h)
                    have s2 : ∀ W, Fx No wr W → W.cell? ⟨xb, xo + q' * 3 + 2, none⟩ = some (.int .i64 yl) := fun W h => h.cell' s2' (fun h => h)
                    have hw1 : IntKind.i64.wrap ((q' : Int) + 1 - 1) = (q' : Int) := by rw [IntKind.wrap_i64]; omega
                    have hw2 : IntKind.i64.wrap (q' : Int) = (q' : Int) := by rw [IntKind.wrap_i64]; omega
                    have hq2 : (q' : Int) < (B.length : Int) := by omega
                    have hq3 : (0 : Int) ≤ (q' : Int) := by omega
                    have hq4 : (0 : Int) < (q' : Int) + 1 := by omega
                    have hq5 : (0 : Int) ≤ (q' : Int) + 1 := by omega
                    have hq6 : (q' : Int) + 1 < (B.length : Int) := by omega
                    clear p0' p1' p2' s0' s1' s2' hcs hy hz
                    go_wp2_with fail
                    refine wp_region_H (fun W => Fx No wr W) (by kernel_rfl) ((Fx.refl _ _).drew) ?_
                    intro hS
                    refine wpAnyH_hold (fun W' => Fx No wr W') hS ?_
                    clear hS
                    rintro y0 hS
                    have hS0 := hS
                    refine wpAnyH_take (i := 0) (v := ?_) rfl (by kernel_rfl) (by kernel_rfl) (by kernel_rfl) (fun _ _ _ h => h) (Or.inl ⟨by rfl, ?_⟩) hS ?_
                    rotate_left
                    · (intro W hs; go_simp; first | done | with_reducible rfl)
                    try simp only [Act.put, List.getElem_toArray, List.getElem_cons_zero, List.getElem_cons_succ, List.setIfInBounds_toArray, List.set_cons_zero, List.set_cons_succ]
                    refine wpAnyH_take (i := 1) (v := ?_) rfl (by kernel_rfl) (by kernel_rfl) (by kernel_rfl) (fun _ _ _ h => h) (Or.inl ⟨by rfl, ?_⟩) hS ?_
                    rotate_left
                    · (intro W hs; go_simp; first | done | with_reducible rfl)
                    try simp only [Act.put, List.getElem_toArray, List.getElem_cons_zero, List.getElem_cons_succ, List.setIfInBounds_toArray, List.set_cons_zero, List.set_cons_succ]
                    refine wpAnyH_take (i := 5) (v := ?_) rfl (by kernel_rfl) (by kernel_rfl) (by kernel_rfl) (fun _ _ _ h => h) (Or.inl ⟨by rfl, ?_⟩) hS ?_
                    rotate_left
                    · (intro W hs; go_simp; first | done | with_reducible rfl)
                    try simp only [Act.put, List.getElem_toArray, List.getElem_cons_zero, List.getElem_cons_succ, List.setIfInBounds_toArray, List.set_cons_zero, List.set_cons_succ]
                    refine wpAnyH_take (i := 2) (v := ?_) rfl (by kernel_rfl) (by kernel_rfl) (by kernel_rfl) (fun _ _ _ h => h) (Or.inl ⟨by rfl, ?_⟩) hS ?_
                    rotate_left
                    · (intro W hs; go_simp; first | done | with_reducible rfl)
                    try simp only [Act.put, List.getElem_toArray, List.getElem_cons_zero, List.getElem_cons_succ, List.setIfInBounds_toArray, List.set_cons_zero, List.set_cons_succ]
                    refine wpAnyH_take (i := 3) (v := ?_) rfl (by kernel_rfl) (by kernel_rfl) (by kernel_rfl) (fun _ _ _ h => h) (Or.inl ⟨by rfl, ?_⟩) hS ?_
                    rotate_left
                    · (intro W hs; go_simp; first | done | with_reducible rfl)
                    try simp only [Act.put, List.getElem_toArray, List.getElem_cons_zero, List.getElem_cons_succ, List.setIfInBounds_toArray, List.set_cons_zero, List.set_cons_succ]
                    refine wpAnyH_take (i := 4) (v := ?_) rfl (by kernel_rfl) (by kernel_rfl) (by kernel_rfl) (fun _ _ _ h => h) (Or.inl ⟨by rfl, ?_⟩) hS ?_
                    rotate_left
                    · (intro W hs; go_simp; first | done | with_reducible rfl)
                    try simp only [Act.put, List.getElem_toArray, List.getElem_cons_zero, List.getElem_cons_succ, List.setIfInBounds_toArray, List.set_cons_zero, List.set_cons_succ]
                    refine wpAnyH_take (i := 6) (v := ?_) rfl (by kernel_rfl) (by kernel_rfl) (by kernel_rfl) (fun _ _ _ h => h) (Or.inl ⟨by rfl, ?_⟩) hS ?_
                    rotate_left
                    · (intro W hs; go_simp; first | done | with_reducible rfl)
                    try simp only [Act.put, List.getElem_toArray, List.getElem_cons_zero, List.getElem_cons_succ, List.setIfInBounds_toArray, List.set_cons_zero, List.set_cons_succ]
                    refine wpAnyH_take (i := 7) (v := ?_) rfl (by kernel_rfl) (by kernel_rfl) (by kernel_rfl) (fun _ _ _ h => h) (Or.inl ⟨by rfl, ?_⟩) hS ?_
                    rotate_left
                    · (intro W hs; go_simp; first | done | with_reducible rfl)
                    try simp only [Act.put, List.getElem_toArray, List.getElem_cons_zero, List.getElem_cons_succ, List.setIfInBounds_toArray, List.set_cons_zero, List.set_cons_succ]
                    refine wpAnyH_take (i := 8) (v := ?_) rfl (by kernel_rfl) (by kernel_rfl) (by kernel_rfl) (fun _ _ _ h => h) (Or.inl ⟨by rfl, ?_⟩) hS ?_
                    rotate_left
                    · (intro W hs; go_simp; first | done | with_reducible rfl)
                    try simp only [Act.put, List.getElem_toArray, List.getElem_cons_zero, List.getElem_cons_succ, List.setIfInBounds_toArray, List.set_cons_zero, List.set_cons_succ]
                    refine wpAnyH_take (i := 9) (v := ?_) rfl (by kernel_rfl) (by kernel_rfl) (by kernel_rfl) (fun _ _ _ h => h) (Or.inl ⟨by rfl, ?_⟩) hS ?_
                    rotate_left
                    · (intro W hs; go_simp; first | done | with_reducible rfl)
                    try simp only [Act.put, List.getElem_toArray, List.getElem_cons_zero, List.getElem_cons_succ, List.setIfInBounds_toArray, List.set_cons_zero, List.set_cons_succ]
                    refine wpAnyH_take (i := 10) (v := ?_) rfl (by kernel_rfl) (by kernel_rfl) (by kernel_rfl) (fun _ _ _ h => h) (Or.inl ⟨by rfl, ?_⟩) hS ?_
                    rotate_left
                    · (intro W hs; go_simp; first | done | with_reducible rfl)
                    try simp only [Act.put, List.getElem_toArray, List.getElem_cons_zero, List.getElem_cons_succ, List.setIfInBounds_toArray, List.set_cons_zero, List.set_cons_succ]
                    refine wpAnyH_take (i := 11) (v := ?_) rfl (by kernel_rfl) (by kernel_rfl) (by kernel_rfl) (fun _ _ _ h => h) (Or.inl ⟨by rfl, ?_⟩) hS ?_
                    rotate_left
                    · (intro W hs; go_simp; first | done | with_reducible rfl)
                    try simp only [Act.put, List.getElem_toArray, List.getElem_cons_zero, List.getElem_cons_succ, List.setIfInBounds_toArray, List.set_cons_zero, List.set_cons_succ]
                    refine wpAnyH_take (i := 12) (v := ?_) rfl (by kernel_rfl) (by kernel_rfl) (by kernel_rfl) (fun _ _ _ h => h) (Or.inl ⟨by rfl, ?_⟩) hS ?_
                    rotate_left
                    · (intro W hs; go_simp; first | done | with_reducible rfl)
                    try simp only [Act.put, List.getElem_toArray, List.getElem_cons_zero, List.getElem_cons_succ, List.setIfInBounds_toArray, List.set_cons_zero, List.set_cons_succ]
                    refine wpAnyH_take (i := 16) (v := ?_) rfl (by kernel_rfl) (by kernel_rfl) (by kernel_rfl) (fun _ _ _ h => h) (Or.inl ⟨by rfl, ?_⟩) hS ?_
                    rotate_left
                    · (intro W hs; go_simp; first | done | with_reducible rfl)
                    try simp only [Act.put, List.getElem_toArray, List.getElem_cons_zero, List.getElem_cons_succ, List.setIfInBounds_toArray, List.set_cons_zero, List.set_cons_succ]
                    refine wpAnyH_take (i := 17) (v := ?_) rfl (by kernel_rfl) (by kernel_rfl) (by kernel_rfl) (fun _ _ _ h => h) (Or.inl ⟨by rfl, ?_⟩) hS ?_
                    rotate_left
                    · (intro W hs; go_simp; first | done | with_reducible rfl)
                    try simp only [Act.put, List.getElem_toArray, List.getElem_cons_zero, List.getElem_cons_succ, List.setIfInBounds_toArray, List.set_cons_zero, List.set_cons_succ]
                    refine wpAnyH_take (i := 13) (v := ?_) rfl (by kernel_rfl) (by kernel_rfl) (by kernel_rfl) (fun _ _ _ h => h) (Or.inl ⟨by rfl, ?_⟩) hS ?_
                    rotate_left
                    · (intro W hs; go_simp; first | done | with_reducible rfl)
                    try simp only [Act.put, List.getElem_toArray, List.getElem_cons_zero, List.getElem_cons_succ, List.setIfInBounds_toArray, List.set_cons_zero, List.set_cons_succ]
                    refine wpAnyH_take (i := 18) (v := ?_) rfl (by kernel_rfl) (by kernel_rfl) (by kernel_rfl) (fun _ _ _ h => h) (Or.inl ⟨by rfl, ?_⟩) hS ?_
                    rotate_left
                    · (intro W hs; go_simp; first | done | with_reducible rfl)
                    try simp only [Act.put, List.getElem_toArray, List.getElem_cons_zero, List.getElem_cons_succ, List.setIfInBounds_toArray, List.set_cons_zero, List.set_cons_succ]
                    refine wpAnyH_take (i := 14) (v := ?_) rfl (by kernel_rfl) (by kernel_rfl) (by kernel_rfl) (fun _ _ _ h => h) (Or.inl ⟨by rfl, ?_⟩) hS ?_
                    rotate_left
                    · (intro W hs; go_simp; first | done | with_reducible rfl)
                    try simp only [Act.put, List.getElem_toArray, List.getElem_cons_zero, List.getElem_cons_succ, List.setIfInBounds_toArray, List.set_cons_zero, List.set_cons_succ]
                    refine wpAnyH_take (i := 19) (v := ?_) rfl (by kernel_rfl) (by kernel_rfl) (by kernel_rfl) (fun _ _ _ h => h) (Or.inl ⟨by rfl, ?_⟩) hS ?_
                    rotate_left
                    · (intro W hs; go_simp; first | done | with_reducible rfl)
                    try simp only [Act.put, List.getElem_toArray, List.getElem_cons_zero, List.getElem_cons_succ, List.setIfInBounds_toArray, List.set_cons_zero, List.set_cons_succ]
                    refine wpAnyH_take (i := 15) (v := ?_) rfl (by kernel_rfl) (by kernel_rfl) (by kernel_rfl) (fun _ _ _ h => h) (Or.inl ⟨by rfl, ?_⟩) hS ?_
                    rotate_left
                    · (intro W hs; go_simp; first | done | with_reducible rfl)
                    try simp only [Act.put, List.getElem_toArray, List.getElem_cons_zero, List.getElem_cons_succ, List.setIfInBounds_toArray, List.set_cons_zero, List.set_cons_succ]
                    refine wpH_one (i := 20) (by kernel_rfl) rfl (fun K hK => ?_)
                    go_simp
                    refine (CC.out _).mono ?_
                    rintro e y1 ⟨rfl, hfi⟩
                    have HZy1 : Hid (y0.heap.size ≤ y1.heap.size) := Lib.hid hfi.size
                    have HSy1 : Hid (Fx No y0 y1) := Lib.hid hfi
                    refine hK.out _ _ (hS.trans hfi) (fun hS' => ?_)
                    clear hK K hS hfi 
                    have hS := hS'
                    clear hS'
                    try simp only [Act.put, List.getElem_toArray, List.getElem_cons_zero, List.getElem_cons_succ, List.setIfInBounds_toArray, List.set_cons_zero, List.set_cons_succ]
                    refine wpAnyH_take (i := 21) (v := ?_) rfl (by kernel_rfl) (by kernel_rfl) (by kernel_rfl) (fun _ _ _ h => h) (Or.inl ⟨by rfl, ?_⟩) hS ?_
                    rotate_left
                    · (intro W hs; go_simp; first | done | with_reducible rfl)
                    try simp only [Act.put, List.getElem_toArray, List.getElem_cons_zero, List.getElem_cons_succ, List.setIfInBounds_toArray, List.set_cons_zero, List.set_cons_succ]
                    refine wpAnyH_take (i := 22) (v := ?_) rfl (by kernel_rfl) (by kernel_rfl) (by kernel_rfl) (fun _ _ _ h => h) (Or.inl ⟨by rfl, ?_⟩) hS ?_
                    rotate_left
                    · (intro W hs; go_simp; first | done | with_reducible rfl)
                    try simp only [Act.put, List.getElem_toArray, List.getElem_cons_zero, List.getElem_cons_succ, List.setIfInBounds_toArray, List.set_cons_zero, List.set_cons_succ]
                    refine wpAnyH_take (i := 23) (v := ?_) rfl (by kernel_rfl) (by kernel_rfl) (by kernel_rfl) (fun _ _ _ h => h) (Or.inl ⟨by rfl, ?_⟩) hS ?_
                    rotate_left
                    · (intro W hs; go_simp; first | done | with_reducible rfl)
                    try simp only [Act.put, List.getElem_toArray, List.getElem_cons_zero, List.getElem_cons_succ, List.setIfInBounds_toArray, List.set_cons_zero, List.set_cons_succ]
                    refine wpAnyH_done (by kernel_rfl) ?_ _
                    have HS := Lib.hid hS
                    clear hS hS0 p0 p1 p2 s0 s1 s2 CC
                    go_wp2_with fail
                    go_roundw
                    case rel => exact ⟨q' + 1 + 1, by go_num, by omega, HFq.out.trans HS.out⟩
                    case measure => simp [intOf]; omega
                · have hdF : decide ((q : Int) < (B.length : Int)) = false := decide_eq_false (by omega)
                  have hdF2 : decide (q < B.length) = false := decide_eq_false hql
                  clear hql
                  have HT : Hid (Fx No w3 wr) := Lib.hid (HT2.out.trans HFq.out)
                  go_wp2_with fail
                  go_roundw
                  case rel => exact ⟨κ + 1, by go_num, by rw [HSA.out]; first | go_num | (push_cast; rfl), by rw [HSB.out]; first | go_num | (push_cast; rfl), by have := HK.out; omega, HF3.out.trans HT.out⟩
                  case measure => (have := HK.out; simp [intOf]; omega)
        · have dk : decide ((κ : Int) < (N : Int)) = false := decide_eq_false (by omega)
          have dk2 : decide (κ < N) = false := decide_eq_false hκl
          obtain rfl : κ = N := by omega
          have e1 : sumK Ed.f L κ = L.length := sumK_all fun x hx => (HNd.out x hx).1
          have e2 : sumK Ed.t L κ = L.length := sumK_all fun x hx => (HNd.out x hx).2
          rw [e1, e2]
          clear e1 e2 hs1 hs2 hκl
          go_wp2_with fail
          refine (gMany_any (HD.out.g.no HF.out)).mono ?_
          rintro e w' ⟨rfl, rfl⟩
          go_wp2_with fail
          refine (gMany_any (HD.out.g.no HF.out)).mono ?_
          rintro e w' ⟨rfl, rfl⟩
          go_wp2_with fail
          refine (gEdges_any (HD.out.g.no HF.out)).mono ?_
          rintro e w5 ⟨v5, rfl, hf, ho⟩
          obtain ⟨lo, lc, rfl, _⟩ := EdsV.facts (OwnT.row ho)
          have HAl := Lib.hid ho
          have HF5 := Lib.hid (HF.out.trans hf)
          clear hf ho r0
          go_upto_block 6 with fail
          go_cut [18, 20] from 149 to 172 (fun t _ ws => ∃ xs : List Ed, xs.length ≤ 40 ∧ (∀ x ∈ xs, x ∈ L) ∧ Fx No w5 ws ∧ OwnT 25 e3 3 ws w5.heap.size t xs)
          case first =>
            go_wp2
            go_loopw [18, 20] (fun t i ws => ∃ (q : Nat) (xs : List Ed), i = .int .i64 q ∧ q ≤ zs.length ∧ xs.length = q ∧ (∀ x ∈ xs, x ∈ L) ∧ Fx No w5 ws ∧ OwnT 25 e3 3 ws w5.heap.size t xs) (fun _ i _ => zs.length - (intOf i).toNat)
            case atStart => exact ⟨0, [], rfl, Nat.zero_le _, rfl, by simp, Fx.refl _ _, OwnT.nil _ _⟩
            case round =>
              obtain ⟨q, xs, rfl, hq, hxl, hxs, hf, ho⟩ := hrel
              have HFq := Lib.hid hf
              have HO := Lib.hid ho
              have HXs := Lib.hid hxs
              have HXl := Lib.hid hxl
              have hxl40 : xs.length ≤ 40 := by omega
              have hz5 := hf.size
              clear hf ho hxs hxl
              by_cases hql : q < zs.length ∧ 0 < L.length
              · obtain ⟨hq1, hL1⟩ := hql
                have hq2 : (q : Int) < (zs.length : Int) := by omega
                have hq0 : (0 : Int) ≤ (q : Int) := by omega
                have hL2 : (0 : Int) < (L.length : Int) := by omega
                obtain ⟨zb, zo', rfl, _, pz⟩ := HZc.out q hq1
                have pz := ((HD.out.fx.trans HF5.out).trans HFq.out).cell' pz (fun h => h)
                go_wp2_with fail
                refine (pick_any _ L.length hL1 (by omega) _).mono ?_
                rintro e w' ⟨c, hc, rfl, rfl⟩
                have hc1 : (c : Int) < (L.length : Int) := by omega
                have hc0 : (0 : Int) ≤ (c : Int) := by omega
                obtain ⟨_, _, he, _, _, hcs⟩ := EdsV.facts (OwnT.row (OwnT.no HAl.out HFq.out))
                simp only [Value.slice.injEq] at he
                obtain ⟨rfl, _, rfl⟩ := he
                obtain ⟨xb, xo, rfl, _, p0, p1, p2⟩ := hcs c hc
                obtain ⟨x, hx⟩ : ∃ x, x = gt L c := ⟨_, rfl⟩
                have HX : Hid (x ∈ L) := Lib.hid (by rw [hx]; exact gt_mem hc)
                rw [← hx] at p0 p1 p2
                have HXe := Lib.hid hx
                obtain ⟨xf, xt, xl⟩ := x
                simp only at p0 p1 p2
                clear hcs hx
                go_wp2_with (at_builtin; refine wpList_append_kept rfl _ _ 22 rfl w5.heap.size 25 Try.underlying22 hi hz0 hs hb rfl (by decide) rfl (World.ownsRow.alloc HO.out _) rfl (SlV.lit _ 25 #[.int .i64 xf, .int .i64 xt, .int .i64 xl] 3 1 rfl (by unfold maxLen; omega)) (ints_one [_, _, _]) (by omega) (by unfold maxLen; omega) (by omega) (by simp; omega) ?_)
                intro v2 w6 ho hf _ _
                have HO2 : Hid (OwnT 25 e3 3 w6 w5.heap.size v2 (xs ++ [⟨xf, xt, xl⟩])) := Lib.hid (OwnT.snoc ho)
                have HF2 : Hid (Fx No w5 w6) := Lib.hid ((HFq.out.alloc _).trans' hf fun j h1 h2 => by have := (OwnT.lt HO.out h1).1; omega)
                clear ho hf
                go_wp2
                go_roundw
                case rel => exact ⟨q + 1, xs ++ [⟨xf, xt, xl⟩], by go_num, by omega, by have := HXl.out; simp; omega, fun y hy => by
                  rcases List.mem_append.1 hy with h | h
                  · exact HXs.out y h
                  · rw [List.mem_singleton] at h; rw [h]; exact HX.out, HF2.out, HO2.out⟩
                case measure => simp [intOf]; omega
              · have hex : (decide ((q : Int) < (zs.length : Int)) = false ∧ decide (q < zs.length) = false) ∨ (decide ((q : Int) < (zs.length : Int)) = true ∧ decide (q < zs.length) = true ∧ decide ((0 : Int) < (L.length : Int)) = false ∧ decide (0 < L.length) = false) := by
                  by_cases h1 : q < zs.length
                  · exact .inr ⟨decide_eq_true (by omega), decide_eq_true (by omega), decide_eq_false (by omega), decide_eq_false (by omega)⟩
                  · exact .inl ⟨decide_eq_false (by omega), decide_eq_false (by omega)⟩
                clear hql
                rcases hex with ⟨d1, d1'⟩ | ⟨d1, d1', d2, d2'⟩
                · go_wp2_with fail
                  go_meet
                  exact ⟨xs, hxl40, HXs.out, HFq.out, HO.out⟩
                · go_wp2_with fail
                  go_meet
                  exact ⟨xs, hxl40, HXs.out, HFq.out, HO.out⟩
          case rest =>
            obtain ⟨xs, hxl, hxs, hf, ho⟩ := hcut
            obtain ⟨w7, hw7⟩ : ∃ x, x = wc := ⟨_, rfl⟩
            subst hw7
            have HF7 := Lib.hid hf
            have HO7 := Lib.hid ho
            have HXs7 := Lib.hid hxs
            clear hf ho hxs
            go_wp2
            go_loopw [18, 21] (fun t i ws => ∃ (p : Nat) (z : Int) (ys : List Ed), i = .int .i64 z ∧ z = (p : Int) - 1 ∧ p ≤ L.length ∧ ys.length ≤ 40 + (L.length - p) ∧ (∀ x ∈ ys, x ∈ L) ∧ (∀ j, p ≤ j → j < L.length → gt L j ∈ ys) ∧ Fx No w5 ws ∧ OwnT 25 e3 3 ws w5.heap.size t ys) (fun _ i _ => (intOf i + 1).toNat)
            case atStart => exact ⟨L.length, _, xs, rfl, rfl, Nat.le_refl _, by omega, HXs7.out, fun j h1 h2 => by omega, HF7.out, HO7.out⟩
            case round =>
              obtain ⟨p, z, ys, rfl, hz, hp, hyl, hys, hyg, hf, ho⟩ := hrel
              have HFq := Lib.hid hf
              have HO := Lib.hid ho
              have HYs := Lib.hid hys
              have HYg := Lib.hid hyg
              have hyl80 : ys.length ≤ 80 := by omega
              have hz5 := hf.size
              clear hf ho hys hyg
              rcases Nat.eq_zero_or_pos p with hp0 | hp0
              · subst hp0
                obtain rfl : z = -1 := by omega
                clear hp hz
                have HALL : Hid (addL [] ys = L) := Lib.hid (addL_same HAs.out HYs.out (gt_all fun j hj => HYg.out j (Nat.zero_le _) hj))
                have r0 := (HF5.out.trans HFq.out).cell' HR0.out (fun h => h)
                go_wp2_with fail
                refine (gNew_any κ _ (by omega)).mono ?_
                rintro e w8 ⟨hb2, rfl, hf, hg⟩
                have hz8 := hf.size
                have HF8 := Lib.hid ((HF5.out.trans HFq.out).trans hf)
                have HO8 := Lib.hid (OwnT.no HO.out hf)
                have HG8 := Lib.hid hg
                have HAl8 := Lib.hid (OwnT.no (OwnT.no HAl.out HFq.out) hf)
                have HYk : Hid (∀ x ∈ ys, x.ok) := Lib.hid fun x hx => HLok.out x (HYs.out x hx)
                have HYn : Hid (ys.any (badE κ) = false) := Lib.hid (good_mk fun x hx => HNd.out x (HYs.out x hx))
                have hOl : ∀ k, Iv w5.heap.size wr.heap.size k → ¬ Iv wr.heap.size w8.heap.size k := fun k h1 h2 => by have := h1.2; have := h2.1; omega
                have HRow8 : Hid (EdsV w8 (Iv w5.heap.size wr.heap.size) _ ys) := Lib.hid ((OwnT.row HO.out).no hf)
                have HOl := Lib.hid hOl
                clear hf hg r0 hOl
                go_wp2_with fail
                refine (gAdd_any HG8.out HRow8.out HOl.out HYk.out HYn.out (by simp; omega)).mono ?_
                rintro e w9 ⟨rfl, hfD, hg9⟩
                rw [HALL.out] at hg9 ⊢
                have HG9 := Lib.hid hg9
                have HF9 : Hid (Fx No wx w9) := Lib.hid (HF8.out.trans' hfD fun j h1 h2 => by have := h1.1; have := (HF5.out.trans HFq.out).size; omega)
                have HAl9 : Hid (OwnT 25 e3 3 w9 wa.heap.size (.slice lo L.length lc) L) := Lib.hid (OwnT.fx HAl8.out hfD fun k h1 h2 => by have := (OwnT.lt HAl.out h1).2; have := h2.1; omega)
                obtain ⟨D9, hD9⟩ : ∃ D, D = DU (Iv wr.heap.size w8.heap.size) w8 w9 := ⟨_, rfl⟩
                have HD9 : Hid (∀ j, D9 j → wx.heap.size ≤ j) := Lib.hid fun j hj => by
                  have h1 := (HF5.out.trans HFq.out).size
                  rw [hD9] at hj
                  rcases hj with h | h
                  · have := h.1; omega
                  · have := h.1; omega
                rw [← hD9] at HG9
                clear hfD hg9 hD9 HO8 HRow8 HOl HYk HYn HO HYs HYg HALL HF8 HG8 HAl8
                have HGg := Lib.hid (HD.out.g.no HF9.out)
                go_wp2_with fail
                refine (gSame_any HGg.out HG9.out).mono ?_
                rintro e w10 ⟨rfl, hf⟩
                rw [decide_eq_true (show κ = κ ∧ L = L from ⟨rfl, rfl⟩)]
                have HF10 := Lib.hid (HF9.out.trans hf)
                have HG10 := Lib.hid (HG9.out.no hf)
                have HAl10 := Lib.hid (OwnT.no HAl9.out hf)
                clear hf HGg HG9 HAl9
                rcases Nat.eq_zero_or_pos L.length with hL0 | hL0
                · have dL : ((L.length : Int) == 0) = true := by rw [beq_iff_eq]; omega
                  have dL2 : decide (L.length = 0) = true := decide_eq_true hL0
                  have dL3 : (L.length : Int) = 0 := by omega
                  clear hL0
                  go_wp2_with fail
                  refine (works_any _).mono ?_
                  rintro e w11 ⟨rfl, hf⟩
                  have HF11 := Lib.hid (HD.out.fx.trans (HF10.out.trans hf))
                  clear hf
                  go_wp2
                  go_ret
                  exact ⟨rfl, HF11.out⟩
                · have dL : ((L.length : Int) == 0) = false := by rw [beq_eq_false_iff_ne]; omega
                  have dL2 : decide (L.length = 0) = false := decide_eq_false (by omega)
                  have dL3 : ¬ (L.length : Int) = 0 := by omega
                  have dL4 : ¬ L.length = 0 := by omega
                  have HL0 := Lib.hid hL0
                  clear hL0
                  go_wp2_with fail
                  refine (pick_any which L.length HL0.out (by omega) _).mono ?_
                  rintro e w' ⟨c, hc, rfl, rfl⟩
                  have hc1 : (c : Int) < (L.length : Int) := by omega
                  have hc0 : (0 : Int) ≤ (c : Int) := by omega
                  obtain ⟨_, _, he, _, _, hcs⟩ := EdsV.facts (OwnT.row (OwnT.no HAl10.out (Fx.refl No _)))
                  simp only [Value.slice.injEq] at he
                  obtain ⟨rfl, _, rfl⟩ := he
                  obtain ⟨xb, xo, rfl, _, p0, p1, p2⟩ := hcs c hc
                  obtain ⟨x, hx⟩ : ∃ x, x = gt L c := ⟨_, rfl⟩
                  have HX : Hid (x ∈ L) := Lib.hid (by rw [hx]; exact gt_mem hc)
                  rw [← hx] at p0 p1 p2
                  have HXe := Lib.hid hx
                  obtain ⟨xf, xt, xl⟩ := x
                  simp only at p0 p1 p2
                  clear hcs hx
                  go_wp2
                  refine wp_hold (fun W => Fx No w10 W ∧ W.cell? ⟨w10.heap.size, 0, none⟩ = some (.int .i64 xf) ∧ W.cell? ⟨w10.heap.size, 1, none⟩ = some (.int .i64 xt) ∧ W.cell? ⟨w10.heap.size, 2, none⟩ = some (.int .i64 xl)) ⟨(Fx.refl No _).alloc (.cells #[.int .i64 xf, .int .i64 xt, .int .i64 xl] 25), by go_simp, by go_simp, by go_simp⟩ ?_
                  rintro w11 ⟨hf, b0, b1, b2⟩
                  have HF11 := Lib.hid hf
                  have HB := Lib.hid (And.intro b0 (And.intro b1 b2))
                  clear hf b0 b1 b2 p0 p1 p2
                  go_loopw [25, 26] (fun t i ws => ∃ q : Nat, i = .int .i64 q ∧ q ≤ L.length ∧ Fx No w11 ws ∧ OwnT 25 e3 3 ws w11.heap.size t ((L.take q).filter fun y => !decide (y = ⟨xf, xt, xl⟩))) (fun _ i _ => L.length - (intOf i).toNat)
                  case atStart => exact ⟨0, rfl, Nat.zero_le _, Fx.refl _ _, OwnT.nil _ _⟩
                  case round =>
                    obtain ⟨q, rfl, hq, hf, ho⟩ := hrel
                    have HFq := Lib.hid hf
                    have HQz := Lib.hid hf.size
                    by_cases hql : q < L.length
                    · have hq1 : (q : Int) < (L.length : Int) := by omega
                      have hq0 : (0 : Int) ≤ (q : Int) := by omega
                      have HQl := Lib.hid hql
                      have hacl : ((L.take q).filter fun y => !decide (y = ⟨xf, xt, xl⟩)).length ≤ 40 := Nat.le_trans (List.length_filter_le _ _) (by rw [List.length_take]; omega)
                      have HTk : Hid ((L.take (q + 1)).filter (fun y => !decide (y = ⟨xf, xt, xl⟩)) = (L.take q).filter (fun y => !decide (y = ⟨xf, xt, xl⟩)) ++ if (!decide (gt L q = ⟨xf, xt, xl⟩)) = true then [gt L q] else []) := Lib.hid (by rw [take_gt hql, List.filter_append]; simp [List.filter_cons])
                      obtain ⟨acc, hacc⟩ : ∃ a, a = (L.take q).filter fun y => !decide (y = ⟨xf, xt, xl⟩) := ⟨_, rfl⟩
                      rw [← hacc] at ho hacl HTk
                      have HO := Lib.hid ho
                      have hz5 := hf.size
                      obtain ⟨_, _, he, _, _, hcs⟩ := EdsV.facts (OwnT.row (OwnT.no HAl10.out (HF11.out.trans HFq.out)))
                      simp only [Value.slice.injEq] at he
                      obtain ⟨hae, _, rfl⟩ := he
                      obtain ⟨yb, yo, hye, _, p0', p1', p2'⟩ := hcs q hql
                      rw [hye] at hae
                      simp only [Option.some.injEq, Addr.mk.injEq] at hae
                      obtain ⟨rfl, rfl, _⟩ := hae
                      obtain ⟨y, hy⟩ : ∃ y, y = gt L q := ⟨_, rfl⟩
                      rw [← hy] at p0' p1' p2' HTk
                      obtain ⟨yf, yt, yl⟩ := y
                      simp only at p0' p1' p2'
                      have hxe : ∀ W, (Op.equalIn 10000 25 (.agg #[.int .i64 yf, .int .i64 yt, .int .i64 yl]) (.agg #[.int .i64 xf, .int .i64 xt, .int .i64 xl])).run Try.prog W = .ok (decide ((⟨yf, yt, yl⟩ : Ed) = ⟨xf, xt, xl⟩)) W := fun W => run_eqG ⟨yf, yt, yl⟩ ⟨xf, xt, xl⟩ W
                      obtain ⟨t, ht⟩ : ∃ t, t = decide ((⟨yf, yt, yl⟩ : Ed) = ⟨xf, xt, xl⟩) := ⟨_, rfl⟩
                      rw [← ht] at hxe HTk
                      have p0 : ∀ W, Fx No wr W → W.cell? ⟨xb, xo + q * 3, none⟩ = some (.int .i64 yf) := fun W h => h.cell' p0' (fun h => h)
                      have p1 : ∀ W, Fx No wr W → W.cell? ⟨xb, xo + q * 3 + 1, none⟩ = some (.int .i64 yt) := fun W h => h.cell' p1' (fun h => h)
                      have p2 : ∀ W, Fx No wr W → W.cell? ⟨xb, xo + q * 3 + 2, none⟩ = some (.int .i64 yl) := fun W h => h.cell' p2' (fun h => h)
                      have b0 : ∀ W, Fx No wr W → W.cell? ⟨w10.heap.size, 0, none⟩ = some (.int .i64 xf) := fun W h => (HFq.out.trans h).cell' HB.out.1 (fun h => h)
                      have b1 : ∀ W, Fx No wr W → W.cell? ⟨w10.heap.size, 1, none⟩ = some (.int .i64 xt) := fun W h => (HFq.out.trans h).cell' HB.out.2.1 (fun h => h)
                      have b2 : ∀ W, Fx No wr W → W.cell? ⟨w10.heap.size, 2, none⟩ = some (.int .i64 xl) := fun W h => (HFq.out.trans h).cell' HB.out.2.2 (fun h => h)
                      clear hf ho hacc hcs hye p0' p1' p2' hy ht
                      go_wp2_with fail
                      refine wp_region_H (fun W => Fx No wr W) (by kernel_rfl) ((Fx.refl _ _).drew) ?_
                      intro hS
                      refine wpAnyH_hold (fun W' => Fx No wr W') hS ?_
                      clear hS
                      rintro y0 hS
                      have hS0 := hS
                      refine wpAnyH_take (i := 0) (v := ?_) rfl (by kernel_rfl) (by kernel_rfl) (by kernel_rfl) (fun _ _ _ h => h) (Or.inl ⟨by rfl, ?_⟩) hS ?_
                      rotate_left
                      · (intro W hs; go_simp; first | done | with_reducible rfl)
                      try simp only [Act.put, List.getElem_toArray, List.getElem_cons_zero, List.getElem_cons_succ, List.setIfInBounds_toArray, List.set_cons_zero, List.set_cons_succ]
                      refine wpAnyH_take (i := 1) (v := ?_) rfl (by kernel_rfl) (by kernel_rfl) (by kernel_rfl) (fun _ _ _ h => h) (Or.inl ⟨by rfl, ?_⟩) hS ?_
                      rotate_left
                      · (intro W hs; go_simp; first | done | with_reducible rfl)
                      try simp only [Act.put, List.getElem_toArray, List.getElem_cons_zero, List.getElem_cons_succ, List.setIfInBounds_toArray, List.set_cons_zero, List.set_cons_succ]
                      refine wpAnyH_take (i := 4) (v := ?_) rfl (by kernel_rfl) (by kernel_rfl) (by kernel_rfl) (fun _ _ _ h => h) (Or.inl ⟨by rfl, ?_⟩) hS ?_
                      rotate_left
                      · (intro W hs; go_simp; first | done | with_reducible rfl)
                      try simp only [Act.put, List.getElem_toArray, List.getElem_cons_zero, List.getElem_cons_succ, List.setIfInBounds_toArray, List.set_cons_zero, List.set_cons_succ]
                      refine wpAnyH_take (i := 2) (v := ?_) rfl (by kernel_rfl) (by kernel_rfl) (by kernel_rfl) (fun _ _ _ h => h) (Or.inl ⟨by rfl, ?_⟩) hS ?_
                      rotate_left
                      · (intro W hs; go_simp; first | done | with_reducible rfl)
                      try simp only [Act.put, List.getElem_toArray, List.getElem_cons_zero, List.getElem_cons_succ, List.setIfInBounds_toArray, List.set_cons_zero, List.set_cons_succ]
                      refine wpAnyH_take (i := 3) (v := ?_) rfl (by kernel_rfl) (by kernel_rfl) (by kernel_rfl) (fun _ _ _ h => h) (Or.inl ⟨by rfl, ?_⟩) hS ?_
                      rotate_left
                      · (intro W hs; go_simp; first | done | with_reducible rfl)
                      try simp only [Act.put, List.getElem_toArray, List.getElem_cons_zero, List.getElem_cons_succ, List.setIfInBounds_toArray, List.set_cons_zero, List.set_cons_succ]
                      refine wpAnyH_take (i := 5) (v := ?_) rfl (by kernel_rfl) (by kernel_rfl) (by kernel_rfl) (fun _ _ _ h => h) (Or.inl ⟨by rfl, ?_⟩) hS ?_
                      rotate_left
                      · (intro W hs; go_simp; first | done | with_reducible rfl)
                      try simp only [Act.put, List.getElem_toArray, List.getElem_cons_zero, List.getElem_cons_succ, List.setIfInBounds_toArray, List.set_cons_zero, List.set_cons_succ]
                      refine wpAnyH_done (by kernel_rfl) ?_ _
                      have HS := Lib.hid hS
                      have HO0 := Lib.hid (OwnT.no HO.out hS)
                      have HFq := Lib.hid (HFq.out.trans hS)
                      have p0 := p0 _ hS
                      have p1 := p1 _ hS
                      have p2 := p2 _ hS
                      clear hS hS0 b0 b1 b2 hxe
                      cases t
                      · have HN : Hid ((L.take (q + 1)).filter (fun y => !decide (y = ⟨xf, xt, xl⟩)) = acc ++ [⟨yf, yt, yl⟩]) := Lib.hid (by rw [HTk.out]; simp)
                        go_wp2_with (at_builtin; refine wpList_append_kept rfl _ _ 22 rfl w11.heap.size 25 Try.underlying22 hi hz0 hs hb rfl (by decide) rfl (World.ownsRow.alloc HO0.out _) rfl (SlV.lit _ 25 #[.int .i64 yf, .int .i64 yt, .int .i64 yl] 3 1 rfl (by unfold maxLen; omega)) (ints_one [_, _, _]) (by omega) (by unfold maxLen; omega) (by omega) (by have := HS.out.size; simp; omega) ?_)
                        intro v2 w12 ho hf _ _
                        have HO2 : Hid (OwnT 25 e3 3 w12 w11.heap.size v2 ((L.take (q + 1)).filter fun y => !decide (y = ⟨xf, xt, xl⟩))) := Lib.hid (by rw [HN.out]; exact OwnT.snoc ho)
                        have HF2 : Hid (Fx No w11 w12) := Lib.hid ((HFq.out.alloc _).trans' hf fun j h1 h2 => by have := (OwnT.lt HO0.out h1).1; omega)
                        clear ho hf
                        go_wp2
                        go_roundw
                        case rel => exact ⟨q + 1, by go_num, by omega, HF2.out, HO2.out⟩
                        case measure => simp [intOf]; omega
                      · have HN : Hid ((L.take (q + 1)).filter (fun y => !decide (y = ⟨xf, xt, xl⟩)) = acc) := Lib.hid (by rw [HTk.out]; simp)
                        go_wp2
                        go_roundw
                        case rel => exact ⟨q + 1, by go_num, by omega, HFq.out, by rw [HN.out]; exact HO0.out⟩
                        case measure => simp [intOf]; omega
                    · obtain rfl : q = L.length := by omega
                      rw [List.take_length] at ho
                      have HO := Lib.hid ho
                      have HF12 := Lib.hid (HF10.out.trans (HF11.out.trans hf))
                      have r0 := HF12.out.cell' HR0.out (fun h => h)
                      clear hf ho hql hq
                      go_wp2_with fail
                      refine (gNew_any κ _ (by omega)).mono ?_
                      rintro e w12 ⟨hb3, rfl, hf, hg⟩
                      have hz12 := hf.size
                      have hz11 := HF11.out.size
                      have hzr := HFq.out.size
                      have HG12 := Lib.hid hg
                      have HRow : Hid (EdsV w12 (Iv w11.heap.size wr.heap.size) _ (L.filter fun y => !decide (y = ⟨xf, xt, xl⟩))) := Lib.hid ((OwnT.row HO.out).no hf)
                      have HW12 : Hid (Fx No w10 w12) := Lib.hid ((HF11.out.trans HFq.out).trans hf)
                      have HZs : Hid (w10.heap.size < w11.heap.size ∧ w11.heap.size ≤ wr.heap.size ∧ wr.heap.size ≤ w12.heap.size) := Lib.hid ⟨World.block_lt_of_cell? w11 _ HB.out.1, hzr, hz12⟩
                      have HB12 : Hid (w12.cell? ⟨w10.heap.size, 0, none⟩ = some (.int .i64 xf) ∧ w12.cell? ⟨w10.heap.size, 1, none⟩ = some (.int .i64 xt) ∧ w12.cell? ⟨w10.heap.size, 2, none⟩ = some (.int .i64 xl)) := Lib.hid ⟨(HFq.out.trans hf).cell' HB.out.1 (fun h => h), (HFq.out.trans hf).cell' HB.out.2.1 (fun h => h), (HFq.out.trans hf).cell' HB.out.2.2 (fun h => h)⟩
                      have HLf : Hid ((L.filter fun y => !decide (y = (⟨xf, xt, xl⟩ : Ed))).length ≤ 40) := Lib.hid (Nat.le_trans (List.length_filter_le _ _) hL40)
                      clear hf hg r0 HO
                      go_wp2_with fail
                      refine (gAdd_any HG12.out HRow.out (fun k h1 h2 => by have := h1.2; have := h2.1; omega) (fun y hy => HLok.out y (List.mem_filter.1 hy).1) (good_mk fun y hy => HNd.out y (List.mem_filter.1 hy).1) (by have := HLf.out; simp only [List.length_nil]; omega)).mono ?_
                      rintro e w13 ⟨rfl, hfD, hg13⟩
                      rw [addL_rest HAs.out] at hg13
                      have HGw := Lib.hid hg13
                      obtain ⟨D13, hD13⟩ : ∃ D, D = DU (Iv wr.heap.size w12.heap.size) w12 w13 := ⟨_, rfl⟩
                      rw [← hD13] at HGw
                      have hz13 := hfD.size
                      have HD13 : Hid (∀ j, D13 j → w10.heap.size < j ∧ j < w13.heap.size) := Lib.hid fun j hj => by
                        have hs := HZs.out
                        rw [hD13] at hj
                        rcases hj with h | h
                        · have h1 := h.1; have h2 := h.2; omega
                        · have h1 := h.1; have h2 := h.2; omega
                      have HG13 : Hid (GraphV w13 D9 hb2 κ L) := Lib.hid ((HG10.out.no HW12.out).keep hfD fun j h1 h2 => by have h3 := HG10.out.lt j h1; have h4 := h2.1; have hs := HZs.out; omega)
                      have HF13 : Hid (Fx No wx w13) := Lib.hid ((HF10.out.trans HW12.out).trans' hfD fun j h1 h2 => by have h3 := h1.1; have h4 := HF10.out.size; have hs := HZs.out; omega)
                      have hnb : ¬ Iv wr.heap.size w12.heap.size w10.heap.size := fun h => by have := h.1; have hs := HZs.out; omega
                      have HB13 := Lib.hid (And.intro (hfD.cell' HB12.out.1 hnb) (And.intro (hfD.cell' HB12.out.2.1 hnb) (hfD.cell' HB12.out.2.2 hnb)))
                      obtain ⟨b0, b1, b2⟩ := HB13.out
                      have HXok := Lib.hid (HLok.out _ HX.out)
                      have HD9b : Hid (¬ D9 w10.heap.size) := Lib.hid fun h => by have := HG10.out.lt _ h; omega
                      clear hfD hg13 hD13 hnb HG12 HRow HB12
                      go_wp2_with fail
                      refine (gRemove_any HG13.out ⟨xf, xt, xl⟩ HXok.out).mono ?_
                      rintro e w14 ⟨rfl, hfD, hg14⟩
                      rw [decide_eq_true HX.out]
                      have HG14 := Lib.hid hg14
                      have HF14 : Hid (Fx No wx w14) := Lib.hid (HF13.out.trans' hfD fun j h1 h2 => by have := HD9.out j h1; omega)
                      have HGw14 := Lib.hid (HGw.out.keep hfD fun j h1 h2 => by have h3 := (HD13.out j h1).1; have h4 := HG10.out.lt j h2; omega)
                      have b0 := hfD.cell' HB13.out.1 HD9b.out
                      have b1 := hfD.cell' HB13.out.2.1 HD9b.out
                      have b2 := hfD.cell' HB13.out.2.2 HD9b.out
                      have HNm : Hid ((⟨xf, xt, xl⟩ : Ed) ∉ delE ⟨xf, xt, xl⟩ L) := Lib.hid fun h => (mem_delE.1 h).2 rfl
                      have HZ14 := Lib.hid hfD.size
                      clear hfD hg14 HG13
                      go_wp2_with fail
                      refine (gRemove_any HG14.out ⟨xf, xt, xl⟩ HXok.out).mono ?_
                      rintro e w15 ⟨rfl, hfD, hg15⟩
                      rw [decide_eq_false HNm.out]
                      rw [delE_not HNm.out] at hg15
                      have HG15 := Lib.hid hg15
                      have HF15 : Hid (Fx No wx w15) := Lib.hid (HF14.out.trans' hfD fun j h1 h2 => by
                        rcases h1 with h | h
                        · have := HD9.out j h; omega
                        · have h3 := h.1; have h4 := HF13.out.size; omega)
                      have HGw15 := Lib.hid (HGw14.out.keep hfD fun j h1 h2 => by
                        have h3 := HD13.out j h1
                        rcases h2 with h | h
                        · have h4 := HG10.out.lt j h; omega
                        · have h4 := h.1; omega)
                      have HGg15 := Lib.hid (HD.out.g.no HF15.out)
                      clear hfD hg15 b0 b1 b2 HG14 HGw14
                      go_wp2_with fail
                      refine (gSame_any HG15.out HGw15.out).mono ?_
                      rintro e w16 ⟨rfl, hf⟩
                      rw [decide_eq_true (show κ = κ ∧ delE ⟨xf, xt, xl⟩ L = delE ⟨xf, xt, xl⟩ L from ⟨rfl, rfl⟩)]
                      have HG16 := Lib.hid (HG15.out.no hf)
                      have HGg16 := Lib.hid (HGg15.out.no hf)
                      have HF16 := Lib.hid (HF15.out.trans hf)
                      clear hf
                      go_wp2_with fail
                      refine (gSame_any HG16.out HGg16.out).mono ?_
                      rintro e w17 ⟨rfl, hf⟩
                      rw [decide_eq_false (show ¬ (κ = κ ∧ delE ⟨xf, xt, xl⟩ L = L) from fun h => delE_ne HX.out h.2)]
                      have HF17 := Lib.hid (HF16.out.trans hf)
                      clear hf
                      go_wp2_with fail
                      refine (works_any _).mono ?_
                      rintro e w18 ⟨rfl, hf⟩
                      have HF18 := Lib.hid (HD.out.fx.trans (HF17.out.trans hf))
                      clear hf
                      go_wp2
                      go_ret
                      exact ⟨rfl, HF18.out⟩
              · obtain ⟨p', rfl⟩ : ∃ p', p = p' + 1 := ⟨p - 1, by omega⟩
                obtain rfl : z = (p' : Int) := by omega
                clear hz
                have hp1 : (p' : Int) < (L.length : Int) := by omega
                have hp2 : (0 : Int) ≤ (p' : Int) := by omega
                have HPl : Hid (p' < L.length) := Lib.hid (by omega)
                obtain ⟨_, _, he, _, _, hcs⟩ := EdsV.facts (OwnT.row (OwnT.no HAl.out HFq.out))
                simp only [Value.slice.injEq] at he
                obtain ⟨rfl, _, rfl⟩ := he
                obtain ⟨xb, xo, rfl, _, p0, p1, p2⟩ := hcs p' HPl.out
                obtain ⟨x, hx⟩ : ∃ x, x = gt L p' := ⟨_, rfl⟩
                have HX : Hid (x ∈ L) := Lib.hid (by rw [hx]; exact gt_mem HPl.out)
                rw [← hx] at p0 p1 p2
                have HXe := Lib.hid hx
                obtain ⟨xf, xt, xl⟩ := x
                simp only at p0 p1 p2
                clear hcs hx
                go_wp2_with (at_builtin; refine wpList_append_kept rfl _ _ 22 rfl w5.heap.size 25 Try.underlying22 hi hz0 hs hb rfl (by decide) rfl (World.ownsRow.alloc HO.out _) rfl (SlV.lit _ 25 #[.int .i64 xf, .int .i64 xt, .int .i64 xl] 3 1 rfl (by unfold maxLen; omega)) (ints_one [_, _, _]) (by omega) (by unfold maxLen; omega) (by omega) (by simp; omega) ?_)
                intro v2 w6 ho hf _ _
                have HO2 : Hid (OwnT 25 e3 3 w6 w5.heap.size v2 (ys ++ [⟨xf, xt, xl⟩])) := Lib.hid (OwnT.snoc ho)
                have HF2 : Hid (Fx No w5 w6) := Lib.hid ((HFq.out.alloc _).trans' hf fun j h1 h2 => by have := (OwnT.lt HO.out h1).1; omega)
                clear ho hf
                go_wp2
                go_roundw
                case rel => exact ⟨p', _, ys ++ [⟨xf, xt, xl⟩], rfl, by first | rfl | go_num, by have := HPl.out; omega, by have := HPl.out; first | (simp; done) | (simp; omega), fun y hy => by
                  rcases List.mem_append.1 hy with h | h
                  · exact HYs.out y h
                  · rw [List.mem_singleton] at h; rw [h]; exact HX.out, fun j h1 h2 => by
                  by_cases e : j = p'
                  · subst e; rw [← HXe.out]; simp
                  · exact List.mem_append_left _ (HYg.out j (by omega) h2), HF2.out, HO2.out⟩
                case measure => first | (simp [intOf]; done) | (simp [intOf]; omega)
end
#print axioms orders_any
end Go.Proofs.Ytcfajeldkioomaa
