/- The law SccReach. -/
import Derived.Test.YtdoplaijgocboaaGreatS6
import Derived.Deep.DeepCutAuto
import Derived.Deep.CutBlock

namespace Go.Proofs.YtdoplaijgocboaaGreat
open Go.RowKit
set_option linter.unusedVariables false

/-- what is at hand in the walk of SccReach -/
structure RS (w0 ws : World) (rb gb N : Nat) (L : List Ed) (ro : Option Addr) (rc : Nat) (D R : Nat → Prop) (lo : Nat) (vo : Value) (gO : Nat) (B : Nat → Nat) (g : Nat → Nat → Bool) (og : Nat) : Prop where
  gs : GS w0 ws rb gb N L ro rc D R
  mt : Mat ws lo N vo gO B g
  nb : NumB ws og N (cno (smR g))
theorem RS.no {w0 ws w' : World} {rb gb N : Nat} {L : List Ed} {ro : Option Addr} {rc : Nat} {D R : Nat → Prop} {lo : Nat} {vo : Value} {gO : Nat} {B : Nat → Nat} {g : Nat → Nat → Bool} {og : Nat} (h : RS w0 ws rb gb N L ro rc D R lo vo gO B g og) (hf : Fx No ws w') : RS w0 w' rb gb N L ro rc D R lo vo gO B g og :=
  ⟨h.gs.no hf, h.mt.fx hf (fun _ _ q => q), h.nb.keep hf (fun q => q)⟩
theorem j2_val {N : Nat} {sm : Nat → Nat → Bool} (h : Eqv sm N) {a b : Nat} (ha : a < N) (hb : b < N) : (!([(a : Int), (b : Int)] : List Int).any (jBad N (cno sm) (gi [(a : Int), (b : Int)] 0))) = sm a b := by
  have e0 : gi [(a : Int), (b : Int)] 0 = (a : Int) := rfl
  rw [e0]
  have q := cno_same h ha hb
  simp only [List.any_cons, List.any_nil, Bool.or_false, jBad, Int.toNat_natCast]
  have d1 : decide (0 ≤ (a : Int) ∧ (a : Int) < (N : Int)) = true := decide_eq_true ⟨by omega, by omega⟩
  have d2 : decide (0 ≤ (b : Int) ∧ (b : Int) < (N : Int)) = true := decide_eq_true ⟨by omega, by omega⟩
  rw [d1, d2]
  simp only [ne_eq, not_true_eq_false, decide_false, Bool.not_true, Bool.or_false, Bool.false_or]
  cases hs : sm a b with
  | true =>
    have := q.2 hs
    simp [this]
  | false =>
    have : cno sm b ≠ cno sm a := fun e => by
      have := q.1 e.symm
      rw [hs] at this; cases this
    simp [this]
theorem take_in {xs : List Ed} {k : Nat} (hk : k < xs.length) (x : Ed) : decide (x ∈ xs.take (k + 1)) = (decide (x ∈ xs.take k) || decide (gt xs k = x)) := by
  rw [take_gt hk, ← Bool.decide_or]
  refine decide_eq_decide.2 ?_
  rw [List.mem_append, List.mem_singleton]
  exact ⟨fun h => h.imp_right Eq.symm, fun h => h.imp_right Eq.symm⟩
theorem take_inI {xs : List Int} {k : Nat} (hk : k < xs.length) (x : Int) : decide (x ∈ xs.take (k + 1)) = (decide (x ∈ xs.take k) || decide (gi xs k = x)) := by
  rw [take_gi hk, ← Bool.decide_or]
  refine decide_eq_decide.2 ?_
  rw [List.mem_append, List.mem_singleton]
  exact ⟨fun h => h.imp_right Eq.symm, fun h => h.imp_right Eq.symm⟩
section
variable {w w' : World} {E : Nat → Prop} {l : List Ed} {v : Value}
set_option maxRecDepth 100000 in
set_option maxHeartbeats 8000000 in
theorem reach_any (n : Int) (h : EdsV w E v l) (hok : ∀ x ∈ l, x.ok) : Calls Tryz.prog 26 #[.int .i64 n, v] w fun e w' => e = .returned (.bool true) ∧ Fx No w w' := by
  have HE := Lib.hid h
  have HOk := Lib.hid hok
  obtain ⟨ao, cap, rfl, hcl, hcm, _⟩ := EdsV.facts h
  clear h hok
  by_cases h1 : 70 < l.length
  · have d1 : decide ((70 : Int) < (l.length : Int)) = true := decide_eq_true (by omega)
    go_enter Tryz.func26, Tryz.ntmps26
    go_wp2_with fail
    refine (works_any _).mono ?_
    rintro e w1 ⟨rfl, hf⟩
    have HF := Lib.hid hf
    clear hf
    go_wp2
    go_ret
    exact ⟨rfl, HF.out⟩
  · have d1 : decide ((70 : Int) < (l.length : Int)) = false := decide_eq_false (by omega)
    have hl70 : l.length ≤ 70 := by omega
    clear h1
    go_enter Tryz.func26, Tryz.ntmps26
    go_wp2_with fail
    refine (drawn_any HE.out HOk.out (by omega) n 25 (by omega)).mono ?_
    rintro e w1 ⟨gb, N, L, rv, D, R, rfl, hD, hN, hL⟩
    obtain ⟨ro, rc, rfl, _⟩ := EdsV.facts hD.row
    have HD1 := Lib.hid hD
    have hL70 : L.length ≤ 70 := by omega
    clear hD hL
    go_wp2_with fail
    refine calls_hold (fun W => GS w W w1.heap.size gb N L ro rc D R) (GS.start HD1.out) ?_
    rintro w2 hg2
    obtain ⟨rb, hrb⟩ : ∃ q, q = w1.heap.size := ⟨_, rfl⟩
    rw [← hrb] at hg2 ⊢
    have HNd := Lib.hid (NdL.of hg2.g)
    have HG2 := Lib.hid hg2
    have r0 := hg2.r0
    have r1 := hg2.r1
    clear hg2 hrb HD1
    refine (refReach_any HG2.out.row (by omega) HNd.out).mono ?_
    rintro e w3 ⟨vo, gO, B, g, rfl, hf3, hm3, hg3⟩
    have HIf := Lib.hid hg3
    have HEq : Hid (Eqv (smR g) N) := Lib.hid (eqv_smR (E := EG L) hg3)
    have HSm : Hid (∀ i j, i < N → j < N → (smR g i j = true ↔ Sm (EG L) i j)) := Lib.hid fun i j hi hj => smR_iff hg3 hi hj
    have HG3 := Lib.hid (HG2.out.no hf3)
    have HM3 := Lib.hid hm3
    clear hf3 hm3 hg3 r0 r1
    go_wp2_with fail
    refine (sof_any HG3.out.g HEq.out HSm.out).mono ?_
    rintro e w4 ⟨og, rfl, hf4, hg1, hg2, hnb⟩
    have hs4 : RS w w4 rb gb N L ro rc D R w2.heap.size vo gO B g og := ⟨HG3.out.no hf4, HM3.out.fx hf4 (fun _ _ q => q), hnb⟩
    have HS4 := Lib.hid hs4
    have r0 := hs4.gs.r0
    clear hf4 hg1 hg2 hnb hs4
    obtain ⟨vO, vcap, rfl, hvO, _⟩ := HM3.out.shape
    have HvO := Lib.hid hvO
    clear hvO HG3 HM3 HG2
    go_wp2
    go_loopw [9] (fun i ws => ∃ k : Nat, i = .int .i64 k ∧ k ≤ N ∧ Fx No w4 ws) (fun i _ => N - (intOf i).toNat)
    case atStart => exact ⟨0, rfl, by omega, Fx.refl _ _⟩
    case round =>
      obtain ⟨a, rfl, ha, hf⟩ := hrel
      have HSa := Lib.hid (HS4.out.no hf)
      have r0 := HSa.out.gs.r0
      have HFa := Lib.hid hf
      clear hf
      by_cases haN : a < N
      · have a0 : (0 : Int) ≤ (a : Int) := by omega
        have a1 : (a : Int) < (N : Int) := by omega
        go_wp2
        go_loopw [10] (fun i ws => ∃ k : Nat, i = .int .i64 k ∧ k ≤ N ∧ Fx No w4 ws) (fun i _ => N - (intOf i).toNat)
        case atStart => exact ⟨0, rfl, by omega, HFa.out⟩
        case round =>
          obtain ⟨b, rfl, hb, hf⟩ := hrel
          have HSb := Lib.hid (HS4.out.no hf)
          have r0 := HSb.out.gs.r0
          have HFb := Lib.hid hf
          clear hf
          by_cases hbN : b < N
          · have b0 : (0 : Int) ≤ (b : Int) := by omega
            have b1 : (b : Int) < (N : Int) := by omega
            obtain rfl := HvO.out (by omega)
            have m1 := HSb.out.mt.row a haN
            have m2 := HSb.out.mt.row b hbN
            have s1 := (HSb.out.mt.cel a b haN hbN).1
            have s2 := (HSb.out.mt.cel b a hbN haN).1
            have n1 := (HSb.out.nb a haN).1
            have n2 := (HSb.out.nb b hbN).1
            obtain ⟨t, ht⟩ : ∃ t, t = smR g a b := ⟨_, rfl⟩
            have HT := Lib.hid ht
            have hab : ((cno (smR g) a : Nat) : Int) = ((cno (smR g) b : Nat) : Int) ↔ t = true := by
              rw [ht, ← cno_same HEq.out haN hbN]; omega
            obtain ⟨ca, hca⟩ : ∃ x, x = cno (smR g) a := ⟨_, rfl⟩
            obtain ⟨cb, hcb⟩ : ∃ x, x = cno (smR g) b := ⟨_, rfl⟩
            obtain ⟨ta, hta⟩ : ∃ t, t = g a b := ⟨_, rfl⟩
            obtain ⟨tb, htb⟩ : ∃ t, t = g b a := ⟨_, rfl⟩
            rw [← hta] at s1
            rw [← htb] at s2
            rw [← hca] at n1 hab
            rw [← hcb] at n2 hab
            have htt : t = (decide (a = b) || (ta && tb)) := by rw [ht, hta, htb]; rfl
            have hcc : ((ca : Int) == (cb : Int)) = t := by
              cases t
              · have : ¬ (ca : Int) = (cb : Int) := fun e => by have := hab.1 e; cases this
                simpa using this
              · have := hab.2 rfl
                simpa using this
            clear ht hta htb hca hcb hab
            have N1 : ∀ W, Fx No wr W → W.cell? ⟨og, a, none⟩ = some (.int .i64 (ca : Nat)) := fun W h => h.cell' n1 (fun q => q)
            have N2 : ∀ W, Fx No wr W → W.cell? ⟨og, b, none⟩ = some (.int .i64 (cb : Nat)) := fun W h => h.cell' n2 (fun q => q)
            have CJ : Hid (∀ W, Fx No wr W → ∀ vv, IntsV W (fun k => k = wr.heap.size) vv [(a : Int), (b : Int)] → Calls Tryz.prog 24 #[.pointer (some ⟨gb, 0, none⟩), vv] W fun e w' => e = .returned (.bool t) ∧ Fx No W w') := Lib.hid fun W hf vv hv => by
              rw [HT.out, ← j2_val HEq.out haN hbN]
              exact joined_any (HSb.out.gs.g.no hf) HEq.out HSm.out hv
            have HX : Hid (IntsV (wr.drew.alloc (.cells #[.int .i64 (a : Int), .int .i64 (b : Int)] 3)) (fun k => k = wr.heap.size) (.slice (some ⟨wr.heap.size, 0, none⟩) 2 2) [(a : Int), (b : Int)]) := Lib.hid (IntsV.lit wr.drew 3 [(a : Int), (b : Int)] (by simp))
            by_cases hab : a = b
            · have e1 : ((a : Int) == (b : Int)) = true := by simp [hab]
              obtain rfl : t = true := by rw [htt]; simp [hab]
              clear htt hab
              go_wp2_with fail
              refine wp_region_H (fun W => Fx No wr W) (by kernel_rfl) (Fx.refl _ _).drew ?_
              intro hS
              refine wpAnyH_take (i := 0) (v := ?_) rfl (by kernel_rfl) (by kernel_rfl) (by kernel_rfl) (fun _ _ _ h => h) (Or.inl ⟨by rfl, ?_⟩) hS ?_
              rotate_left
              · (intro W hs; go_simp; first | done | with_reducible rfl)
              try simp only [Act.put, List.getElem_toArray, List.getElem_cons_zero, List.getElem_cons_succ, List.setIfInBounds_toArray, List.set_cons_zero, List.set_cons_succ]
              refine wpAnyH_take (i := 1) (v := ?_) rfl (by kernel_rfl) (by kernel_rfl) (by kernel_rfl) (fun _ _ _ h => h) (Or.inl ⟨by rfl, ?_⟩) hS ?_
              rotate_left
              · (intro W hs; go_simp; first | done | with_reducible rfl)
              try simp only [Act.put, List.getElem_toArray, List.getElem_cons_zero, List.getElem_cons_succ, List.setIfInBounds_toArray, List.set_cons_zero, List.set_cons_succ]
              refine wpAnyH_take (i := 2) (v := ?_) rfl (by kernel_rfl) (by kernel_rfl) (by kernel_rfl) (fun _ _ _ h => h) (Or.inl ⟨by rfl, ?_⟩) hS ?_
              rotate_left
              · (intro W hs; go_simp; first | done | with_reducible rfl)
              try simp only [Act.put, List.getElem_toArray, List.getElem_cons_zero, List.getElem_cons_succ, List.setIfInBounds_toArray, List.set_cons_zero, List.set_cons_succ]
              refine wpAnyH_take (i := 3) (v := ?_) rfl (by kernel_rfl) (by kernel_rfl) (by kernel_rfl) (fun _ _ _ h => h) (Or.inl ⟨by rfl, ?_⟩) hS ?_
              rotate_left
              · (intro W hs; go_simp; first | done | with_reducible rfl)
              try simp only [Act.put, List.getElem_toArray, List.getElem_cons_zero, List.getElem_cons_succ, List.setIfInBounds_toArray, List.set_cons_zero, List.set_cons_succ]
              refine wpAnyH_take (i := 4) (v := ?_) rfl (by kernel_rfl) (by kernel_rfl) (by kernel_rfl) (fun _ _ _ h => h) (Or.inl ⟨by rfl, ?_⟩) hS ?_
              rotate_left
              · (intro W hs; go_simp; first | done | with_reducible rfl)
              try simp only [Act.put, List.getElem_toArray, List.getElem_cons_zero, List.getElem_cons_succ, List.setIfInBounds_toArray, List.set_cons_zero, List.set_cons_succ]
              refine wpAnyH_take (i := 5) (v := ?_) rfl (by kernel_rfl) (by kernel_rfl) (by kernel_rfl) (fun _ _ _ h => h) (Or.inl ⟨by rfl, ?_⟩) hS ?_
              rotate_left
              · (intro W hs; go_simp; first | done | with_reducible rfl)
              try simp only [Act.put, List.getElem_toArray, List.getElem_cons_zero, List.getElem_cons_succ, List.setIfInBounds_toArray, List.set_cons_zero, List.set_cons_succ]
              refine wpAnyH_take (i := 6) (v := ?_) rfl (by kernel_rfl) (by kernel_rfl) (by kernel_rfl) (fun _ _ _ h => h) (Or.inl ⟨by rfl, ?_⟩) hS ?_
              rotate_left
              · (intro W hs; go_simp; first | done | with_reducible rfl)
              try simp only [Act.put, List.getElem_toArray, List.getElem_cons_zero, List.getElem_cons_succ, List.setIfInBounds_toArray, List.set_cons_zero, List.set_cons_succ]
              refine wpAnyH_take (i := 7) (v := ?_) rfl (by kernel_rfl) (by kernel_rfl) (by kernel_rfl) (fun _ _ _ h => h) (Or.inl ⟨by rfl, ?_⟩) hS ?_
              rotate_left
              · (intro W hs; go_simp; first | done | with_reducible rfl)
              try simp only [Act.put, List.getElem_toArray, List.getElem_cons_zero, List.getElem_cons_succ, List.setIfInBounds_toArray, List.set_cons_zero, List.set_cons_succ]
              refine wpAnyH_take (i := 8) (v := ?_) rfl (by kernel_rfl) (by kernel_rfl) (by kernel_rfl) (fun _ _ _ h => h) (Or.inl ⟨by rfl, ?_⟩) hS ?_
              rotate_left
              · (intro W hs; go_simp; first | done | with_reducible rfl)
              try simp only [Act.put, List.getElem_toArray, List.getElem_cons_zero, List.getElem_cons_succ, List.setIfInBounds_toArray, List.set_cons_zero, List.set_cons_succ]
              refine wpAnyH_take (i := 9) (v := ?_) rfl (by kernel_rfl) (by kernel_rfl) (by kernel_rfl) (fun _ _ _ h => h) (Or.inl ⟨by rfl, ?_⟩) hS ?_
              rotate_left
              · (intro W hs; go_simp; first | done | with_reducible rfl)
              try simp only [Act.put, List.getElem_toArray, List.getElem_cons_zero, List.getElem_cons_succ, List.setIfInBounds_toArray, List.set_cons_zero, List.set_cons_succ]
              refine wpAnyH_take (i := 10) (v := ?_) rfl (by kernel_rfl) (by kernel_rfl) (by kernel_rfl) (fun _ _ _ h => h) (Or.inl ⟨by rfl, ?_⟩) hS ?_
              rotate_left
              · (intro W hs; go_simp; first | done | with_reducible rfl)
              try simp only [Act.put, List.getElem_toArray, List.getElem_cons_zero, List.getElem_cons_succ, List.setIfInBounds_toArray, List.set_cons_zero, List.set_cons_succ]
              refine wpAnyH_take (i := 11) (v := ?_) rfl (by kernel_rfl) (by kernel_rfl) (by kernel_rfl) (fun _ _ _ h => h) (Or.inl ⟨by rfl, ?_⟩) hS ?_
              rotate_left
              · (intro W hs; go_simp; first | done | with_reducible rfl)
              try simp only [Act.put, List.getElem_toArray, List.getElem_cons_zero, List.getElem_cons_succ, List.setIfInBounds_toArray, List.set_cons_zero, List.set_cons_succ]
              refine wpAnyH_take (i := 12) (v := ?_) rfl (by kernel_rfl) (by kernel_rfl) (by kernel_rfl) (fun _ _ _ h => h) (Or.inl ⟨by rfl, ?_⟩) hS ?_
              rotate_left
              · (intro W hs; go_simp; first | done | with_reducible rfl)
              try simp only [Act.put, List.getElem_toArray, List.getElem_cons_zero, List.getElem_cons_succ, List.setIfInBounds_toArray, List.set_cons_zero, List.set_cons_succ]
              refine wpAnyH_take (i := 13) (v := ?_) rfl (by kernel_rfl) (by kernel_rfl) (by kernel_rfl) (fun _ _ _ h => h) (Or.inl ⟨by rfl, ?_⟩) hS ?_
              rotate_left
              · (intro W hs; go_simp; first | done | with_reducible rfl)
              try simp only [Act.put, List.getElem_toArray, List.getElem_cons_zero, List.getElem_cons_succ, List.setIfInBounds_toArray, List.set_cons_zero, List.set_cons_succ]
              refine wpAnyH_take (i := 14) (v := ?_) rfl (by kernel_rfl) (by kernel_rfl) (by kernel_rfl) (fun _ _ _ h => h) (Or.inl ⟨by rfl, ?_⟩) hS ?_
              rotate_left
              · (intro W hs; go_simp; first | done | with_reducible rfl)
              try simp only [Act.put, List.getElem_toArray, List.getElem_cons_zero, List.getElem_cons_succ, List.setIfInBounds_toArray, List.set_cons_zero, List.set_cons_succ]
              refine wpAnyH_take (i := 15) (v := ?_) rfl (by kernel_rfl) (by kernel_rfl) (by kernel_rfl) (fun _ _ _ h => h) (Or.inl ⟨by rfl, ?_⟩) hS ?_
              rotate_left
              · (intro W hs; go_simp; first | done | with_reducible rfl)
              try simp only [Act.put, List.getElem_toArray, List.getElem_cons_zero, List.getElem_cons_succ, List.setIfInBounds_toArray, List.set_cons_zero, List.set_cons_succ]
              refine wpH_one (i := 16) (by kernel_rfl) rfl (fun K hK => ?_)
              go_simp
              refine hK.out _ _ ((Fx.refl No wr).drew.alloc _) (fun hS' => ?_)
              clear hK K hS
              have hS := hS'
              clear hS'
              try simp only [Act.put, List.getElem_toArray, List.getElem_cons_zero, List.getElem_cons_succ, List.setIfInBounds_toArray, List.set_cons_zero, List.set_cons_succ]
              refine wpH_one (i := 17) (by kernel_rfl) rfl (fun K hK => ?_)
              go_simp
              refine (CJ.out _ ((Fx.refl No wr).drew.alloc _) _ HX.out).mono ?_
              rintro e w5 ⟨rfl, hf⟩
              refine hK.out _ _ (((Fx.refl No wr).drew.alloc _).trans hf) (fun hS' => ?_)
              clear hK K hS
              have hS := hS'
              clear hS'
              try simp only [Act.put, List.getElem_toArray, List.getElem_cons_zero, List.getElem_cons_succ, List.setIfInBounds_toArray, List.set_cons_zero, List.set_cons_succ]
              refine wpAnyH_take (i := 18) (v := ?_) rfl (by kernel_rfl) (by kernel_rfl) (by kernel_rfl) (fun _ _ _ h => h) (Or.inl ⟨by rfl, ?_⟩) hS ?_
              rotate_left
              · (intro W hs; go_simp; first | done | with_reducible rfl)
              try simp only [Act.put, List.getElem_toArray, List.getElem_cons_zero, List.getElem_cons_succ, List.setIfInBounds_toArray, List.set_cons_zero, List.set_cons_succ]
              refine wpAnyH_take (i := 19) (v := ?_) rfl (by kernel_rfl) (by kernel_rfl) (by kernel_rfl) (fun _ _ _ h => h) (Or.inl ⟨by rfl, ?_⟩) hS ?_
              rotate_left
              · (intro W hs; go_simp; first | done | with_reducible rfl)
              try simp only [Act.put, List.getElem_toArray, List.getElem_cons_zero, List.getElem_cons_succ, List.setIfInBounds_toArray, List.set_cons_zero, List.set_cons_succ]
              refine wpAnyH_done (by kernel_rfl) ?_ _
              have HF5 := Lib.hid (HFb.out.trans (((Fx.refl No wr).drew.alloc _).trans hf))
              clear hf CJ HX m1 m2 s1 s2 n1 n2 r0 N1 N2 hS
              go_wp2
              go_roundw
              case rel => exact ⟨b + 1, by go_num, by omega, HF5.out⟩
              case measure => simp [intOf]; omega
            · have e1 : ((a : Int) == (b : Int)) = false := by simp; omega
              cases ta
              · obtain rfl : t = false := by rw [htt]; simp [hab]
                clear htt
                go_wp2_with fail
                refine wp_region_H (fun W => Fx No wr W) (by kernel_rfl) (Fx.refl _ _).drew ?_
                intro hS
                refine wpAnyH_take (i := 0) (v := ?_) rfl (by kernel_rfl) (by kernel_rfl) (by kernel_rfl) (fun _ _ _ h => h) (Or.inl ⟨by rfl, ?_⟩) hS ?_
                rotate_left
                · (intro W hs; go_simp; first | done | with_reducible rfl)
                try simp only [Act.put, List.getElem_toArray, List.getElem_cons_zero, List.getElem_cons_succ, List.setIfInBounds_toArray, List.set_cons_zero, List.set_cons_succ]
                refine wpAnyH_take (i := 1) (v := ?_) rfl (by kernel_rfl) (by kernel_rfl) (by kernel_rfl) (fun _ _ _ h => h) (Or.inl ⟨by rfl, ?_⟩) hS ?_
                rotate_left
                · (intro W hs; go_simp; first | done | with_reducible rfl)
                try simp only [Act.put, List.getElem_toArray, List.getElem_cons_zero, List.getElem_cons_succ, List.setIfInBounds_toArray, List.set_cons_zero, List.set_cons_succ]
                refine wpAnyH_take (i := 2) (v := ?_) rfl (by kernel_rfl) (by kernel_rfl) (by kernel_rfl) (fun _ _ _ h => h) (Or.inl ⟨by rfl, ?_⟩) hS ?_
                rotate_left
                · (intro W hs; go_simp; first | done | with_reducible rfl)
                try simp only [Act.put, List.getElem_toArray, List.getElem_cons_zero, List.getElem_cons_succ, List.setIfInBounds_toArray, List.set_cons_zero, List.set_cons_succ]
                refine wpAnyH_take (i := 3) (v := ?_) rfl (by kernel_rfl) (by kernel_rfl) (by kernel_rfl) (fun _ _ _ h => h) (Or.inl ⟨by rfl, ?_⟩) hS ?_
                rotate_left
                · (intro W hs; go_simp; first | done | with_reducible rfl)
                try simp only [Act.put, List.getElem_toArray, List.getElem_cons_zero, List.getElem_cons_succ, List.setIfInBounds_toArray, List.set_cons_zero, List.set_cons_succ]
                refine wpAnyH_take (i := 4) (v := ?_) rfl (by kernel_rfl) (by kernel_rfl) (by kernel_rfl) (fun _ _ _ h => h) (Or.inl ⟨by rfl, ?_⟩) hS ?_
                rotate_left
                · (intro W hs; go_simp; first | done | with_reducible rfl)
                try simp only [Act.put, List.getElem_toArray, List.getElem_cons_zero, List.getElem_cons_succ, List.setIfInBounds_toArray, List.set_cons_zero, List.set_cons_succ]
                refine wpAnyH_take (i := 5) (v := ?_) rfl (by kernel_rfl) (by kernel_rfl) (by kernel_rfl) (fun _ _ _ h => h) (Or.inl ⟨by rfl, ?_⟩) hS ?_
                rotate_left
                · (intro W hs; go_simp; first | done | with_reducible rfl)
                try simp only [Act.put, List.getElem_toArray, List.getElem_cons_zero, List.getElem_cons_succ, List.setIfInBounds_toArray, List.set_cons_zero, List.set_cons_succ]
                refine wpAnyH_take (i := 6) (v := ?_) rfl (by kernel_rfl) (by kernel_rfl) (by kernel_rfl) (fun _ _ _ h => h) (Or.inl ⟨by rfl, ?_⟩) hS ?_
                rotate_left
                · (intro W hs; go_simp; first | done | with_reducible rfl)
                try simp only [Act.put, List.getElem_toArray, List.getElem_cons_zero, List.getElem_cons_succ, List.setIfInBounds_toArray, List.set_cons_zero, List.set_cons_succ]
                refine wpAnyH_take (i := 7) (v := ?_) rfl (by kernel_rfl) (by kernel_rfl) (by kernel_rfl) (fun _ _ _ h => h) (Or.inl ⟨by rfl, ?_⟩) hS ?_
                rotate_left
                · (intro W hs; go_simp; first | done | with_reducible rfl)
                try simp only [Act.put, List.getElem_toArray, List.getElem_cons_zero, List.getElem_cons_succ, List.setIfInBounds_toArray, List.set_cons_zero, List.set_cons_succ]
                refine wpAnyH_take (i := 8) (v := ?_) rfl (by kernel_rfl) (by kernel_rfl) (by kernel_rfl) (fun _ _ _ h => h) (Or.inl ⟨by rfl, ?_⟩) hS ?_
                rotate_left
                · (intro W hs; go_simp; first | done | with_reducible rfl)
                try simp only [Act.put, List.getElem_toArray, List.getElem_cons_zero, List.getElem_cons_succ, List.setIfInBounds_toArray, List.set_cons_zero, List.set_cons_succ]
                refine wpAnyH_take (i := 9) (v := ?_) rfl (by kernel_rfl) (by kernel_rfl) (by kernel_rfl) (fun _ _ _ h => h) (Or.inl ⟨by rfl, ?_⟩) hS ?_
                rotate_left
                · (intro W hs; go_simp; first | done | with_reducible rfl)
                try simp only [Act.put, List.getElem_toArray, List.getElem_cons_zero, List.getElem_cons_succ, List.setIfInBounds_toArray, List.set_cons_zero, List.set_cons_succ]
                refine wpAnyH_take (i := 10) (v := ?_) rfl (by kernel_rfl) (by kernel_rfl) (by kernel_rfl) (fun _ _ _ h => h) (Or.inl ⟨by rfl, ?_⟩) hS ?_
                rotate_left
                · (intro W hs; go_simp; first | done | with_reducible rfl)
                try simp only [Act.put, List.getElem_toArray, List.getElem_cons_zero, List.getElem_cons_succ, List.setIfInBounds_toArray, List.set_cons_zero, List.set_cons_succ]
                refine wpAnyH_take (i := 11) (v := ?_) rfl (by kernel_rfl) (by kernel_rfl) (by kernel_rfl) (fun _ _ _ h => h) (Or.inl ⟨by rfl, ?_⟩) hS ?_
                rotate_left
                · (intro W hs; go_simp; first | done | with_reducible rfl)
                try simp only [Act.put, List.getElem_toArray, List.getElem_cons_zero, List.getElem_cons_succ, List.setIfInBounds_toArray, List.set_cons_zero, List.set_cons_succ]
                refine wpAnyH_take (i := 12) (v := ?_) rfl (by kernel_rfl) (by kernel_rfl) (by kernel_rfl) (fun _ _ _ h => h) (Or.inl ⟨by rfl, ?_⟩) hS ?_
                rotate_left
                · (intro W hs; go_simp; first | done | with_reducible rfl)
                try simp only [Act.put, List.getElem_toArray, List.getElem_cons_zero, List.getElem_cons_succ, List.setIfInBounds_toArray, List.set_cons_zero, List.set_cons_succ]
                refine wpAnyH_take (i := 13) (v := ?_) rfl (by kernel_rfl) (by kernel_rfl) (by kernel_rfl) (fun _ _ _ h => h) (Or.inl ⟨by rfl, ?_⟩) hS ?_
                rotate_left
                · (intro W hs; go_simp; first | done | with_reducible rfl)
                try simp only [Act.put, List.getElem_toArray, List.getElem_cons_zero, List.getElem_cons_succ, List.setIfInBounds_toArray, List.set_cons_zero, List.set_cons_succ]
                refine wpAnyH_take (i := 14) (v := ?_) rfl (by kernel_rfl) (by kernel_rfl) (by kernel_rfl) (fun _ _ _ h => h) (Or.inl ⟨by rfl, ?_⟩) hS ?_
                rotate_left
                · (intro W hs; go_simp; first | done | with_reducible rfl)
                try simp only [Act.put, List.getElem_toArray, List.getElem_cons_zero, List.getElem_cons_succ, List.setIfInBounds_toArray, List.set_cons_zero, List.set_cons_succ]
                refine wpAnyH_take (i := 15) (v := ?_) rfl (by kernel_rfl) (by kernel_rfl) (by kernel_rfl) (fun _ _ _ h => h) (Or.inl ⟨by rfl, ?_⟩) hS ?_
                rotate_left
                · (intro W hs; go_simp; first | done | with_reducible rfl)
                try simp only [Act.put, List.getElem_toArray, List.getElem_cons_zero, List.getElem_cons_succ, List.setIfInBounds_toArray, List.set_cons_zero, List.set_cons_succ]
                refine wpH_one (i := 16) (by kernel_rfl) rfl (fun K hK => ?_)
                go_simp
                refine hK.out _ _ ((Fx.refl No wr).drew.alloc _) (fun hS' => ?_)
                clear hK K hS
                have hS := hS'
                clear hS'
                try simp only [Act.put, List.getElem_toArray, List.getElem_cons_zero, List.getElem_cons_succ, List.setIfInBounds_toArray, List.set_cons_zero, List.set_cons_succ]
                refine wpH_one (i := 17) (by kernel_rfl) rfl (fun K hK => ?_)
                go_simp
                refine (CJ.out _ ((Fx.refl No wr).drew.alloc _) _ HX.out).mono ?_
                rintro e w5 ⟨rfl, hf⟩
                refine hK.out _ _ (((Fx.refl No wr).drew.alloc _).trans hf) (fun hS' => ?_)
                clear hK K hS
                have hS := hS'
                clear hS'
                try simp only [Act.put, List.getElem_toArray, List.getElem_cons_zero, List.getElem_cons_succ, List.setIfInBounds_toArray, List.set_cons_zero, List.set_cons_succ]
                refine wpAnyH_take (i := 18) (v := ?_) rfl (by kernel_rfl) (by kernel_rfl) (by kernel_rfl) (fun _ _ _ h => h) (Or.inl ⟨by rfl, ?_⟩) hS ?_
                rotate_left
                · (intro W hs; go_simp; first | done | with_reducible rfl)
                try simp only [Act.put, List.getElem_toArray, List.getElem_cons_zero, List.getElem_cons_succ, List.setIfInBounds_toArray, List.set_cons_zero, List.set_cons_succ]
                refine wpAnyH_take (i := 19) (v := ?_) rfl (by kernel_rfl) (by kernel_rfl) (by kernel_rfl) (fun _ _ _ h => h) (Or.inl ⟨by rfl, ?_⟩) hS ?_
                rotate_left
                · (intro W hs; go_simp; first | done | with_reducible rfl)
                try simp only [Act.put, List.getElem_toArray, List.getElem_cons_zero, List.getElem_cons_succ, List.setIfInBounds_toArray, List.set_cons_zero, List.set_cons_succ]
                refine wpAnyH_done (by kernel_rfl) ?_ _
                have HF5 := Lib.hid (HFb.out.trans (((Fx.refl No wr).drew.alloc _).trans hf))
                clear hf CJ HX m1 m2 s1 s2 n1 n2 r0 N1 N2 hS
                go_wp2
                go_roundw
                case rel => exact ⟨b + 1, by go_num, by omega, HF5.out⟩
                case measure => simp [intOf]; omega
              · cases tb
                · obtain rfl : t = false := by rw [htt]; simp [hab]
                  clear htt
                  go_wp2_with fail
                  refine wp_region_H (fun W => Fx No wr W) (by kernel_rfl) (Fx.refl _ _).drew ?_
                  intro hS
                  refine wpAnyH_take (i := 0) (v := ?_) rfl (by kernel_rfl) (by kernel_rfl) (by kernel_rfl) (fun _ _ _ h => h) (Or.inl ⟨by rfl, ?_⟩) hS ?_
                  rotate_left
                  · (intro W hs; go_simp; first | done | with_reducible rfl)
                  try simp only [Act.put, List.getElem_toArray, List.getElem_cons_zero, List.getElem_cons_succ, List.setIfInBounds_toArray, List.set_cons_zero, List.set_cons_succ]
                  refine wpAnyH_take (i := 1) (v := ?_) rfl (by kernel_rfl) (by kernel_rfl) (by kernel_rfl) (fun _ _ _ h => h) (Or.inl ⟨by rfl, ?_⟩) hS ?_
                  rotate_left
                  · (intro W hs; go_simp; first | done | with_reducible rfl)
                  try simp only [Act.put, List.getElem_toArray, List.getElem_cons_zero, List.getElem_cons_succ, List.setIfInBounds_toArray, List.set_cons_zero, List.set_cons_succ]
                  refine wpAnyH_take (i := 2) (v := ?_) rfl (by kernel_rfl) (by kernel_rfl) (by kernel_rfl) (fun _ _ _ h => h) (Or.inl ⟨by rfl, ?_⟩) hS ?_
                  rotate_left
                  · (intro W hs; go_simp; first | done | with_reducible rfl)
                  try simp only [Act.put, List.getElem_toArray, List.getElem_cons_zero, List.getElem_cons_succ, List.setIfInBounds_toArray, List.set_cons_zero, List.set_cons_succ]
                  refine wpAnyH_take (i := 3) (v := ?_) rfl (by kernel_rfl) (by kernel_rfl) (by kernel_rfl) (fun _ _ _ h => h) (Or.inl ⟨by rfl, ?_⟩) hS ?_
                  rotate_left
                  · (intro W hs; go_simp; first | done | with_reducible rfl)
                  try simp only [Act.put, List.getElem_toArray, List.getElem_cons_zero, List.getElem_cons_succ, List.setIfInBounds_toArray, List.set_cons_zero, List.set_cons_succ]
                  refine wpAnyH_take (i := 4) (v := ?_) rfl (by kernel_rfl) (by kernel_rfl) (by kernel_rfl) (fun _ _ _ h => h) (Or.inl ⟨by rfl, ?_⟩) hS ?_
                  rotate_left
                  · (intro W hs; go_simp; first | done | with_reducible rfl)
                  try simp only [Act.put, List.getElem_toArray, List.getElem_cons_zero, List.getElem_cons_succ, List.setIfInBounds_toArray, List.set_cons_zero, List.set_cons_succ]
                  refine wpAnyH_take (i := 5) (v := ?_) rfl (by kernel_rfl) (by kernel_rfl) (by kernel_rfl) (fun _ _ _ h => h) (Or.inl ⟨by rfl, ?_⟩) hS ?_
                  rotate_left
                  · (intro W hs; go_simp; first | done | with_reducible rfl)
                  try simp only [Act.put, List.getElem_toArray, List.getElem_cons_zero, List.getElem_cons_succ, List.setIfInBounds_toArray, List.set_cons_zero, List.set_cons_succ]
                  refine wpAnyH_take (i := 6) (v := ?_) rfl (by kernel_rfl) (by kernel_rfl) (by kernel_rfl) (fun _ _ _ h => h) (Or.inl ⟨by rfl, ?_⟩) hS ?_
                  rotate_left
                  · (intro W hs; go_simp; first | done | with_reducible rfl)
                  try simp only [Act.put, List.getElem_toArray, List.getElem_cons_zero, List.getElem_cons_succ, List.setIfInBounds_toArray, List.set_cons_zero, List.set_cons_succ]
                  refine wpAnyH_take (i := 7) (v := ?_) rfl (by kernel_rfl) (by kernel_rfl) (by kernel_rfl) (fun _ _ _ h => h) (Or.inl ⟨by rfl, ?_⟩) hS ?_
                  rotate_left
                  · (intro W hs; go_simp; first | done | with_reducible rfl)
                  try simp only [Act.put, List.getElem_toArray, List.getElem_cons_zero, List.getElem_cons_succ, List.setIfInBounds_toArray, List.set_cons_zero, List.set_cons_succ]
                  refine wpAnyH_take (i := 8) (v := ?_) rfl (by kernel_rfl) (by kernel_rfl) (by kernel_rfl) (fun _ _ _ h => h) (Or.inl ⟨by rfl, ?_⟩) hS ?_
                  rotate_left
                  · (intro W hs; go_simp; first | done | with_reducible rfl)
                  try simp only [Act.put, List.getElem_toArray, List.getElem_cons_zero, List.getElem_cons_succ, List.setIfInBounds_toArray, List.set_cons_zero, List.set_cons_succ]
                  refine wpAnyH_take (i := 9) (v := ?_) rfl (by kernel_rfl) (by kernel_rfl) (by kernel_rfl) (fun _ _ _ h => h) (Or.inl ⟨by rfl, ?_⟩) hS ?_
                  rotate_left
                  · (intro W hs; go_simp; first | done | with_reducible rfl)
                  try simp only [Act.put, List.getElem_toArray, List.getElem_cons_zero, List.getElem_cons_succ, List.setIfInBounds_toArray, List.set_cons_zero, List.set_cons_succ]
                  refine wpAnyH_take (i := 10) (v := ?_) rfl (by kernel_rfl) (by kernel_rfl) (by kernel_rfl) (fun _ _ _ h => h) (Or.inl ⟨by rfl, ?_⟩) hS ?_
                  rotate_left
                  · (intro W hs; go_simp; first | done | with_reducible rfl)
                  try simp only [Act.put, List.getElem_toArray, List.getElem_cons_zero, List.getElem_cons_succ, List.setIfInBounds_toArray, List.set_cons_zero, List.set_cons_succ]
                  refine wpAnyH_take (i := 11) (v := ?_) rfl (by kernel_rfl) (by kernel_rfl) (by kernel_rfl) (fun _ _ _ h => h) (Or.inl ⟨by rfl, ?_⟩) hS ?_
                  rotate_left
                  · (intro W hs; go_simp; first | done | with_reducible rfl)
                  try simp only [Act.put, List.getElem_toArray, List.getElem_cons_zero, List.getElem_cons_succ, List.setIfInBounds_toArray, List.set_cons_zero, List.set_cons_succ]
                  refine wpAnyH_take (i := 12) (v := ?_) rfl (by kernel_rfl) (by kernel_rfl) (by kernel_rfl) (fun _ _ _ h => h) (Or.inl ⟨by rfl, ?_⟩) hS ?_
                  rotate_left
                  · (intro W hs; go_simp; first | done | with_reducible rfl)
                  try simp only [Act.put, List.getElem_toArray, List.getElem_cons_zero, List.getElem_cons_succ, List.setIfInBounds_toArray, List.set_cons_zero, List.set_cons_succ]
                  refine wpAnyH_take (i := 13) (v := ?_) rfl (by kernel_rfl) (by kernel_rfl) (by kernel_rfl) (fun _ _ _ h => h) (Or.inl ⟨by rfl, ?_⟩) hS ?_
                  rotate_left
                  · (intro W hs; go_simp; first | done | with_reducible rfl)
                  try simp only [Act.put, List.getElem_toArray, List.getElem_cons_zero, List.getElem_cons_succ, List.setIfInBounds_toArray, List.set_cons_zero, List.set_cons_succ]
                  refine wpAnyH_take (i := 14) (v := ?_) rfl (by kernel_rfl) (by kernel_rfl) (by kernel_rfl) (fun _ _ _ h => h) (Or.inl ⟨by rfl, ?_⟩) hS ?_
                  rotate_left
                  · (intro W hs; go_simp; first | done | with_reducible rfl)
                  try simp only [Act.put, List.getElem_toArray, List.getElem_cons_zero, List.getElem_cons_succ, List.setIfInBounds_toArray, List.set_cons_zero, List.set_cons_succ]
                  refine wpAnyH_take (i := 15) (v := ?_) rfl (by kernel_rfl) (by kernel_rfl) (by kernel_rfl) (fun _ _ _ h => h) (Or.inl ⟨by rfl, ?_⟩) hS ?_
                  rotate_left
                  · (intro W hs; go_simp; first | done | with_reducible rfl)
                  try simp only [Act.put, List.getElem_toArray, List.getElem_cons_zero, List.getElem_cons_succ, List.setIfInBounds_toArray, List.set_cons_zero, List.set_cons_succ]
                  refine wpH_one (i := 16) (by kernel_rfl) rfl (fun K hK => ?_)
                  go_simp
                  refine hK.out _ _ ((Fx.refl No wr).drew.alloc _) (fun hS' => ?_)
                  clear hK K hS
                  have hS := hS'
                  clear hS'
                  try simp only [Act.put, List.getElem_toArray, List.getElem_cons_zero, List.getElem_cons_succ, List.setIfInBounds_toArray, List.set_cons_zero, List.set_cons_succ]
                  refine wpH_one (i := 17) (by kernel_rfl) rfl (fun K hK => ?_)
                  go_simp
                  refine (CJ.out _ ((Fx.refl No wr).drew.alloc _) _ HX.out).mono ?_
                  rintro e w5 ⟨rfl, hf⟩
                  refine hK.out _ _ (((Fx.refl No wr).drew.alloc _).trans hf) (fun hS' => ?_)
                  clear hK K hS
                  have hS := hS'
                  clear hS'
                  try simp only [Act.put, List.getElem_toArray, List.getElem_cons_zero, List.getElem_cons_succ, List.setIfInBounds_toArray, List.set_cons_zero, List.set_cons_succ]
                  refine wpAnyH_take (i := 18) (v := ?_) rfl (by kernel_rfl) (by kernel_rfl) (by kernel_rfl) (fun _ _ _ h => h) (Or.inl ⟨by rfl, ?_⟩) hS ?_
                  rotate_left
                  · (intro W hs; go_simp; first | done | with_reducible rfl)
                  try simp only [Act.put, List.getElem_toArray, List.getElem_cons_zero, List.getElem_cons_succ, List.setIfInBounds_toArray, List.set_cons_zero, List.set_cons_succ]
                  refine wpAnyH_take (i := 19) (v := ?_) rfl (by kernel_rfl) (by kernel_rfl) (by kernel_rfl) (fun _ _ _ h => h) (Or.inl ⟨by rfl, ?_⟩) hS ?_
                  rotate_left
                  · (intro W hs; go_simp; first | done | with_reducible rfl)
                  try simp only [Act.put, List.getElem_toArray, List.getElem_cons_zero, List.getElem_cons_succ, List.setIfInBounds_toArray, List.set_cons_zero, List.set_cons_succ]
                  refine wpAnyH_done (by kernel_rfl) ?_ _
                  have HF5 := Lib.hid (HFb.out.trans (((Fx.refl No wr).drew.alloc _).trans hf))
                  clear hf CJ HX m1 m2 s1 s2 n1 n2 r0 N1 N2 hS
                  go_wp2
                  go_roundw
                  case rel => exact ⟨b + 1, by go_num, by omega, HF5.out⟩
                  case measure => simp [intOf]; omega
                · obtain rfl : t = true := by rw [htt]; simp [hab]
                  clear htt
                  go_wp2_with fail
                  refine wp_region_H (fun W => Fx No wr W) (by kernel_rfl) (Fx.refl _ _).drew ?_
                  intro hS
                  refine wpAnyH_take (i := 0) (v := ?_) rfl (by kernel_rfl) (by kernel_rfl) (by kernel_rfl) (fun _ _ _ h => h) (Or.inl ⟨by rfl, ?_⟩) hS ?_
                  rotate_left
                  · (intro W hs; go_simp; first | done | with_reducible rfl)
                  try simp only [Act.put, List.getElem_toArray, List.getElem_cons_zero, List.getElem_cons_succ, List.setIfInBounds_toArray, List.set_cons_zero, List.set_cons_succ]
                  refine wpAnyH_take (i := 1) (v := ?_) rfl (by kernel_rfl) (by kernel_rfl) (by kernel_rfl) (fun _ _ _ h => h) (Or.inl ⟨by rfl, ?_⟩) hS ?_
                  rotate_left
                  · (intro W hs; go_simp; first | done | with_reducible rfl)
                  try simp only [Act.put, List.getElem_toArray, List.getElem_cons_zero, List.getElem_cons_succ, List.setIfInBounds_toArray, List.set_cons_zero, List.set_cons_succ]
                  refine wpAnyH_take (i := 2) (v := ?_) rfl (by kernel_rfl) (by kernel_rfl) (by kernel_rfl) (fun _ _ _ h => h) (Or.inl ⟨by rfl, ?_⟩) hS ?_
                  rotate_left
                  · (intro W hs; go_simp; first | done | with_reducible rfl)
                  try simp only [Act.put, List.getElem_toArray, List.getElem_cons_zero, List.getElem_cons_succ, List.setIfInBounds_toArray, List.set_cons_zero, List.set_cons_succ]
                  refine wpAnyH_take (i := 3) (v := ?_) rfl (by kernel_rfl) (by kernel_rfl) (by kernel_rfl) (fun _ _ _ h => h) (Or.inl ⟨by rfl, ?_⟩) hS ?_
                  rotate_left
                  · (intro W hs; go_simp; first | done | with_reducible rfl)
                  try simp only [Act.put, List.getElem_toArray, List.getElem_cons_zero, List.getElem_cons_succ, List.setIfInBounds_toArray, List.set_cons_zero, List.set_cons_succ]
                  refine wpAnyH_take (i := 4) (v := ?_) rfl (by kernel_rfl) (by kernel_rfl) (by kernel_rfl) (fun _ _ _ h => h) (Or.inl ⟨by rfl, ?_⟩) hS ?_
                  rotate_left
                  · (intro W hs; go_simp; first | done | with_reducible rfl)
                  try simp only [Act.put, List.getElem_toArray, List.getElem_cons_zero, List.getElem_cons_succ, List.setIfInBounds_toArray, List.set_cons_zero, List.set_cons_succ]
                  refine wpAnyH_take (i := 5) (v := ?_) rfl (by kernel_rfl) (by kernel_rfl) (by kernel_rfl) (fun _ _ _ h => h) (Or.inl ⟨by rfl, ?_⟩) hS ?_
                  rotate_left
                  · (intro W hs; go_simp; first | done | with_reducible rfl)
                  try simp only [Act.put, List.getElem_toArray, List.getElem_cons_zero, List.getElem_cons_succ, List.setIfInBounds_toArray, List.set_cons_zero, List.set_cons_succ]
                  refine wpAnyH_take (i := 6) (v := ?_) rfl (by kernel_rfl) (by kernel_rfl) (by kernel_rfl) (fun _ _ _ h => h) (Or.inl ⟨by rfl, ?_⟩) hS ?_
                  rotate_left
                  · (intro W hs; go_simp; first | done | with_reducible rfl)
                  try simp only [Act.put, List.getElem_toArray, List.getElem_cons_zero, List.getElem_cons_succ, List.setIfInBounds_toArray, List.set_cons_zero, List.set_cons_succ]
                  refine wpAnyH_take (i := 7) (v := ?_) rfl (by kernel_rfl) (by kernel_rfl) (by kernel_rfl) (fun _ _ _ h => h) (Or.inl ⟨by rfl, ?_⟩) hS ?_
                  rotate_left
                  · (intro W hs; go_simp; first | done | with_reducible rfl)
                  try simp only [Act.put, List.getElem_toArray, List.getElem_cons_zero, List.getElem_cons_succ, List.setIfInBounds_toArray, List.set_cons_zero, List.set_cons_succ]
                  refine wpAnyH_take (i := 8) (v := ?_) rfl (by kernel_rfl) (by kernel_rfl) (by kernel_rfl) (fun _ _ _ h => h) (Or.inl ⟨by rfl, ?_⟩) hS ?_
                  rotate_left
                  · (intro W hs; go_simp; first | done | with_reducible rfl)
                  try simp only [Act.put, List.getElem_toArray, List.getElem_cons_zero, List.getElem_cons_succ, List.setIfInBounds_toArray, List.set_cons_zero, List.set_cons_succ]
                  refine wpAnyH_take (i := 9) (v := ?_) rfl (by kernel_rfl) (by kernel_rfl) (by kernel_rfl) (fun _ _ _ h => h) (Or.inl ⟨by rfl, ?_⟩) hS ?_
                  rotate_left
                  · (intro W hs; go_simp; first | done | with_reducible rfl)
                  try simp only [Act.put, List.getElem_toArray, List.getElem_cons_zero, List.getElem_cons_succ, List.setIfInBounds_toArray, List.set_cons_zero, List.set_cons_succ]
                  refine wpAnyH_take (i := 10) (v := ?_) rfl (by kernel_rfl) (by kernel_rfl) (by kernel_rfl) (fun _ _ _ h => h) (Or.inl ⟨by rfl, ?_⟩) hS ?_
                  rotate_left
                  · (intro W hs; go_simp; first | done | with_reducible rfl)
                  try simp only [Act.put, List.getElem_toArray, List.getElem_cons_zero, List.getElem_cons_succ, List.setIfInBounds_toArray, List.set_cons_zero, List.set_cons_succ]
                  refine wpAnyH_take (i := 11) (v := ?_) rfl (by kernel_rfl) (by kernel_rfl) (by kernel_rfl) (fun _ _ _ h => h) (Or.inl ⟨by rfl, ?_⟩) hS ?_
                  rotate_left
                  · (intro W hs; go_simp; first | done | with_reducible rfl)
                  try simp only [Act.put, List.getElem_toArray, List.getElem_cons_zero, List.getElem_cons_succ, List.setIfInBounds_toArray, List.set_cons_zero, List.set_cons_succ]
                  refine wpAnyH_take (i := 12) (v := ?_) rfl (by kernel_rfl) (by kernel_rfl) (by kernel_rfl) (fun _ _ _ h => h) (Or.inl ⟨by rfl, ?_⟩) hS ?_
                  rotate_left
                  · (intro W hs; go_simp; first | done | with_reducible rfl)
                  try simp only [Act.put, List.getElem_toArray, List.getElem_cons_zero, List.getElem_cons_succ, List.setIfInBounds_toArray, List.set_cons_zero, List.set_cons_succ]
                  refine wpAnyH_take (i := 13) (v := ?_) rfl (by kernel_rfl) (by kernel_rfl) (by kernel_rfl) (fun _ _ _ h => h) (Or.inl ⟨by rfl, ?_⟩) hS ?_
                  rotate_left
                  · (intro W hs; go_simp; first | done | with_reducible rfl)
                  try simp only [Act.put, List.getElem_toArray, List.getElem_cons_zero, List.getElem_cons_succ, List.setIfInBounds_toArray, List.set_cons_zero, List.set_cons_succ]
                  refine wpAnyH_take (i := 14) (v := ?_) rfl (by kernel_rfl) (by kernel_rfl) (by kernel_rfl) (fun _ _ _ h => h) (Or.inl ⟨by rfl, ?_⟩) hS ?_
                  rotate_left
                  · (intro W hs; go_simp; first | done | with_reducible rfl)
                  try simp only [Act.put, List.getElem_toArray, List.getElem_cons_zero, List.getElem_cons_succ, List.setIfInBounds_toArray, List.set_cons_zero, List.set_cons_succ]
                  refine wpAnyH_take (i := 15) (v := ?_) rfl (by kernel_rfl) (by kernel_rfl) (by kernel_rfl) (fun _ _ _ h => h) (Or.inl ⟨by rfl, ?_⟩) hS ?_
                  rotate_left
                  · (intro W hs; go_simp; first | done | with_reducible rfl)
                  try simp only [Act.put, List.getElem_toArray, List.getElem_cons_zero, List.getElem_cons_succ, List.setIfInBounds_toArray, List.set_cons_zero, List.set_cons_succ]
                  refine wpH_one (i := 16) (by kernel_rfl) rfl (fun K hK => ?_)
                  go_simp
                  refine hK.out _ _ ((Fx.refl No wr).drew.alloc _) (fun hS' => ?_)
                  clear hK K hS
                  have hS := hS'
                  clear hS'
                  try simp only [Act.put, List.getElem_toArray, List.getElem_cons_zero, List.getElem_cons_succ, List.setIfInBounds_toArray, List.set_cons_zero, List.set_cons_succ]
                  refine wpH_one (i := 17) (by kernel_rfl) rfl (fun K hK => ?_)
                  go_simp
                  refine (CJ.out _ ((Fx.refl No wr).drew.alloc _) _ HX.out).mono ?_
                  rintro e w5 ⟨rfl, hf⟩
                  refine hK.out _ _ (((Fx.refl No wr).drew.alloc _).trans hf) (fun hS' => ?_)
                  clear hK K hS
                  have hS := hS'
                  clear hS'
                  try simp only [Act.put, List.getElem_toArray, List.getElem_cons_zero, List.getElem_cons_succ, List.setIfInBounds_toArray, List.set_cons_zero, List.set_cons_succ]
                  refine wpAnyH_take (i := 18) (v := ?_) rfl (by kernel_rfl) (by kernel_rfl) (by kernel_rfl) (fun _ _ _ h => h) (Or.inl ⟨by rfl, ?_⟩) hS ?_
                  rotate_left
                  · (intro W hs; go_simp; first | done | with_reducible rfl)
                  try simp only [Act.put, List.getElem_toArray, List.getElem_cons_zero, List.getElem_cons_succ, List.setIfInBounds_toArray, List.set_cons_zero, List.set_cons_succ]
                  refine wpAnyH_take (i := 19) (v := ?_) rfl (by kernel_rfl) (by kernel_rfl) (by kernel_rfl) (fun _ _ _ h => h) (Or.inl ⟨by rfl, ?_⟩) hS ?_
                  rotate_left
                  · (intro W hs; go_simp; first | done | with_reducible rfl)
                  try simp only [Act.put, List.getElem_toArray, List.getElem_cons_zero, List.getElem_cons_succ, List.setIfInBounds_toArray, List.set_cons_zero, List.set_cons_succ]
                  refine wpAnyH_done (by kernel_rfl) ?_ _
                  have HF5 := Lib.hid (HFb.out.trans (((Fx.refl No wr).drew.alloc _).trans hf))
                  clear hf CJ HX m1 m2 s1 s2 n1 n2 r0 N1 N2 hS
                  go_wp2
                  go_roundw
                  case rel => exact ⟨b + 1, by go_num, by omega, HF5.out⟩
                  case measure => simp [intOf]; omega
          · obtain rfl : b = N := by omega
            go_wp2
            go_roundw
            case rel => exact ⟨a + 1, by go_num, by omega, HFb.out⟩
            case measure => simp [intOf]; omega
      · obtain rfl : a = N := by omega
        obtain ⟨xs, hxs⟩ : ∃ xs, xs = L.filter fun x => !outE2 (cno (smR g)) x := ⟨_, rfl⟩
        have hxl : xs.length ≤ 70 := by rw [hxs]; exact Nat.le_trans (List.length_filter_le _ _) hL70
        have HXs := Lib.hid hxs
        go_wp2_with fail
        clear r0
        refine (within_any HSa.out.gs.g HEq.out HSm.out).mono ?_
        rw [← hxs]
        clear hxs
        rintro e w5 ⟨v5, rfl, hf5, hv5⟩
        have HS5 := Lib.hid (HSa.out.no hf5)
        have HV5 := Lib.hid (OwnT.row hv5)
        clear hf5 hv5
        go_wp2_with fail
        refine (docEdges_any HV5.out (by omega)).mono ?_
        rintro e w6 ⟨v6, rfl, hf6, hv6⟩
        obtain ⟨wo, wc, rfl, hw1, hw2, _⟩ := EdsV.facts (OwnT.row hv6)
        have hs6 := HS5.out.no hf6
        have HS6 := Lib.hid hs6
        have r0 := hs6.gs.r0
        have HXv := Lib.hid (OwnT.row hv6)
        have hmk := makeBools (E := (a : Int)) (k := a) (by omega) (by omega) (by omega)
        obtain ⟨mm, hmm⟩ : ∃ mm, mm = xs.length := ⟨_, rfl⟩
        rw [← hmm] at hxl hw1 ⊢
        have HMM := Lib.hid hmm
        clear hf6 hv6 hs6 hmm HV5 HS5
        go_upto_region 19 with fail
        refine wp_hold (fun W => Fx No w6 W ∧ TruB W w6.heap.size a fun _ => false) ⟨(Fx.refl No w6).alloc _, fun i hi => new_cells rfl (by simp [zeroBools, hi])⟩ ?_
        obtain ⟨tb, htb⟩ : ∃ x, x = w6.heap.size := ⟨_, rfl⟩
        have HTb := Lib.hid htb
        rw [← htb]
        rintro w7 ⟨hf7, ht7⟩
        have HF7 := Lib.hid hf7
        have HT7 := Lib.hid ht7
        obtain ⟨m, hm⟩ : ∃ m, m = L.length := ⟨_, rfl⟩
        have HM := Lib.hid hm
        rw [← hm] at hL70 ⊢
        clear hm hf7 ht7 htb hmk r0
        go_wp2
        go_loopw [14] (fun i ws => ∃ (q : Nat) (f : Nat → Bool), i = .int .i64 q ∧ q ≤ m ∧ Fx No w6 ws ∧ TruB ws tb a f ∧ ∀ i, i < a → (f i = true ↔ ∃ e ∈ L.take q, e.f = (i : Int) ∧ outE2 (cno (smR g)) e = false)) (fun i _ => m - (intOf i).toNat)
        case atStart => exact ⟨0, _, rfl, by omega, HF7.out, HT7.out, fun i hi => by simp⟩
        case round =>
          obtain ⟨q, f, rfl, hq, hf, htr, hfs⟩ := hrel
          have HFq := Lib.hid hf
          have HTr := Lib.hid htr
          have HFs := Lib.hid hfs
          have hsq := HS6.out.no hf
          have HSq := Lib.hid hsq
          have r1 := hsq.gs.r1
          rw [← HM.out] at r1
          by_cases hqm : q < m
          · have hqL : q < L.length := by rw [← HM.out]; exact hqm
            obtain ⟨_, _, e0, _, _, hkk⟩ := EdsV.facts hsq.gs.row
            obtain ⟨b3, o3, e1, _, p0, p1, p2⟩ := hkk q hqL
            simp only [Value.slice.injEq] at e0
            obtain ⟨rfl, -, -⟩ := e0
            subst e1
            obtain ⟨x, hx⟩ : ∃ x, x = gt L q := ⟨_, rfl⟩
            rw [← hx] at p0 p1 p2
            have hxL : x ∈ L := by rw [hx]; exact gt_mem hqL
            obtain ⟨⟨n0, n1⟩, n2, n3⟩ := HNd.out x hxL
            have HTk : Hid (L.take (q + 1) = L.take q ++ [x]) := Lib.hid (by rw [hx]; exact take_gt hqL)
            obtain ⟨xf, xt, xl⟩ := x
            simp only at n0 n1 n2 n3 p0 p1 p2
            obtain ⟨i, rfl⟩ := Int.eq_ofNat_of_zero_le n0
            obtain ⟨j, rfl⟩ := Int.eq_ofNat_of_zero_le n2
            have hi : i < a := by omega
            have hj : j < a := by omega
            have HxL := Lib.hid hxL
            have q0 : (0 : Int) ≤ (q : Int) := by omega
            have q1 : (q : Int) < (m : Int) := by omega
            obtain ⟨z, hz⟩ : ∃ z : Ed, z = ⟨(i : Int), (j : Int), xl⟩ := ⟨_, rfl⟩
            have HZ := Lib.hid hz
            have HOn : Hid (decide (z ∈ xs) = !outE2 (cno (smR g)) z) := Lib.hid (by
              rw [HXs.out, hz]
              cases hh : outE2 (cno (smR g)) ⟨(i : Int), (j : Int), xl⟩ with
              | true => rw [decide_eq_false]; rfl; intro hm; have := (List.mem_filter.1 hm).2; rw [hh] at this; cases this
              | false => rw [decide_eq_true]; rfl; exact List.mem_filter.2 ⟨hxL, by rw [hh]; rfl⟩)
            have HWi : Hid (outE2 (cno (smR g)) z = false ↔ i = j ∨ g j i = true) := Lib.hid (by
              rw [← within_iff (E := EG L) HIf.out hi hj ⟨_, hxL, rfl, rfl⟩, hz]
              unfold outE2
              simp)
            clear hx hxL hz n0 n2 hkk hf htr hfs hsq
            go_upto_region 23 with fail
            refine wp_hold (fun W => Fx No wr W ∧ W.cell? ⟨wr.heap.size, 0, none⟩ = some (.int .i64 (i : Int)) ∧ W.cell? ⟨wr.heap.size, 1, none⟩ = some (.int .i64 (j : Int)) ∧ W.cell? ⟨wr.heap.size, 2, none⟩ = some (.int .i64 xl)) ⟨(Fx.refl No wr).alloc _, by simp, by simp, by simp⟩ ?_
            obtain ⟨eb, heb⟩ : ∃ x, x = wr.heap.size := ⟨_, rfl⟩
            rw [← heb]
            rintro w8 ⟨hf8, k0, k1, k2⟩
            have HF8 := Lib.hid hf8
            have HK0 := Lib.hid k0
            have HK1 := Lib.hid k1
            have HK2 := Lib.hid k2
            clear hf8 k0 k1 k2 heb p0 p1 p2 r1
            go_wp2
            go_loopw [16, 17] (fun o i ws => ∃ k : Nat, o = .bool (decide (z ∈ xs.take k)) ∧ i = .int .i64 k ∧ k ≤ mm ∧ Fx No w8 ws) (fun _ i _ => mm - (intOf i).toNat)
            case atStart => exact ⟨0, by simp, rfl, by omega, Fx.refl _ _⟩
            case round =>
              obtain ⟨k, rfl, rfl, hk, hf⟩ := hrel
              have HFk := Lib.hid hf
              obtain ⟨t, ht⟩ : ∃ t, t = decide (z ∈ xs.take k) := ⟨_, rfl⟩
              rw [← ht]
              have HT := Lib.hid ht
              clear ht
              by_cases hkm : k < mm
              · have hkx : k < xs.length := by rw [← HMM.out]; exact hkm
                have HTd := Lib.hid (take_in hkx z)
                rw [← HT.out] at HTd
                cases t
                · have k0 := hf.cell' HK0.out (fun q => q)
                  have k1 := hf.cell' HK1.out (fun q => q)
                  have k2 := hf.cell' HK2.out (fun q => q)
                  obtain ⟨_, _, e0, _, _, hkk⟩ := EdsV.facts (RowV.no HXv.out (HFq.out.trans (HF8.out.trans hf)))
                  obtain ⟨b4, o4, e1, _, c0, c1, c2⟩ := hkk k hkx
                  simp only [Value.slice.injEq] at e0
                  obtain ⟨rfl, -, -⟩ := e0
                  subst e1
                  obtain ⟨y, hy⟩ : ∃ y, y = gt xs k := ⟨_, rfl⟩
                  rw [← hy] at c0 c1 c2 HTd
                  have hyz := run_eq13 y z
                  rw [HZ.out] at hyz
                  obtain ⟨t, ht⟩ : ∃ t, t = decide (y = ⟨(i : Int), (j : Int), xl⟩) := ⟨_, rfl⟩
                  rw [← ht] at hyz
                  have HTd : Hid (decide (z ∈ xs.take (k + 1)) = t) := Lib.hid (by rw [HTd.out, ht, HZ.out]; simp)
                  have i0 : (0 : Int) ≤ (k : Int) := by omega
                  have i1 : (k : Int) < (mm : Int) := by omega
                  simp only at hyz
                  clear ht hkk hf hy
                  go_wp2
                  go_quiet (fail)
                  refine q_hold (fun W => Fx No wr W) ((Fx.refl No wr).drewN _) ?_
                  rintro w9 hf9
                  have HF9 := Lib.hid (HFk.out.trans hf9)
                  clear hf9 hyz k0 k1 k2 c0 c1 c2
                  go_wp2
                  go_roundw
                  case rel => exact ⟨k + 1, by rw [HTd.out], by go_num, by omega, HF9.out⟩
                  case measure => simp [intOf]; omega
                · have HTd : Hid (decide (z ∈ xs.take (k + 1)) = true) := Lib.hid (by rw [HTd.out]; simp)
                  clear hf
                  go_wp2
                  go_quiet (fail)
                  refine q_hold (fun W => Fx No wr W) ((Fx.refl No wr).drewN _) ?_
                  rintro w9 hf9
                  have HF9 := Lib.hid (HFk.out.trans hf9)
                  clear hf9
                  go_wp2
                  go_roundw
                  case rel => exact ⟨k + 1, by rw [HTd.out], by go_num, by omega, HF9.out⟩
                  case measure => simp [intOf]; omega
              · obtain rfl : k = mm := by omega
                have hte : xs.take k = xs := List.take_of_length_le (by rw [HMM.out]; exact Nat.le_refl _)
                have HTo : Hid (t = !outE2 (cno (smR g)) z) := Lib.hid (by rw [HT.out, hte, HOn.out])
                have HF6 : Hid (Fx No w6 wr) := Lib.hid (HFq.out.trans (HF8.out.trans hf))
                have hs9 := HS6.out.no HF6.out
                have r1 := hs9.gs.r1
                have k0 := hf.cell' HK0.out (fun q => q)
                have k1 := hf.cell' HK1.out (fun q => q)
                have k2 := hf.cell' HK2.out (fun q => q)
                have m1 := hs9.mt.row j hj
                have s1 := (hs9.mt.cel j i hj hi).1
                obtain rfl := HvO.out (by omega)
                have htr9 : TruB wr tb a f := HTr.out.keep (HF8.out.trans hf) (fun q => q)
                obtain ⟨tc, tf⟩ := htr9 i hi
                obtain ⟨fi, hfi⟩ : ∃ x, x = f i := ⟨_, rfl⟩
                rw [← hfi] at tc
                have HFi := Lib.hid hfi
                obtain ⟨tg, htg⟩ : ∃ x, x = g j i := ⟨_, rfl⟩
                rw [← htg] at s1
                have HWi2 : Hid (t = (decide (i = j) || tg)) := Lib.hid (by
                  rw [HTo.out, htg]
                  have := HWi.out
                  cases h1 : outE2 (cno (smR g)) z with
                  | true => rw [h1] at this; simp at this; simp [this]
                  | false =>
                    have := this.1 h1
                    rcases this with e | e
                    · simp [e]
                    · simp [e])
                have HT9 := Lib.hid htr9
                have i0 : (0 : Int) ≤ (i : Int) := by omega
                have j0 : (0 : Int) ≤ (j : Int) := by omega
                have i1 : (i : Int) < (a : Int) := by omega
                have j1 : (j : Int) < (a : Int) := by omega
                have HTbl : Hid (w6.heap.size ≤ tb) := Lib.hid (by rw [HTb.out]; exact Nat.le_refl _)
                have HNew : Hid (∀ W, Fx No w6 W → TruB W tb a (fun x => if x = i then (fi || t) else f x) → ∃ (q' : Nat) (f : Nat → Bool), q' = q + 1 ∧ Fx No w6 W ∧ TruB W tb a f ∧ ∀ i, i < a → (f i = true ↔ ∃ e ∈ L.take (q + 1), e.f = (i : Int) ∧ outE2 (cno (smR g)) e = false)) := Lib.hid fun W hW hT => ⟨q + 1, _, rfl, hW, hT, fun p hp => by
                  rw [HTk.out, ← HZ.out]
                  by_cases e : p = i
                  · rw [if_pos e, Bool.or_eq_true, HFi.out, HFs.out i hi, HTo.out, e]
                    constructor
                    · rintro (⟨e1, h1, h2⟩ | h1)
                      · exact ⟨e1, List.mem_append_left _ h1, h2⟩
                      · exact ⟨z, by simp, by rw [HZ.out], by simpa using h1⟩
                    · rintro ⟨e1, h1, h2, h3⟩
                      rcases List.mem_append.1 h1 with h1 | h1
                      · exact .inl ⟨e1, h1, h2, h3⟩
                      · rw [List.mem_singleton] at h1
                        right; rw [← h1, h3]; rfl
                  · rw [if_neg e, HFs.out p hp]
                    constructor
                    · rintro ⟨e1, h1, h2⟩; exact ⟨e1, List.mem_append_left _ h1, h2⟩
                    · rintro ⟨e1, h1, h2, h3⟩
                      rcases List.mem_append.1 h1 with h1 | h1
                      · exact ⟨e1, h1, h2, h3⟩
                      · rw [List.mem_singleton] at h1
                        rw [h1, HZ.out] at h2
                        simp only at h2
                        exact absurd (by omega) e⟩
                clear hf hs9 htr9 hfi htg hte
                by_cases hij : i = j
                · have e1 : ((i : Int) == (j : Int)) = true := by simp [hij]
                  obtain rfl : t = true := by rw [HWi2.out]; simp [hij]
                  clear hij
                  cases fi
                  · go_wp2_with fail
                    go_quiet (fail)
                    refine q_hold (fun W => Fx No wr W) ((Fx.refl No wr).drewN _) ?_
                    rintro w9 hf9
                    have k0 := hf9.cell' k0 (fun q => q)
                    obtain ⟨tc, tf⟩ := hf9.cellF tc tf (fun q => q)
                    have HF9 := Lib.hid (HF6.out.trans hf9)
                    have HT9 := Lib.hid (HT9.out.keep hf9 (fun q => q))
                    clear hf9 k1 k2 m1 s1 r1
                    go_wp2_with fail
                    go_region
                    all_goals
                      have HN : Hid (Fx No w6 (w9.setCell ⟨tb, i, none⟩ (.bool true)).drew ∧ TruB (w9.setCell ⟨tb, i, none⟩ (.bool true)).drew tb a (fun x => if x = i then true else f x)) := Lib.hid ⟨(HF9.out.setCell (.inl HTbl.out) _).drew, (HT9.out.put hi true).keep ((Fx.refl No _).drew) (fun q => q)⟩
                      generalize (w9.setCell ⟨tb, i, none⟩ (.bool true)).drew = wn at *
                      obtain ⟨q', f', rfl, n1, n2, n3⟩ := HNew.out wn HN.out.1 HN.out.2
                      have HN1 := Lib.hid n1
                      have HN2 := Lib.hid n2
                      have HN3 := Lib.hid n3
                      clear HNew HN n1 n2 n3 k0 tc tf
                      go_wp2
                      go_roundw
                      case rel => exact ⟨q + 1, f', by go_num, by omega, HN1.out, HN2.out, HN3.out⟩
                      case measure => simp [intOf]; omega
                  · go_wp2_with fail
                    go_quiet (fail)
                    refine q_hold (fun W => Fx No wr W) ((Fx.refl No wr).drewN _) ?_
                    rintro w9 hf9
                    have k0 := hf9.cell' k0 (fun q => q)
                    obtain ⟨tc, tf⟩ := hf9.cellF tc tf (fun q => q)
                    have HF9 := Lib.hid (HF6.out.trans hf9)
                    have HT9 := Lib.hid (HT9.out.keep hf9 (fun q => q))
                    clear hf9 k1 k2 m1 s1 r1
                    go_wp2_with fail
                    go_region
                    all_goals
                      have HN : Hid (Fx No w6 (w9.setCell ⟨tb, i, none⟩ (.bool true)).drew ∧ TruB (w9.setCell ⟨tb, i, none⟩ (.bool true)).drew tb a (fun x => if x = i then true else f x)) := Lib.hid ⟨(HF9.out.setCell (.inl HTbl.out) _).drew, (HT9.out.put hi true).keep ((Fx.refl No _).drew) (fun q => q)⟩
                      generalize (w9.setCell ⟨tb, i, none⟩ (.bool true)).drew = wn at *
                      obtain ⟨q', f', rfl, n1, n2, n3⟩ := HNew.out wn HN.out.1 HN.out.2
                      have HN1 := Lib.hid n1
                      have HN2 := Lib.hid n2
                      have HN3 := Lib.hid n3
                      clear HNew HN n1 n2 n3 k0 tc tf
                      go_wp2
                      go_roundw
                      case rel => exact ⟨q + 1, f', by go_num, by omega, HN1.out, HN2.out, HN3.out⟩
                      case measure => simp [intOf]; omega
                · have e1 : ((i : Int) == (j : Int)) = false := by simp; omega
                  obtain rfl : t = tg := by rw [HWi2.out]; simp [hij]
                  have e2 : (t != t) = false := by simp
                  clear hij
                  cases fi
                  · go_wp2_with fail
                    go_quiet (fail)
                    refine q_hold (fun W => Fx No wr W) ((Fx.refl No wr).drewN _) ?_
                    rintro w9 hf9
                    have k0 := hf9.cell' k0 (fun q => q)
                    obtain ⟨tc, tf⟩ := hf9.cellF tc tf (fun q => q)
                    have HF9 := Lib.hid (HF6.out.trans hf9)
                    have HT9 := Lib.hid (HT9.out.keep hf9 (fun q => q))
                    clear hf9 k1 k2 m1 s1 r1
                    go_wp2_with fail
                    go_region
                    all_goals
                      have HN : Hid (Fx No w6 (w9.setCell ⟨tb, i, none⟩ (.bool t)).drew ∧ TruB (w9.setCell ⟨tb, i, none⟩ (.bool t)).drew tb a (fun x => if x = i then t else f x)) := Lib.hid ⟨(HF9.out.setCell (.inl HTbl.out) _).drew, (HT9.out.put hi t).keep ((Fx.refl No _).drew) (fun q => q)⟩
                      generalize (w9.setCell ⟨tb, i, none⟩ (.bool t)).drew = wn at *
                      obtain ⟨q', f', rfl, n1, n2, n3⟩ := HNew.out wn HN.out.1 HN.out.2
                      have HN1 := Lib.hid n1
                      have HN2 := Lib.hid n2
                      have HN3 := Lib.hid n3
                      clear HNew HN n1 n2 n3 k0 tc tf
                      go_wp2
                      go_roundw
                      case rel => exact ⟨q + 1, f', by go_num, by omega, HN1.out, HN2.out, HN3.out⟩
                      case measure => simp [intOf]; omega
                  · go_wp2_with fail
                    go_quiet (fail)
                    refine q_hold (fun W => Fx No wr W) ((Fx.refl No wr).drewN _) ?_
                    rintro w9 hf9
                    have k0 := hf9.cell' k0 (fun q => q)
                    obtain ⟨tc, tf⟩ := hf9.cellF tc tf (fun q => q)
                    have HF9 := Lib.hid (HF6.out.trans hf9)
                    have HT9 := Lib.hid (HT9.out.keep hf9 (fun q => q))
                    clear hf9 k1 k2 m1 s1 r1
                    go_wp2_with fail
                    go_region
                    all_goals
                      have HN : Hid (Fx No w6 (w9.setCell ⟨tb, i, none⟩ (.bool true)).drew ∧ TruB (w9.setCell ⟨tb, i, none⟩ (.bool true)).drew tb a (fun x => if x = i then true else f x)) := Lib.hid ⟨(HF9.out.setCell (.inl HTbl.out) _).drew, (HT9.out.put hi true).keep ((Fx.refl No _).drew) (fun q => q)⟩
                      generalize (w9.setCell ⟨tb, i, none⟩ (.bool true)).drew = wn at *
                      obtain ⟨q', f', rfl, n1, n2, n3⟩ := HNew.out wn HN.out.1 HN.out.2
                      have HN1 := Lib.hid n1
                      have HN2 := Lib.hid n2
                      have HN3 := Lib.hid n3
                      clear HNew HN n1 n2 n3 k0 tc tf
                      go_wp2
                      go_roundw
                      case rel => exact ⟨q + 1, f', by go_num, by omega, HN1.out, HN2.out, HN3.out⟩
                      case measure => simp [intOf]; omega
          · obtain rfl : q = m := by omega
            have hte : L.take q = L := List.take_of_length_le (by rw [HM.out]; exact Nat.le_refl _)
            rw [hte] at hfs
            have HFs := Lib.hid hfs
            clear hte hf htr hfs hsq
            go_wp2_with fail
            refine (sclosed_any HSq.out.gs.g HEq.out HSm.out).mono ?_
            rw [← HXs.out]
            rintro e w8 ⟨v8, l8, rfl, hf8, ho8, hu8⟩
            obtain ⟨ao8, cap8, rfl, _⟩ := SlV.ofOwns ho8
            have HF8 := Lib.hid (HFq.out.trans hf8)
            have HS8 := Lib.hid (HSq.out.no hf8)
            have HT8 := Lib.hid (HTr.out.keep hf8 (fun q => q))
            have HI8 : Hid (IntsV w8 (Iv wr.heap.size w8.heap.size) (.slice ao8 l8.length cap8) l8) := Lib.hid (SlV.ofOwns ho8)
            obtain ⟨_, _, e8, hl8, _⟩ := IntsV.facts HI8.out
            have HLf : Hid (∀ i, i < a → f i = decide ((i : Int) ∈ l8)) := Lib.hid fun i hi => by
              have h1 := HFs.out i hi
              have h2 := hu8.mem (i : Int)
              rw [HXs.out] at h2
              rw [Bool.eq_iff_iff, h1, decide_eq_true_eq, h2, List.mem_map]
              constructor
              · rintro ⟨e, e1, e2, e3⟩; exact ⟨e, List.mem_filter.2 ⟨e1, by rw [e3]; rfl⟩, e2⟩
              · rintro ⟨e, e1, e2⟩
                obtain ⟨e3, e4⟩ := List.mem_filter.1 e1
                exact ⟨e, e3, e2, by simpa using e4⟩
            obtain ⟨nn, hnn⟩ : ∃ nn, nn = l8.length := ⟨_, rfl⟩
            rw [← hnn] at hl8 HI8 ⊢
            have HNN := Lib.hid hnn
            clear hf8 ho8 hu8 e8 hnn r1
            go_wp2
            go_loopw [19] (fun i ws => ∃ k : Nat, i = .int .i64 k ∧ k ≤ a ∧ Fx No w8 ws) (fun i _ => a - (intOf i).toNat)
            case atStart => exact ⟨0, rfl, by omega, Fx.refl _ _⟩
            case round =>
              obtain ⟨i, rfl, hi, hf⟩ := hrel
              have HFi := Lib.hid hf
              have r0 := (HS8.out.no hf).gs.r0
              clear hf
              by_cases hia : i < a
              · have i0 : (0 : Int) ≤ (i : Int) := by omega
                have i1 : (i : Int) < (a : Int) := by omega
                go_wp2
                go_loopw [20, 21] (fun o j ws => ∃ k : Nat, o = .bool (decide ((i : Int) ∈ l8.take k)) ∧ j = .int .i64 k ∧ k ≤ nn ∧ Fx No w8 ws) (fun _ j _ => nn - (intOf j).toNat)
                case atStart => exact ⟨0, by simp, rfl, by omega, HFi.out⟩
                case round =>
                  obtain ⟨k, rfl, rfl, hk, hf⟩ := hrel
                  have HFk := Lib.hid hf
                  obtain ⟨t, ht⟩ : ∃ t, t = decide ((i : Int) ∈ l8.take k) := ⟨_, rfl⟩
                  rw [← ht]
                  have HT := Lib.hid ht
                  clear ht
                  by_cases hkm : k < nn
                  · have hkx : k < l8.length := by rw [← HNN.out]; exact hkm
                    have HTd := Lib.hid (take_inI hkx (i : Int))
                    rw [← HT.out] at HTd
                    cases t
                    · obtain ⟨_, _, e0, _, hkk⟩ := IntsV.facts (IntsV.no HI8.out hf)
                      obtain ⟨b4, o4, e1, _, c0⟩ := hkk k hkx
                      simp only [Value.slice.injEq] at e0
                      obtain ⟨rfl, -, -⟩ := e0
                      subst e1
                      obtain ⟨y, hy⟩ : ∃ y, y = gi l8 k := ⟨_, rfl⟩
                      rw [← hy] at c0 HTd
                      have HTd : Hid (decide ((i : Int) ∈ l8.take (k + 1)) = decide (y = (i : Int))) := Lib.hid (by rw [HTd.out]; simp)
                      have k0 : (0 : Int) ≤ (k : Int) := by omega
                      have k1 : (k : Int) < (nn : Int) := by omega
                      clear hkk hf hy r0
                      by_cases hyi : y = (i : Int)
                      · have e1 : (y == (i : Int)) = true := by simp [hyi]
                        have HTd : Hid (decide ((i : Int) ∈ l8.take (k + 1)) = true) := Lib.hid (by rw [HTd.out]; simp [hyi])
                        clear hyi
                        go_wp2
                        go_roundw
                        case rel => exact ⟨k + 1, by rw [HTd.out], by go_num, by omega, HFk.out⟩
                        case measure => simp [intOf]; omega
                      · have e1 : (y == (i : Int)) = false := by simpa using hyi
                        have HTd : Hid (decide ((i : Int) ∈ l8.take (k + 1)) = false) := Lib.hid (by rw [HTd.out]; simp [hyi])
                        clear hyi
                        go_wp2
                        go_roundw
                        case rel => exact ⟨k + 1, by rw [HTd.out], by go_num, by omega, HFk.out⟩
                        case measure => simp [intOf]; omega
                    · have HTd : Hid (decide ((i : Int) ∈ l8.take (k + 1)) = true) := Lib.hid (by rw [HTd.out]; simp)
                      clear hf r0
                      go_wp2
                      go_roundw
                      case rel => exact ⟨k + 1, by rw [HTd.out], by go_num, by omega, HFk.out⟩
                      case measure => simp [intOf]; omega
                  · obtain rfl : k = nn := by omega
                    have hte : l8.take k = l8 := List.take_of_length_le (by rw [HNN.out]; exact Nat.le_refl _)
                    have tc := (HT8.out i hia).1
                    have tc := hf.cell' tc (fun q => q)
                    have hfi : f i = t := by rw [HLf.out i hia, HT.out, hte]
                    rw [hfi] at tc
                    have e2 : (t != t) = false := by simp
                    clear hf hte hfi r0
                    go_wp2
                    go_roundw
                    case rel => exact ⟨i + 1, by go_num, by omega, HFk.out⟩
                    case measure => simp [intOf]; omega
              · obtain rfl : i = a := by omega
                have HFA : Hid (Fx No w wr) := Lib.hid (HS8.out.gs.fx.trans HFi.out)
                go_wp2_with fail
                refine (works_any _).mono ?_
                rintro e w9 ⟨rfl, hf9⟩
                have HFZ := Lib.hid (HFA.out.trans hf9)
                clear hf9 r0
                go_wp2
                go_ret
                exact ⟨rfl, HFZ.out⟩
end
#print axioms reach_any
end Go.Proofs.YtdoplaijgocboaaGreat
