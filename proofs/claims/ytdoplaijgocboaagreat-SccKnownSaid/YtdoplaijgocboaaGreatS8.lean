/- The law SccShrinks. -/
import Derived.Test.YtdoplaijgocboaaGreatS6
import Derived.Deep.DeepCutAuto
import Derived.Deep.CutBlock

namespace Go.Proofs.YtdoplaijgocboaaGreat
open Go.RowKit
set_option linter.unusedVariables false

def thB (c : Nat → Nat) (a b : Nat) (L : List Ed) : Bool := L.any fun e => decide (a ≠ b) && decide (c e.f.toNat = a) && decide (c e.t.toNat = b)
theorem thB_snoc {c : Nat → Nat} {a b : Nat} {L : List Ed} {x : Ed} : thB c a b (L ++ [x]) = (thB c a b L || (decide (a ≠ b) && decide (c x.f.toNat = a) && decide (c x.t.toNat = b))) := by simp [thB]
theorem thB_shr {c : Nat → Nat} {a b : Nat} {L : List Ed} : decide ((⟨(a : Int), (b : Int), 0⟩ : Ed) ∈ shrM c L) = thB c a b L := by
  rw [Bool.eq_iff_iff, decide_eq_true_eq, mem_shrM]
  unfold thB
  rw [List.any_eq_true]
  simp only [Bool.and_eq_true, decide_eq_true_eq]
  constructor
  · rintro ⟨x, hx, hne, e⟩
    simp only [quoE, Ed.mk.injEq] at e
    exact ⟨x, hx, ⟨by omega, by omega⟩, by omega⟩
  · rintro ⟨x, hx, ⟨h1, h2⟩, h3⟩
    exact ⟨x, hx, by omega, by simp [quoE, h2, h3]⟩
section
variable {w : World} {N gb : Nat} {L : List Ed} {D : Nat → Prop} {sm : Nat → Nat → Bool}
theorem parts_len (hg : GraphV w D gb N L) (h : Eqv sm N) (hsm : ∀ i j, i < N → j < N → (sm i j = true ↔ Sm (EG L) i j)) :
    Calls Tryz.prog 15 #[.pointer (some ⟨gb, 0, none⟩)] w fun e w' => ∃ ao cap, e = .returned (.slice ao (canon sm N).length cap) ∧ Fx No w w' := by
  refine (partsW_any hg h hsm).mono ?_
  rintro e w1 ⟨pv, B, V, rfl, hf, hr⟩
  obtain ⟨ao, cap, rfl, _⟩ := hr.toRowsR.facts
  rw [List.length_map]
  exact ⟨ao, cap, rfl, hf⟩
theorem closed_nil (hg : GraphV w D gb N L) (h : Eqv sm N) (hsm : ∀ i j, i < N → j < N → (sm i j = true ↔ Sm (EG L) i j)) (h0 : (L.filter fun x => !outE2 (cno sm) x) = []) :
    Calls Tryz.prog 17 #[.pointer (some ⟨gb, 0, none⟩)] w fun e w' => ∃ ao cap, e = .returned (.slice ao 0 cap) ∧ Fx No w w' := by
  refine (closedU_any hg h hsm [] (by rw [h0]; exact Up1.nil)).mono ?_
  rintro e w1 ⟨v', rfl, hf, ho⟩
  obtain ⟨ao, cap, rfl, _⟩ := SlV.ofOwns ho
  exact ⟨ao, cap, rfl, hf⟩
theorem within_nil (hg : GraphV w D gb N L) (h : Eqv sm N) (hsm : ∀ i j, i < N → j < N → (sm i j = true ↔ Sm (EG L) i j)) (h0 : (L.filter fun x => !outE2 (cno sm) x) = []) :
    Calls Tryz.prog 12 #[.pointer (some ⟨gb, 0, none⟩)] w fun e w' => ∃ ao cap, e = .returned (.slice ao 0 cap) ∧ Fx No w w' := by
  refine (within_any hg h hsm).mono ?_
  rw [h0]
  rintro e w1 ⟨v', rfl, hf, ho⟩
  obtain ⟨ao, cap, rfl, _⟩ := OwnT.row ho
  exact ⟨ao, cap, rfl, hf⟩
theorem Acy.shrM {M : List Ed} {K : Nat} {sm : Nat → Nat → Bool} (h : Acy M K sm) (hM : NdL M K) (ha : Asc M) (hn : ∀ x ∈ M, x.f ≠ x.t ∧ x.l = 0) : shrM (Go.Proofs.YtdoplaijgocboaaGreat.cno sm) M = M := by
  unfold Go.Proofs.YtdoplaijgocboaaGreat.shrM
  rw [h.shrL hM (fun x hx => (hn x hx).1) (fun x hx => (hn x hx).2), addL_nil ha]
end
/-- what is at hand in the walk of SccShrinks -/
structure KS (w0 ws : World) (rb gb N : Nat) (L : List Ed) (ro : Option Addr) (rc : Nat) (D R : Nat → Prop) (sb K : Nat) (M : List Ed) (Ds : Nat → Prop) (og : Nat) (c : Nat → Nat) : Prop where
  gs : GS w0 ws rb gb N L ro rc D R
  s : GraphV ws Ds sb K M
  nb : NumB ws og N c
theorem KS.no {w0 ws w' : World} {rb gb N : Nat} {L : List Ed} {ro : Option Addr} {rc : Nat} {D R : Nat → Prop} {sb K : Nat} {M : List Ed} {Ds : Nat → Prop} {og : Nat} {c : Nat → Nat} (h : KS w0 ws rb gb N L ro rc D R sb K M Ds og c) (hf : Fx No ws w') : KS w0 w' rb gb N L ro rc D R sb K M Ds og c :=
  ⟨h.gs.no hf, h.s.no hf, h.nb.keep hf (fun q => q)⟩
section
variable {w w' : World} {E : Nat → Prop} {l : List Ed} {v : Value}
set_option maxRecDepth 100000 in
set_option maxHeartbeats 8000000 in
theorem shrinks_any (n : Int) (h : EdsV w E v l) (hok : ∀ x ∈ l, x.ok) : Calls Tryz.prog 27 #[.int .i64 n, v] w fun e w' => e = .returned (.bool true) ∧ Fx No w w' := by
  have HE := Lib.hid h
  have HOk := Lib.hid hok
  obtain ⟨ao, cap, rfl, hcl, hcm, _⟩ := EdsV.facts h
  clear h hok
  by_cases h1 : 70 < l.length
  · have d1 : decide ((70 : Int) < (l.length : Int)) = true := decide_eq_true (by omega)
    go_enter Tryz.func27, Tryz.ntmps27
    go_wp2_with fail
    refine (works_any _).mono ?_
    rintro e w1 ⟨rfl, hf⟩
    have HF := Lib.hid hf
    clear hf
    go_wp2
    go_ret
    exact ⟨rfl, HF.out⟩
  · have d1 : decide ((70 : Int) < (l.length : Int)) = false := decide_eq_false (by omega)
    have hl70 : l.length ≤ 70 := by omega
    clear h1
    go_enter Tryz.func27, Tryz.ntmps27
    go_wp2_with fail
    refine (drawn_any HE.out HOk.out (by omega) n 25 (by omega)).mono ?_
    rintro e w1 ⟨gb, N, L, rv, D, R, rfl, hD, hN, hL⟩
    obtain ⟨ro, rc, rfl, _⟩ := EdsV.facts hD.row
    have HD1 := Lib.hid hD
    have hL70 : L.length ≤ 70 := by omega
    clear hD hL
    go_wp2_with fail
    refine calls_hold (fun W => GS w W w1.heap.size gb N L ro rc D R) (GS.start HD1.out) ?_
    rintro w2 hg2
    obtain ⟨rb, hrb⟩ : ∃ q, q = w1.heap.size := ⟨_, rfl⟩
    rw [← hrb] at hg2 ⊢
    have HNd := Lib.hid (NdL.of hg2.g)
    obtain ⟨sm, hsmd⟩ : ∃ sm, sm = smR (rL L N) := ⟨_, rfl⟩
    have HEq : Hid (Eqv sm N) := Lib.hid (by rw [hsmd]; exact rL_eqv HNd.out)
    have HSm : Hid (∀ i j, i < N → j < N → (sm i j = true ↔ Sm (EG L) i j)) := Lib.hid (by rw [hsmd]; exact rL_sm HNd.out)
    have HG2 := Lib.hid hg2
    clear hg2 hrb HD1 hsmd
    refine (shrink_any HG2.out.g (by omega) HEq.out HSm.out).mono ?_
    rintro e w3 ⟨sb, Ds, rfl, hf3, hs3, hlo⟩
    have hcl : (canon sm N).length ≤ N := by simp only [canon, List.length_map]; exact reps_len N
    have HMd : Hid (NdL (shrM (cno sm) L) (canon sm N).length) := Lib.hid (shr_nd HEq.out HNd.out)
    have HMa : Hid (∀ a, ¬ Way (EG (shrM (cno sm) L)) a a) := Lib.hid (shr_acyc HEq.out HSm.out HNd.out)
    have HMn : Hid (∀ x ∈ shrM (cno sm) L, x.f ≠ x.t ∧ x.l = 0) := Lib.hid shr_ne
    have HMs : Hid (Asc (shrM (cno sm) L)) := Lib.hid (shr_asc _ _)
    have HMe : Hid (∀ a b : Nat, decide ((⟨(a : Int), (b : Int), 0⟩ : Ed) ∈ shrM (cno sm) L) = thB (cno sm) a b L) := Lib.hid fun a b => thB_shr
    have hml := shr_len (cno sm) L
    obtain ⟨M, hM⟩ : ∃ M, M = shrM (cno sm) L := ⟨_, rfl⟩
    obtain ⟨K, hK⟩ : ∃ K, K = (canon sm N).length := ⟨_, rfl⟩
    rw [← hM] at hs3 HMd HMa HMn HMs HMe hml
    rw [← hK] at hs3 hcl HMd
    have HK := Lib.hid hK
    clear hM hK hlo
    have HAc : Hid (Acy M K (smR (rL M K))) := Lib.hid (acy_of HMd.out HMa.out)
    have HMw : Hid ((M.filter fun x => !outE2 (cno (smR (rL M K))) x) = []) := Lib.hid (HAc.out.within HMd.out fun x hx => (HMn.out x hx).1)
    have HG3 := Lib.hid (HG2.out.no hf3)
    have HS3 := Lib.hid hs3
    clear hf3 hs3 HG2
    go_wp2_with fail
    refine (sof_any HG3.out.g HEq.out HSm.out).mono ?_
    rintro e w4 ⟨og, rfl, hf4, hg1, hg2, hnb⟩
    have hs4 : KS w w4 rb gb N L ro rc D R sb K M Ds og (cno sm) := ⟨HG3.out.no hf4, HS3.out.no hf4, hnb⟩
    have HS4 := Lib.hid hs4
    have r0 := hs4.gs.r0
    clear hf4 hg1 hg2 hnb hs4 HG3 HS3
    go_wp2_with fail
    refine (closed_nil HS4.out.s HAc.out.eqv HAc.out.sm_iff HMw.out).mono ?_
    rintro e w5 ⟨a5, c5, rfl, hf5⟩
    have HS5 := Lib.hid (HS4.out.no hf5)
    clear hf5 HS4 r0
    go_wp2_with fail
    refine (within_nil HS5.out.s HAc.out.eqv HAc.out.sm_iff HMw.out).mono ?_
    rintro e w6 ⟨a6, c6, rfl, hf6⟩
    have HS6 := Lib.hid (HS5.out.no hf6)
    clear hf6 HS5
    go_wp2_with fail
    refine (parts_len HS6.out.s HAc.out.eqv HAc.out.sm_iff).mono ?_
    rw [HAc.out.canon_len]
    rintro e w7 ⟨a7, c7, rfl, hf7⟩
    have HS7 := Lib.hid (HS6.out.no hf7)
    clear hf7 HS6
    go_wp2_with fail
    refine (gLen_any HS7.out.s).mono ?_
    rintro e w8 ⟨rfl, rfl⟩
    go_wp2_with fail
    refine (parts_len HS7.out.gs.g HEq.out HSm.out).mono ?_
    rw [← HK.out]
    rintro e w8 ⟨a8, c8, rfl, hf8⟩
    have HS8 := Lib.hid (HS7.out.no hf8)
    clear hf8 HS7
    go_wp2_with fail
    refine (gLen_any HS8.out.s).mono ?_
    rintro e w9 ⟨rfl, rfl⟩
    go_wp2_with fail
    refine (shrink_any HS8.out.s (by omega) HAc.out.eqv HAc.out.sm_iff).mono ?_
    rw [HAc.out.shrM HMd.out HMs.out HMn.out, HAc.out.canon_len]
    rintro e w9 ⟨s9, D9, rfl, hf9, hg9, _⟩
    have HS9 := Lib.hid (HS8.out.no hf9)
    have HG9 := Lib.hid hg9
    clear hf9 hg9 HS8
    go_wp2_with fail
    refine (gSame_any HG9.out HS9.out.s).mono ?_
    rintro e w10 ⟨rfl, hf10⟩
    have dd : decide (K = K ∧ M = M) = true := decide_eq_true ⟨rfl, rfl⟩
    rw [dd]
    have HS10 := Lib.hid (HS9.out.no hf10)
    obtain ⟨m, hm⟩ : ∃ m, m = L.length := ⟨_, rfl⟩
    have HM := Lib.hid hm
    rw [← hm] at hL70 hml ⊢
    clear hf10 dd hm HS9 HG9
    go_wp2
    go_loopw [9] (fun i ws => ∃ k : Nat, i = .int .i64 k ∧ k ≤ K ∧ Fx No w10 ws) (fun i _ => K - (intOf i).toNat)
    case atStart => exact ⟨0, rfl, by omega, Fx.refl _ _⟩
    case round =>
      obtain ⟨a, rfl, ha, hf⟩ := hrel
      have HFa := Lib.hid hf
      clear hf
      go_wp2_with fail
      refine (gLen_any (HS10.out.no HFa.out).s).mono ?_
      rintro e wq ⟨rfl, rfl⟩
      by_cases haK : a < K
      · have aK : (a : Int) < (K : Int) := by omega
        go_wp2
        go_loopw [10] (fun i ws => ∃ k : Nat, i = .int .i64 k ∧ k ≤ K ∧ Fx No w10 ws) (fun i _ => K - (intOf i).toNat)
        case atStart => exact ⟨0, rfl, by omega, HFa.out⟩
        case round =>
          obtain ⟨b, rfl, hb, hf⟩ := hrel
          have HFb := Lib.hid hf
          clear hf
          go_wp2_with fail
          refine (gLen_any (HS10.out.no HFb.out).s).mono ?_
          rintro e wq ⟨rfl, rfl⟩
          by_cases hbK : b < K
          · have bK : (b : Int) < (K : Int) := by omega
            go_wp2
            go_loopw [11, 12] (fun o i ws => ∃ k : Nat, o = .bool (thB (cno sm) a b (L.take k)) ∧ i = .int .i64 k ∧ k ≤ m ∧ Fx No w10 ws) (fun _ i _ => m - (intOf i).toNat)
            case atStart => exact ⟨0, by simp [thB], rfl, by omega, HFb.out⟩
            case round =>
              obtain ⟨k, rfl, rfl, hk, hf⟩ := hrel
              have HFk := Lib.hid hf
              have hsk := HS10.out.no hf
              have r1 := hsk.gs.r1
              rw [← HM.out] at r1
              obtain ⟨t, ht⟩ : ∃ t, t = thB (cno sm) a b (L.take k) := ⟨_, rfl⟩
              rw [← ht]
              have HT := Lib.hid ht
              clear ht hf
              by_cases hkm : k < m
              · have hkx : k < L.length := by rw [← HM.out]; exact hkm
                obtain ⟨_, _, e0, _, _, hkk⟩ := EdsV.facts hsk.gs.row
                obtain ⟨b3, o3, e1, _, p0, p1, p2⟩ := hkk k hkx
                simp only [Value.slice.injEq] at e0
                obtain ⟨rfl, -, -⟩ := e0
                subst e1
                obtain ⟨x, hx⟩ : ∃ x, x = gt L k := ⟨_, rfl⟩
                rw [← hx] at p0 p1 p2
                obtain ⟨⟨n0, n1⟩, n2, n3⟩ := HNd.out x (by rw [hx]; exact gt_mem hkx)
                have HTd : Hid (thB (cno sm) a b (L.take (k + 1)) = (t || (decide (a ≠ b) && decide (cno sm x.f.toNat = a) && decide (cno sm x.t.toNat = b)))) := Lib.hid (by rw [take_gt hkx, thB_snoc, ← HT.out, hx])
                obtain ⟨xf, xt, xl⟩ := x
                simp only at n0 n1 n2 n3 p0 p1 p2
                obtain ⟨i, rfl⟩ := Int.eq_ofNat_of_zero_le n0
                obtain ⟨j, rfl⟩ := Int.eq_ofNat_of_zero_le n2
                have hi : i < N := by omega
                have hj : j < N := by omega
                have c0 := (hsk.nb i hi).1
                have c1 := (hsk.nb j hj).1
                obtain ⟨ci, hci⟩ : ∃ x, x = cno sm i := ⟨_, rfl⟩
                obtain ⟨cj, hcj⟩ : ∃ x, x = cno sm j := ⟨_, rfl⟩
                have HTd : Hid (thB (cno sm) a b (L.take (k + 1)) = (t || (decide (a ≠ b) && decide (ci = a) && decide (cj = b)))) := Lib.hid (by rw [HTd.out, hci, hcj]; rfl)
                rw [← hci] at c0
                rw [← hcj] at c1
                have i0 : (0 : Int) ≤ (i : Int) := by omega
                have j0 : (0 : Int) ≤ (j : Int) := by omega
                have k0 : (0 : Int) ≤ (k : Int) := by omega
                have k1 : (k : Int) < (m : Int) := by omega
                clear hx n0 n2 p2 hkk hci hcj hsk
                cases t
                · by_cases hab : a = b
                  · have e1 : ((a : Int) != (b : Int)) = false := by simp [hab]
                    have HTd : Hid (thB (cno sm) a b (L.take (k + 1)) = false) := Lib.hid (by rw [HTd.out]; simp [hab])
                    clear hab
                    go_wp2
                    go_roundw
                    case rel => exact ⟨k + 1, by rw [HTd.out], by go_num, by omega, HFk.out⟩
                    case measure => simp [intOf]; omega
                  · have e1 : ((a : Int) != (b : Int)) = true := by simp; omega
                    by_cases hca : ci = a
                    · have e2 : ((ci : Int) == (a : Int)) = true := by simp [hca]
                      by_cases hcb : cj = b
                      · have e3 : ((cj : Int) == (b : Int)) = true := by simp [hcb]
                        have HTd : Hid (thB (cno sm) a b (L.take (k + 1)) = true) := Lib.hid (by rw [HTd.out]; simp [hab, hca, hcb])
                        clear hab hca hcb
                        go_wp2
                        go_roundw
                        case rel => exact ⟨k + 1, by rw [HTd.out], by go_num, by omega, HFk.out⟩
                        case measure => simp [intOf]; omega
                      · have e3 : ((cj : Int) == (b : Int)) = false := by simp; omega
                        have HTd : Hid (thB (cno sm) a b (L.take (k + 1)) = false) := Lib.hid (by rw [HTd.out]; simp [hab, hca, hcb])
                        clear hab hca hcb
                        go_wp2
                        go_roundw
                        case rel => exact ⟨k + 1, by rw [HTd.out], by go_num, by omega, HFk.out⟩
                        case measure => simp [intOf]; omega
                    · have e2 : ((ci : Int) == (a : Int)) = false := by simp; omega
                      have HTd : Hid (thB (cno sm) a b (L.take (k + 1)) = false) := Lib.hid (by rw [HTd.out]; simp [hab, hca])
                      clear hab hca
                      go_wp2
                      go_roundw
                      case rel => exact ⟨k + 1, by rw [HTd.out], by go_num, by omega, HFk.out⟩
                      case measure => simp [intOf]; omega
                · have HTd : Hid (thB (cno sm) a b (L.take (k + 1)) = true) := Lib.hid (by rw [HTd.out]; rfl)
                  go_wp2
                  go_roundw
                  case rel => exact ⟨k + 1, by rw [HTd.out], by go_num, by omega, HFk.out⟩
                  case measure => simp [intOf]; omega
              · obtain rfl : k = m := by omega
                have hte : L.take k = L := List.take_of_length_le (by rw [HM.out]; exact Nat.le_refl _)
                have HTe : Hid (t = thB (cno sm) a b L) := Lib.hid (by rw [HT.out, hte])
                clear hte
                go_wp2_with fail
                refine (gHas_any hsk.s ⟨(a : Nat), (b : Nat), 0⟩ ⟨by unfold Ok64; simp only; omega, by unfold Ok64; simp only; omega, by unfold Ok64; simp only; omega⟩).mono ?_
                rintro e w11 ⟨rfl, hf11⟩
                rw [HMe.out a b, ← HTe.out]
                have e2 : (t != t) = false := by simp
                have HF11 := Lib.hid (HFk.out.trans hf11)
                clear hf11 hsk r1
                go_wp2
                go_roundw
                case rel => exact ⟨b + 1, by go_num, by omega, HF11.out⟩
                case measure => simp [intOf]; omega
          · obtain rfl : b = K := by omega
            go_wp2
            go_roundw
            case rel => exact ⟨a + 1, by go_num, by omega, HFb.out⟩
            case measure => simp [intOf]; omega
      · obtain rfl : a = K := by omega
        have HFA : Hid (Fx No w wr) := Lib.hid (HS10.out.gs.fx.trans HFa.out)
        go_wp2_with fail
        refine (works_any _).mono ?_
        rintro e w11 ⟨rfl, hf11⟩
        have HFZ := Lib.hid (HFA.out.trans hf11)
        clear hf11
        go_wp2
        go_ret
        exact ⟨rfl, HFZ.out⟩
end
#print axioms shrinks_any
end Go.Proofs.YtdoplaijgocboaaGreat
