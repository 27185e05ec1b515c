/- scc: Shrink: the graph of the components. | The laws' own short calls (works), chapter 16. | A matrix of truths in memory (rows of the call's own). | The reference of components: Reach. -/
import Derived.Test.YtdoplaijgocboaaGreatS5
import Derived.Test.YtdoplaijgocboaaGreatM5
import Derived.Test.YtdoplaijgocboaaGreatM1
import Derived.Test.YtdoplaijgocboaaGreatS1
import Derived.Test.YtdoplaijgocboaaGreatS2
import Derived.StillTailTactics

namespace Go.Proofs.YtdoplaijgocboaaGreat
open Go.RowKit Go.Sort Go.Shelf Go.Lib
set_option linter.unusedVariables false

section
variable {w : World} {N gb : Nat} {L : List Ed} {D : Nat → Prop} {sm : Nat → Nat → Bool}
set_option maxRecDepth 100000 in
set_option maxHeartbeats 4000000 in
theorem shrink_any (hg : GraphV w D gb N L) (hN : N ≤ 65536) (h : Eqv sm N) (hsm : ∀ i j, i < N → j < N → (sm i j = true ↔ Sm (EG L) i j)) :
    Calls Tryz.prog 13 #[.pointer (some ⟨gb, 0, none⟩)] w fun e w' => ∃ b' D', e = .returned (.pointer (some ⟨b', 0, none⟩)) ∧ Fx No w w' ∧ GraphV w' D' b' (canon sm N).length (shrM (cno sm) L) ∧ ∀ x, D' x → w.heap.size ≤ x := by
  have HG := Lib.hid hg
  have HE := Lib.hid h
  have HSm := Lib.hid hsm
  have hNN := hg.nn
  have hsml := hg.small
  have hcl : (canon sm N).length ≤ N := by simp only [canon, List.length_map]; exact reps_len N
  clear hg h hsm
  go_enter Tryz.func13, Tryz.ntmps13
  go_wp2_with fail
  refine (sof_any HG.out HE.out HSm.out).mono ?_
  rintro e w2 ⟨g, rfl, hf2, hg1, hg2, hnb⟩
  have HF2 := Lib.hid hf2
  have HNb := Lib.hid hnb
  have HGs : Hid (g < w2.heap.size) := Lib.hid hg2
  clear hf2 hg1 hg2 hnb
  go_wp2_with fail
  refine (parts_any (HG.out.no HF2.out)).mono ?_
  rintro e w3 ⟨pv, P, rfl, hf3, hV, hP, hC, hS⟩
  obtain ⟨ao, cap, rfl, hA⟩ := hV.facts
  obtain rfl := parts_canon HE.out HSm.out hP hC hS
  have hz23 := hf3.size
  have HF3 := Lib.hid (HF2.out.trans hf3)
  have HNb3 := Lib.hid (HNb.out.keep hf3 (fun q => q))
  clear hf3 hV hP hC hS hA
  obtain ⟨n, hn⟩ : ∃ n, n = (canon sm N).length := ⟨_, rfl⟩
  rw [← hn] at hcl ⊢
  have HN := Lib.hid hn
  clear hn
  go_wp2_with fail
  refine (gNew_any n _ (by omega)).mono ?_
  rintro e w4 ⟨b, rfl, hf4, hG4⟩
  have HF4 := Lib.hid (HF3.out.trans hf4)
  have HNb4 := Lib.hid (HNb3.out.keep hf4 (fun q => q))
  have HG4 := Lib.hid hG4
  have hz4 : w.heap.size ≤ w3.heap.size := HF3.out.size
  have HZ23 : Hid (w2.heap.size ≤ w3.heap.size) := Lib.hid hz23
  clear hf4 hG4
  go_wp2_with fail
  refine (gEdges_any (HG.out.no HF4.out)).mono ?_
  rintro e w5 ⟨v5, rfl, hf5, hv5⟩
  obtain ⟨ao5, cap5, rfl, hc1, hc2, hk⟩ := EdsV.facts (OwnT.row hv5)
  have HF5 := Lib.hid (HF4.out.trans hf5)
  have HNb5 := Lib.hid (HNb4.out.keep hf5 (fun q => q))
  have HG5 := Lib.hid (HG4.out.no hf5)
  have HK := Lib.hid hk
  clear hf5 hv5 hk
  have HD5 : Hid (∀ x, Iv w3.heap.size w4.heap.size x → x < w5.heap.size) := Lib.hid HG5.out.lt
  have HGD : Hid (¬ Iv w3.heap.size w4.heap.size g) := Lib.hid fun q => by have h1 := q.1; have h2 := HGs.out; have h3 := HZ23.out; omega
  obtain ⟨m, hm⟩ : ∃ m, m = L.length := ⟨_, rfl⟩
  rw [← hm] at hsml ⊢
  have HM := Lib.hid hm
  clear hm hc1 hc2
  go_wp2
  go_loopg [24] m (fun gk sv ws => ∃ q : Nat, sv = .int .i64 (q : Nat) ∧ (m ≤ q + gk ∧ q ≤ m) ∧ Fx (Iv w3.heap.size w4.heap.size) w5 ws ∧ GraphV ws (DU (Iv w3.heap.size w4.heap.size) w5 ws) b n (addL [] (shrL (cno sm) (L.take q))))
  case atStart => exact ⟨0, rfl, ⟨by omega, by omega⟩, Fx.refl _ _, HG5.out.mono (fun _ => .inl) (DU.lt HG5.out.lt (Nat.le_refl _))⟩
  case round =>
    obtain ⟨q, rfl, hq, hf, hgq⟩ := hrel
    have HF := Lib.hid hf
    have HGq := Lib.hid hgq
    by_cases hqm : q < m
    · have hqL : q < L.length := by rw [← HM.out]; exact hqm
      obtain ⟨b3, o3, rfl, hb3, p0, p1, p2⟩ := HK.out q hqL
      obtain ⟨x, hx⟩ : ∃ x, x = gt L q := ⟨_, rfl⟩
      rw [← hx] at p0 p1 p2
      have hnD : ¬ Iv w3.heap.size w4.heap.size b3 := fun e => by have := e.2; have := hb3.1; omega
      have k0 := hf.cell' p0 hnD
      have k1 := hf.cell' p1 hnD
      have k2 := hf.cell' p2 hnD
      obtain ⟨⟨n0, n1⟩, n2, n3⟩ := HG.out.nodes x (by rw [hx]; exact gt_mem hqL)
      have HXe := Lib.hid hx
      have HTk : Hid (L.take (q + 1) = L.take q ++ [x]) := Lib.hid (by rw [hx]; exact take_gt hqL)
      obtain ⟨xf, xt, xl⟩ := x
      simp only at n0 n1 n2 n3 k0 k1 k2
      obtain ⟨i, rfl⟩ := Int.eq_ofNat_of_zero_le n0
      obtain ⟨j, rfl⟩ := Int.eq_ofNat_of_zero_le n2
      have hi : i < N := by omega
      have hj : j < N := by omega
      have c0 := hf.cell' (HNb5.out i hi).1 HGD.out
      have c1 := hf.cell' (HNb5.out j hj).1 HGD.out
      have q0 : (0 : Int) ≤ (q : Int) := by omega
      have q1 : (q : Int) < (m : Int) := by omega
      have i0 : (0 : Int) ≤ (i : Int) := by omega
      have j0 : (0 : Int) ≤ (j : Int) := by omega
      have hci : cno sm i < n := by rw [HN.out, show (canon sm N).length = (reps sm N).length by simp [canon]]; exact cno_lt HE.out hi
      have hcj : cno sm j < n := by rw [HN.out, show (canon sm N).length = (reps sm N).length by simp [canon]]; exact cno_lt HE.out hj
      obtain ⟨a, ha⟩ : ∃ a, a = cno sm i := ⟨_, rfl⟩
      obtain ⟨d, hd⟩ : ∃ d, d = cno sm j := ⟨_, rfl⟩
      rw [← ha] at c0 hci
      rw [← hd] at c1 hcj
      have HA := Lib.hid ha
      have HD := Lib.hid hd
      have c0 := cell?_alloc_some' c0 (.cells #[.int .i64 (i : Int), .int .i64 (j : Int), .int .i64 xl] 46)
      have c1 := cell?_alloc_some' c1 (.cells #[.int .i64 (i : Int), .int .i64 (j : Int), .int .i64 xl] 46)
      clear p0 p1 p2 hx hf hgq ha hd hb3 hnD n0 n2
      go_wp2
      go_quiet (fail)
      refine q_hold (fun W => Fx No wr W) (((Fx.refl No wr).alloc _).drewN _) ?_
      rintro W hfW
      have HFW := Lib.hid hfW
      clear hfW c0 c1 k0 k1 k2
      by_cases had : a = d
      · have hne : ((a : Int) != (d : Int)) = false := by rw [had]; simp
        have HO : Hid (shrL (cno sm) (L.take (q + 1)) = shrL (cno sm) (L.take q)) := Lib.hid (by
          rw [HTk.out, shrL_snoc, if_neg, List.append_nil]
          unfold outE2
          rw [decide_eq_true_eq]
          intro e
          apply e
          show cno sm ((i : Int).toNat) = cno sm ((j : Int).toNat)
          rw [Int.toNat_natCast, Int.toNat_natCast, ← HA.out, ← HD.out, had])
        clear had
        go_wp2
        go_roundg (m - (q + 1))
        case measure => omega
        case rel => exact ⟨q + 1, by go_num, ⟨by omega, by omega⟩, HF.out.trans HFW.out.no, by rw [HO.out]; exact (HGq.out.no HFW.out).mono (fun k hk => hk.imp_right fun h => ⟨h.1, Nat.lt_of_lt_of_le h.2 HFW.out.size⟩) (DU.lt HG5.out.lt (HFW.out.size |> Nat.le_trans HF.out.size))⟩
      · have hne : ((a : Int) != (d : Int)) = true := by simp; omega
        have HO : Hid (shrL (cno sm) (L.take (q + 1)) = shrL (cno sm) (L.take q) ++ [⟨(a : Nat), (d : Nat), 0⟩]) := Lib.hid (by
          have e1 : cno sm ((i : Int).toNat) = a := by rw [Int.toNat_natCast, HA.out]
          have e2 : cno sm ((j : Int).toNat) = d := by rw [Int.toNat_natCast, HD.out]
          rw [HTk.out, shrL_snoc, if_pos]
          · simp only [quoE, e1, e2]
          · unfold outE2
            rw [decide_eq_true_eq]
            show cno sm ((i : Int).toNat) ≠ cno sm ((j : Int).toNat)
            rw [e1, e2]; exact had)
        have HAD : Hid (addL [] (shrL (cno sm) (L.take (q + 1))) = addL (addL [] (shrL (cno sm) (L.take q))) [⟨(a : Nat), (d : Nat), 0⟩]) := Lib.hid (by rw [HO.out]; simp [addL])
        have HLn : Hid ((addL [] (shrL (cno sm) (L.take q))).length + 1 ≤ 1000000) := Lib.hid (by
          have h1 := (addL_len [] (shrL (cno sm) (L.take q))).2
          have h2 := shrL_len (cno sm) (L.take q)
          have h3 : (L.take q).length = q := by rw [List.length_take]; omega
          simp only [List.length_nil] at h1
          omega)
        have HX : Hid (EdsV (W.alloc (.cells #[.int .i64 (a : Nat), .int .i64 (d : Nat), .int .i64 0] 46)) (Iv W.heap.size (W.heap.size + 1)) (.slice (some ⟨W.heap.size, 0, none⟩) 1 1) [⟨(a : Nat), (d : Nat), 0⟩]) := Lib.hid (EdsV.lit [⟨(a : Nat), (d : Nat), 0⟩] (by simp))
        clear had
        go_wp2_with fail
        have hsz := HFW.out.size
        refine (gAdd_any ((HGq.out.no HFW.out).no ((Fx.refl No W).alloc _)) HX.out (fun k hk hd => by have h1 := HGq.out.lt k hd; have h2 := hk.1; omega) (fun x hx => by rw [List.mem_singleton] at hx; subst hx; exact ⟨by unfold Ok64; simp only; omega, by unfold Ok64; simp only; omega, by unfold Ok64; simp only; omega⟩) (good_mk fun x hx => by rw [List.mem_singleton] at hx; subst hx; exact ⟨⟨by simp only; omega, by simp only; omega⟩, by simp only; omega, by simp only; omega⟩) HLn.out).mono ?_
        rintro e w6 ⟨rfl, hf6, hg6⟩
        rw [← HAD.out] at hg6
        have HF6 : Hid (Fx (Iv w3.heap.size w4.heap.size) w5 w6) := Lib.hid ((HF.out.trans (HFW.out.trans ((Fx.refl No W).alloc _)).no).trans' hf6 fun j h1 h2 => by
          rcases h1 with h1 | h1
          · exact h1
          · have := h1.1; omega)
        have HG6 : Hid (GraphV w6 (DU (Iv w3.heap.size w4.heap.size) w5 w6) b n (addL [] (shrL (cno sm) (L.take (q + 1))))) := Lib.hid (by
          have z1 := HF.out.size
          have z2 := hf6.size
          rw [World.size_alloc] at z2
          refine hg6.mono (fun k hk => ?_) ?_
          · rcases hk with (hk | hk) | hk
            · exact .inl hk
            · exact .inr ⟨hk.1, by have := hk.2; omega⟩
            · exact .inr ⟨by have := hk.1; rw [World.size_alloc] at this; omega, hk.2⟩
          · exact DU.lt HG5.out.lt (by omega))
        clear hf6 hg6
        go_wp2
        go_roundg (m - (q + 1))
        case measure => omega
        case rel => exact ⟨q + 1, by go_num, ⟨by omega, by omega⟩, HF6.out, HG6.out⟩
    · obtain rfl : q = m := by omega
      have hte : L.take q = L := List.take_of_length_le (by rw [HM.out]; exact Nat.le_refl _)
      rw [hte] at hgq
      have HFA : Hid (Fx No w wr) := Lib.hid (HF5.out.trans' hf fun j h1 h2 => by have := h1.1; omega)
      have HGA : Hid (∀ x, DU (Iv w3.heap.size w4.heap.size) w5 wr x → w.heap.size ≤ x) := Lib.hid fun x hx => by
        rcases hx with hx | hx
        · have := hx.1; omega
        · have := hx.1; have := HF5.out.size; omega
      have HGq := Lib.hid hgq
      clear hf hgq hte
      go_wp2
      go_ret
      exact ⟨b, _, rfl, HFA.out, by rw [← HN.out]; exact HGq.out, HGA.out⟩
end
#print axioms shrink_any
end Go.Proofs.YtdoplaijgocboaaGreat

namespace Go.Proofs.YtdoplaijgocboaaGreat
open Go.RowKit
set_option linter.unusedVariables false

def exS : List Ed := [⟨1, 0, 0⟩, ⟨1, 3, 0⟩, ⟨3, 1, 0⟩, ⟨4, 4, 0⟩]
def smS : Nat → Nat → Bool := smR (rL exS 5)
theorem exS_nd : NdL exS 5 := by unfold NdL exS; decide
theorem exS_eqv : Eqv smS 5 := rL_eqv exS_nd
theorem exS_sm : ∀ i j, i < 5 → j < 5 → (smS i j = true ↔ Sm (EG exS) i j) := rL_sm exS_nd
theorem exS_canon : (canon smS 5).map natsI = [[0], [1, 3], [2], [4]] := by decide +kernel
theorem exS_len : (canon smS 5).length = 4 := by decide +kernel
theorem exS_cno : (List.range 5).map (cno smS) = [0, 1, 2, 1, 3] := by decide +kernel
theorem exS_cnoI : ((List.range 5).map fun i => ((cno smS i : Nat) : Int)) = [0, 1, 2, 1, 3] := by decide +kernel
theorem exS_in : (exS.filter fun x => !outE2 (cno smS) x).map (·.f) = [1, 3, 4] := by decide +kernel
theorem exS_shr : shrM (cno smS) exS = [⟨1, 0, 0⟩] := by decide +kernel
theorem exS_clo : Up1 [1, 3, 4] ((exS.filter fun x => !outE2 (cno smS) x).map (·.f)) := by
  rw [exS_in]
  refine ⟨by decide, fun x => Iff.rfl, fun x h y hy => ?_⟩
  simp only [List.getLast?_cons_cons, List.getLast?_singleton, Option.some.injEq] at h
  subst h
  simp only [List.mem_cons, List.not_mem_nil, or_false] at hy
  omega
theorem exS_j1 : (!([1, 3] : List Int).any (jBad 5 (cno smS) (gi [1, 3] 0))) = true := by decide +kernel
theorem exS_j2 : (!([0, 1] : List Int).any (jBad 5 (cno smS) (gi [0, 1] 0))) = false := by decide +kernel
theorem exS_j3 : (!([2] : List Int).any (jBad 5 (cno smS) (gi [2] 0))) = true := by decide +kernel
theorem NumB.ints {w : World} {b N : Nat} {f : Nat → Nat} (h : NumB w b N f) (hN : N ≤ 1000000) : IntsV w (fun k => k = b) (.slice (some ⟨b, 0, none⟩) N N) ((List.range N).map fun i => ((f i : Nat) : Int)) := by
  refine ⟨some ⟨b, 0, none⟩, N, by simp, by simp, by unfold maxLen; omega, by simp [Go.Proofs.YtdoplaijgocboaaGreat.ints], by simp, .inr ⟨b, 0, rfl, rfl, fun i hi => ?_⟩⟩
  have hi' : i < N := by simpa [Go.Proofs.YtdoplaijgocboaaGreat.ints] using hi
  rw [Nat.zero_add, (h i hi').1]
  simp [Go.Proofs.YtdoplaijgocboaaGreat.ints, hi']
theorem IntsV.lit (w : World) (t : TypeId) (l : List Int) (h : l.length ≤ 1000000) : IntsV (w.alloc (.cells (ints l).toArray t)) (fun k => k = w.heap.size) (.slice (some ⟨w.heap.size, 0, none⟩) l.length l.length) l := by
  refine ⟨some ⟨w.heap.size, 0, none⟩, l.length, rfl, Nat.le_refl _, by unfold maxLen; omega, by simp [ints], by simp, .inr ⟨w.heap.size, 0, rfl, rfl, fun i hi => ?_⟩⟩
  have hi' : i < l.length := by simpa [ints] using hi
  simp [ints, hi']
set_option maxRecDepth 100000 in
set_option maxHeartbeats 4000000 in
theorem works_any (w : World) : Calls Tryz.prog 5 #[] w fun e w' => e = .returned (.bool true) ∧ Fx No w w' := by
  go_enter Tryz.func5, Tryz.ntmps5
  go_wp2_with fail
  refine (gNew_any 5 w (by omega)).mono ?_
  rintro e w1 ⟨b, rfl, hf, hg⟩
  have HF1 := Lib.hid hf
  have HG1 := Lib.hid hg
  have z1 := hf.size
  clear hf hg
  have HX1 : Hid (EdsV (w1.alloc (.cells #[.int .i64 3, .int .i64 1, .int .i64 0, .int .i64 1, .int .i64 3, .int .i64 0, .int .i64 1, .int .i64 0, .int .i64 0, .int .i64 4, .int .i64 4, .int .i64 0] 46)) (Iv w1.heap.size (w1.heap.size + 1)) (.slice (some ⟨w1.heap.size, 0, none⟩) 4 4) [⟨3, 1, 0⟩, ⟨1, 3, 0⟩, ⟨1, 0, 0⟩, ⟨4, 4, 0⟩]) := Lib.hid (EdsV.lit [⟨3, 1, 0⟩, ⟨1, 3, 0⟩, ⟨1, 0, 0⟩, ⟨4, 4, 0⟩] (by decide))
  have hL : addL [] [⟨3, 1, 0⟩, ⟨1, 3, 0⟩, ⟨1, 0, 0⟩, ⟨4, 4, 0⟩] = exS := by decide
  go_wp2_with fail
  refine (gAdd_any (HG1.out.no ((Fx.refl No w1).alloc _)) HX1.out (fun k hk hd => by have h1 := hk.1; have h2 := hd.2; omega) (by simp only [List.mem_cons, List.not_mem_nil, or_false]; rintro x (rfl | rfl | rfl | rfl) <;> exact ⟨by unfold Ok64; decide, by unfold Ok64; decide, by unfold Ok64; decide⟩) (by decide) (by decide)).mono ?_
  rintro e w2 ⟨rfl, hf, hg⟩
  rw [hL] at hg
  have HF2 : Hid (Fx No w w2) := Lib.hid ((HF1.out.alloc _).trans' hf fun j h1 h2 => by have := h1.1; omega)
  obtain ⟨D, hD⟩ : ∃ D : Nat → Prop, GraphV w2 D b 5 exS ∧ ∀ x, D x → x < w2.heap.size := ⟨_, hg, hg.lt⟩
  have HG2 := Lib.hid hD.1
  rw [hL]
  clear hf hg HX1 hL hD HG1
  go_wp2_with fail
  refine (shrink_any HG2.out (by omega) exS_eqv exS_sm).mono ?_
  rw [exS_len, exS_shr]
  rintro e w3 ⟨sb, D3, rfl, hf, hg, hlo⟩
  have HF3 := Lib.hid (HF2.out.trans hf)
  have HG3 := Lib.hid (HG2.out.no hf)
  have HS3 := Lib.hid hg
  clear hf hg hlo
  go_wp2_with fail
  refine (partsW_any HG3.out exS_eqv exS_sm).mono ?_
  rw [exS_canon]
  rintro e w4 ⟨pv, B, V, rfl, hf, hr⟩
  have HF34 := Lib.hid hf
  have HR4 := Lib.hid hr
  clear hf hr
  go_wp2_with fail
  have HQ : Hid (RowsR (((((w4.alloc (.cells #[.int .i64 0] 3)).alloc (.cells #[.int .i64 1, .int .i64 3] 3)).alloc (.cells #[.int .i64 2] 3)).alloc (.cells #[.int .i64 4] 3)).alloc
      (.cells #[.slice (some ⟨w4.heap.size, 0, none⟩) 1 1, .slice (some ⟨w4.heap.size + 1, 0, none⟩) 2 2, .slice (some ⟨w4.heap.size + 1 + 1, 0, none⟩) 1 1, .slice (some ⟨w4.heap.size + 1 + 1 + 1, 0, none⟩) 1 1] 23))
      (fun k => w4.heap.size ≤ k) (.slice (some ⟨w4.heap.size + 1 + 1 + 1 + 1, 0, none⟩) 4 4) [[0], [1, 3], [2], [4]] (fun i => [Value.slice (some ⟨w4.heap.size, 0, none⟩) 1 1, .slice (some ⟨w4.heap.size + 1, 0, none⟩) 2 2, .slice (some ⟨w4.heap.size + 1 + 1, 0, none⟩) 1 1, .slice (some ⟨w4.heap.size + 1 + 1 + 1, 0, none⟩) 1 1].getD i undef)) := Lib.hid (by
    obtain ⟨wa, ha⟩ : ∃ x, x = w4.alloc (.cells #[.int .i64 0] 3) := ⟨_, rfl⟩
    obtain ⟨wb, hb⟩ : ∃ x, x = wa.alloc (.cells #[.int .i64 1, .int .i64 3] 3) := ⟨_, rfl⟩
    obtain ⟨wc, hc⟩ : ∃ x, x = wb.alloc (.cells #[.int .i64 2] 3) := ⟨_, rfl⟩
    obtain ⟨wd, hd⟩ : ∃ x, x = wc.alloc (.cells #[.int .i64 4] 3) := ⟨_, rfl⟩
    have za : wa.heap.size = w4.heap.size + 1 := by rw [ha, World.size_alloc]
    have zb : wb.heap.size = w4.heap.size + 1 + 1 := by rw [hb, World.size_alloc, za]
    have zc : wc.heap.size = w4.heap.size + 1 + 1 + 1 := by rw [hc, World.size_alloc, zb]
    have zd : wd.heap.size = w4.heap.size + 1 + 1 + 1 + 1 := by rw [hd, World.size_alloc, zc]
    have fb : Fx No wa wb := by rw [hb]; exact (Fx.refl No _).alloc _
    have fc : Fx No wb wc := by rw [hc]; exact (Fx.refl No _).alloc _
    have fd : Fx No wc wd := by rw [hd]; exact (Fx.refl No _).alloc _
    have la : IntsV wd (fun k => w4.heap.size ≤ k) (.slice (some ⟨w4.heap.size, 0, none⟩) 1 1) [0] := by
      have := IntsV.lit w4 3 [0] (by decide)
      refine IntsV.no (IntsV.mono (T := fun k => w4.heap.size ≤ k) ?_ (fun k hk => hk)) ((fb.trans fc).trans fd)
      rw [ha]; exact this.mono fun k (hk : k = _) => by show w4.heap.size ≤ k; omega
    have lb : IntsV wd (fun k => w4.heap.size ≤ k) (.slice (some ⟨w4.heap.size + 1, 0, none⟩) 2 2) [1, 3] := by
      have := IntsV.lit wa 3 [1, 3] (by decide)
      refine IntsV.no (IntsV.mono (T := fun k => w4.heap.size ≤ k) ?_ (fun k hk => hk)) (fc.trans fd)
      rw [za] at this
      rw [hb]; exact this.mono fun k (hk : k = _) => by show w4.heap.size ≤ k; omega
    have lc : IntsV wd (fun k => w4.heap.size ≤ k) (.slice (some ⟨w4.heap.size + 1 + 1, 0, none⟩) 1 1) [2] := by
      have := IntsV.lit wb 3 [2] (by decide)
      refine IntsV.no (IntsV.mono (T := fun k => w4.heap.size ≤ k) ?_ (fun k hk => hk)) fd
      rw [zb] at this
      rw [hc]; exact this.mono fun k (hk : k = _) => by show w4.heap.size ≤ k; omega
    have ld : IntsV wd (fun k => w4.heap.size ≤ k) (.slice (some ⟨w4.heap.size + 1 + 1 + 1, 0, none⟩) 1 1) [4] := by
      have := IntsV.lit wc 3 [4] (by decide)
      rw [zc] at this
      rw [hd]; exact this.mono fun k (hk : k = _) => by show w4.heap.size ≤ k; omega
    rw [← ha, ← hb, ← hc, ← hd]
    have := RowsR.lit (w := wd) (E := fun k => w4.heap.size ≤ k) (R := [[0], [1, 3], [2], [4]]) (fun i => [Value.slice (some ⟨w4.heap.size, 0, none⟩) 1 1, .slice (some ⟨w4.heap.size + 1, 0, none⟩) 2 2, .slice (some ⟨w4.heap.size + 1 + 1, 0, none⟩) 1 1, .slice (some ⟨w4.heap.size + 1 + 1 + 1, 0, none⟩) 1 1].getD i undef) 23 (fun i hi => by
      match i, hi with
      | 0, _ => exact la
      | 1, _ => exact lb
      | 2, _ => exact lc
      | 3, _ => exact ld
      | n + 4, h => simp at h; omega) (by decide)
    rw [zd] at this
    exact this.mono fun k hk => hk.elim id fun e => by omega)
  refine (rows_any (HR4.out.no (((((Fx.refl No w4).alloc _).alloc _).alloc _).alloc _ |>.alloc _)) HQ.out (fun k hk hd => by have h1 : w4.heap.size ≤ k := hk; have h2 := hd.2; omega)).mono ?_
  rintro e w5 ⟨rfl, hf⟩
  have HF35 : Hid (Fx No w3 w5) := Lib.hid ((HF34.out.trans (((((Fx.refl No w4).alloc _).alloc _).alloc _).alloc _ |>.alloc _)).trans' hf fun j h1 h2 => by have := h1.1; omega)
  have dd : decide (([[0], [1, 3], [2], [4]] : List (List Int)) = [[0], [1, 3], [2], [4]]) = true := decide_eq_true rfl
  rw [dd]
  clear hf HQ HR4 HF34 dd
  go_wp2_with fail
  refine (sof_any (HG3.out.no HF35.out) exS_eqv exS_sm).mono ?_
  rintro e w6 ⟨g, rfl, hf, hg1, hg2, hnb⟩
  have hI := hnb.ints (by omega)
  rw [exS_cnoI] at hI
  have HF36 := Lib.hid (HF35.out.trans hf)
  have HI := Lib.hid hI
  clear hf hg1 hg2 hnb hI HF35
  have HX : Hid (IntsV (w6.alloc (.cells #[.int .i64 0, .int .i64 1, .int .i64 2, .int .i64 1, .int .i64 3] 3)) (fun k => k = w6.heap.size) (.slice (some ⟨w6.heap.size, 0, none⟩) 5 5) [0, 1, 2, 1, 3]) := Lib.hid (IntsV.lit w6 3 [0, 1, 2, 1, 3] (by decide))
  go_wp2_with fail
  refine (sameInts_any (HI.out.no ((Fx.refl No w6).alloc _)) HX.out).mono ?_
  rintro e w7 ⟨rfl, hf⟩
  have HF37 := Lib.hid (HF36.out.trans (((Fx.refl No w6).alloc _).trans hf))
  have dd : (([0, 1, 2, 1, 3] : List Int) == [0, 1, 2, 1, 3]) = true := by decide
  rw [dd]
  clear hf HX HI HF36 dd
  go_wp2_with fail
  refine (closedU_any (HG3.out.no HF37.out) exS_eqv exS_sm [1, 3, 4] exS_clo).mono ?_
  rintro e w8 ⟨v8, rfl, hf, ho⟩
  have HF38 := Lib.hid (HF37.out.trans hf)
  obtain ⟨ao8, cap8, rfl, _⟩ := SlV.ofOwns ho
  have HI : Hid (IntsV w8 (Iv w7.heap.size w8.heap.size) (.slice ao8 3 cap8) [1, 3, 4]) := Lib.hid (SlV.ofOwns ho)
  clear hf ho HF37
  have HX : Hid (IntsV (w8.alloc (.cells #[.int .i64 1, .int .i64 3, .int .i64 4] 3)) (fun k => k = w8.heap.size) (.slice (some ⟨w8.heap.size, 0, none⟩) 3 3) [1, 3, 4]) := Lib.hid (IntsV.lit w8 3 [1, 3, 4] (by decide))
  go_wp2_with fail
  refine (sameInts_any (HI.out.no ((Fx.refl No w8).alloc _)) HX.out).mono ?_
  rintro e w9 ⟨rfl, hf⟩
  have HF39 := Lib.hid (HF38.out.trans (((Fx.refl No w8).alloc _).trans hf))
  have dd : (([1, 3, 4] : List Int) == [1, 3, 4]) = true := by decide
  rw [dd]
  clear hf HX HI HF38 dd
  go_wp2_with fail
  refine (gLen_any (HS3.out.no HF39.out)).mono ?_
  rintro e w10 ⟨rfl, rfl⟩
  go_wp2_with fail
  refine (gMany_any (HS3.out.no HF39.out)).mono ?_
  rintro e w10 ⟨rfl, rfl⟩
  go_wp2_with fail
  refine (gHas_any (HS3.out.no HF39.out) ⟨1, 0, 0⟩ ⟨by unfold Ok64; decide, by unfold Ok64; decide, by unfold Ok64; decide⟩).mono ?_
  rintro e w10 ⟨rfl, hf⟩
  have dd : decide ((⟨1, 0, 0⟩ : Ed) ∈ [⟨1, 0, 0⟩]) = true := by decide
  rw [dd]
  have HF := Lib.hid (HF39.out.trans hf)
  clear hf dd HF39
  have HX : Hid (IntsV (w10.alloc (.cells #[.int .i64 1, .int .i64 3] 3)) (fun k => k = w10.heap.size) (.slice (some ⟨w10.heap.size, 0, none⟩) 2 2) [1, 3]) := Lib.hid (IntsV.lit w10 3 [1, 3] (by decide))
  go_wp2_with fail
  refine (joined_any ((HG3.out.no HF.out).no ((Fx.refl No w10).alloc _)) exS_eqv exS_sm HX.out).mono ?_
  rintro e w11 ⟨rfl, hf⟩
  rw [exS_j1]
  have HFa := Lib.hid (HF.out.trans (((Fx.refl No w10).alloc _).trans hf))
  clear hf HX HF
  have HX : Hid (IntsV (w11.alloc (.cells #[.int .i64 0, .int .i64 1] 3)) (fun k => k = w11.heap.size) (.slice (some ⟨w11.heap.size, 0, none⟩) 2 2) [0, 1]) := Lib.hid (IntsV.lit w11 3 [0, 1] (by decide))
  go_wp2_with fail
  refine (joined_any ((HG3.out.no HFa.out).no ((Fx.refl No w11).alloc _)) exS_eqv exS_sm HX.out).mono ?_
  rintro e w12 ⟨rfl, hf⟩
  rw [exS_j2]
  have HFb := Lib.hid (HFa.out.trans (((Fx.refl No w11).alloc _).trans hf))
  clear hf HX HFa
  have HX : Hid (IntsV (w12.alloc (.cells #[.int .i64 2] 3)) (fun k => k = w12.heap.size) (.slice (some ⟨w12.heap.size, 0, none⟩) 1 1) [2]) := Lib.hid (IntsV.lit w12 3 [2] (by decide))
  go_wp2_with fail
  refine (joined_any ((HG3.out.no HFb.out).no ((Fx.refl No w12).alloc _)) exS_eqv exS_sm HX.out).mono ?_
  rintro e w13 ⟨rfl, hf⟩
  rw [exS_j3]
  have HFc := Lib.hid (HF3.out.trans (HFb.out.trans (((Fx.refl No w12).alloc _).trans hf)))
  clear hf HX HFb
  go_wp2
  go_ret
  exact ⟨rfl, HFc.out⟩
#print axioms works_any
end Go.Proofs.YtdoplaijgocboaaGreat

namespace Go.Proofs.YtdoplaijgocboaaGreat
open Go.RowKit
set_option linter.unusedVariables false

theorem info_bool : (Tryz.prog.info? 4).map (fun i => (i.zero, i.size, i.bytes)) = some (some (.bool false), 1, 1) := by kernel_rfl
theorem info_bools : (Tryz.prog.info? 63).map (fun i => (i.zero, i.size, i.bytes)) = some (some (.slice none 0 0), 1, 24) := by kernel_rfl
def zeroBools (k : Nat) : Array Value := Array.replicate k (.bool false)
theorem makeBools {E : Int} {k : Nat} (h0 : 0 ≤ E) (h1 : E ≤ 1000000) (hk : E.toNat = k) (w : World) :
    (Instr.makeSlice 63 (.int .i64 E) (.int .i64 E)).run Tryz.prog w = .ok (.slice (some ⟨w.heap.size, 0, none⟩) k k) (w.alloc (.cells (zeroBools k) 4)) := by
  obtain ⟨i, hi, hz, hs, hb⟩ := info_parts info_bool
  have := run_make (P := Tryz.prog) w 63 4 i _ Tryz.underlying63 hi hz .i64 .i64 E E h0 (Int.le_refl _) (by rw [hb]; omega) (by omega)
  rw [this, hk, hs]
  have e : madeCells (Value.bool false).cells (k * 1) = zeroBools k := by
    apply Array.ext'
    rw [show (Value.bool false).cells = #[.bool false] from rfl, toList_madeCells_one]
    simp [zeroBools]
  rw [e]
/-- rows behind a slice -/
def rowsL (B : Nat → Nat) (n k : Nat) : List Value := (List.range k).map fun i => .slice (some ⟨B i, 0, none⟩) n n
theorem rowsL_succ (B : Nat → Nat) (n k : Nat) : rowsL B n (k + 1) = rowsL B n k ++ [.slice (some ⟨B k, 0, none⟩) n n] := by simp [rowsL, List.range_succ]
theorem rowsL_at {B : Nat → Nat} {n k i : Nat} (h : i < k) : (rowsL B n k)[i]? = some (.slice (some ⟨B i, 0, none⟩) n n) := by simp [rowsL, h]
theorem rowsL_length (B : Nat → Nat) (n k : Nat) : (rowsL B n k).length = k := by simp [rowsL]
theorem rowsL_congr {B C : Nat → Nat} {n k : Nat} (h : ∀ i, i < k → B i = C i) : rowsL B n k = rowsL C n k := by
  unfold rowsL
  refine List.map_congr_left fun i hi => ?_
  rw [h i (List.mem_range.1 hi)]
/-- the first k rows are made -/
structure MatS (w ws : World) (lo n k : Nat) (vs : Value) (B : Nat → Nat) : Prop where
  fx : Fx No w ws
  own : ws.ownsRow lo 63 1 vs k (rowsL B n k)
  cel : ∀ i j, i < k → j < n → ws.cell? ⟨B i, j, none⟩ = some (.bool false) ∧ ws.frozen? ⟨B i, j, none⟩ = false
  inj : ∀ i j, i < k → j < k → B i = B j → i = j
  ne : ∀ i g, i < k → vs.ownBlock = some g → B i ≠ g
  low : w.heap.size ≤ lo ∧ lo ≤ ws.heap.size ∧ ∀ i, i < k → lo ≤ B i ∧ B i < ws.heap.size
theorem MatS.step {w ws w2 : World} {lo n k : Nat} {vs v' : Value} {B : Nat → Nat} {t : TypeId} {lit : Obj} (h : MatS w ws lo n k vs B) (hfx : Fx (fun g => vs.ownBlock = some g) ((ws.alloc (.cells (zeroBools n) t)).alloc lit) w2)
    (ho : w2.ownsRow lo 63 1 v' (k + 1) (rowsL B n k ++ [.slice (some ⟨ws.heap.size, 0, none⟩) n n])) (hb : ∀ g, v'.ownBlock = some g → vs.ownBlock = some g ∨ ws.heap.size + 2 ≤ g) :
    MatS w w2 lo n (k + 1) v' (fun j => if j = k then ws.heap.size else B j) := by
  obtain ⟨l1, l2, l3⟩ := h.low
  have hvs : ∀ g, vs.ownBlock = some g → lo ≤ g ∧ g < ws.heap.size := fun g e => World.ownsRow.lt h.own g e
  have hz2 := hfx.size
  simp only [World.size_alloc] at hz2
  have hfa : Fx (fun g => vs.ownBlock = some g) ws w2 := (((Fx.refl No ws).alloc _).alloc _).no.trans hfx
  have hb0 := heap_alloc_new ws (.cells (zeroBools n) t)
  have hb1 := hfx.at_ (((Fx.refl No (ws.alloc (.cells (zeroBools n) t))).alloc lit).at_ hb0 (fun h => h)) (fun e => by have := (hvs _ e).2; omega)
  refine ⟨h.fx.trans' hfa fun g e hl => by have := (hvs g e).1; omega, ?_, fun i j hi hj => ?_, fun i j hi hj e => ?_, fun i g hi hg => ?_, l1, by omega, fun i hi => ?_⟩
  · rw [rowsL_succ]
    simp only [if_true]
    rw [rowsL_congr (C := B) fun i hi => by simp [show i ≠ k by omega]]
    exact ho
  · by_cases e : i = k
    · subst e
      simp only [if_true]
      exact ⟨by rw [cell_of_row _ _ _ _ _ _ hb1]; simp [zeroBools, hj], frozen_of_row _ _ _ _ _ hb1⟩
    · simp only [if_neg e]
      obtain ⟨c1, c2⟩ := h.cel i j (by omega) hj
      exact hfa.cellF c1 c2 fun e2 => h.ne i (B i) (by omega) e2 rfl
  · by_cases e1 : i = k
    · by_cases e2 : j = k
      · omega
      · simp only [e1, if_true, if_neg e2] at e
        have := (l3 j (by omega)).2; omega
    · by_cases e2 : j = k
      · simp only [e2, if_true, if_neg e1] at e
        have := (l3 i (by omega)).2; omega
      · simp only [if_neg e1, if_neg e2] at e
        exact h.inj i j (by omega) (by omega) e
  · rcases hb g hg with h1 | h1
    · by_cases e : i = k
      · simp only [e, if_true]; have := (hvs g h1).2; omega
      · simp only [if_neg e]; exact h.ne i g (by omega) h1
    · by_cases e : i = k
      · simp only [e, if_true]; omega
      · simp only [if_neg e]; have := (l3 i (by omega)).2; omega
  · by_cases e : i = k
    · simp only [e, if_true]; omega
    · simp only [if_neg e]; have := l3 i (by omega); omega
/-- a matrix of n rows of n truths, which may be written -/
structure Mat (w : World) (lo n : Nat) (vo : Value) (gO : Nat) (B : Nat → Nat) (g : Nat → Nat → Bool) : Prop where
  shape : ∃ ao cap, vo = .slice ao n cap ∧ (0 < n → ao = some ⟨gO, 0, none⟩) ∧ n ≤ cap ∧ cap ≤ maxLen
  row : ∀ i, i < n → w.cell? ⟨gO, i, none⟩ = some (.slice (some ⟨B i, 0, none⟩) n n)
  cel : ∀ i j, i < n → j < n → w.cell? ⟨B i, j, none⟩ = some (.bool (g i j)) ∧ w.frozen? ⟨B i, j, none⟩ = false
  inj : ∀ i j, i < n → j < n → B i = B j → i = j
  ne : ∀ i, i < n → B i ≠ gO
  low : ∀ i, i < n → lo ≤ gO ∧ lo ≤ B i
theorem Mat.fx {w w' : World} {S : Nat → Prop} {lo n gO : Nat} {vo : Value} {B : Nat → Nat} {g : Nat → Nat → Bool} (h : Mat w lo n vo gO B g) (hf : Fx S w w') (hd : ∀ x, lo ≤ x → ¬ S x) : Mat w' lo n vo gO B g :=
  ⟨h.shape, fun i hi => hf.cell' (h.row i hi) (hd _ (h.low i hi).1), fun i j hi hj => hf.cellF (h.cel i j hi hj).1 (h.cel i j hi hj).2 (hd _ (h.low i hi).2), h.inj, h.ne, h.low⟩
theorem Mat.congr {w : World} {lo n gO : Nat} {vo : Value} {B : Nat → Nat} {g g' : Nat → Nat → Bool} (h : Mat w lo n vo gO B g) (e : ∀ i j, i < n → j < n → g i j = g' i j) : Mat w lo n vo gO B g' :=
  ⟨h.shape, h.row, fun i j hi hj => by rw [← e i j hi hj]; exact h.cel i j hi hj, h.inj, h.ne, h.low⟩
def setG (g : Nat → Nat → Bool) (i j : Nat) (b : Bool) : Nat → Nat → Bool := fun x y => if x = i ∧ y = j then b else g x y
theorem Mat.set {w : World} {lo n gO i j : Nat} {vo : Value} {B : Nat → Nat} {g : Nat → Nat → Bool} (h : Mat w lo n vo gO B g) (hi : i < n) (hj : j < n) (b : Bool) : Mat (w.setCell ⟨B i, j, none⟩ (.bool b)) lo n vo gO B (setG g i j b) := by
  refine ⟨h.shape, fun x hx => ?_, fun x y hx hy => ⟨?_, by simpa using (h.cel x y hx hy).2⟩, h.inj, h.ne, h.low⟩
  · rw [World.cell?_setCell_other _ _ _ _ (by intro e; injection e with e1; exact h.ne i hi e1)]
    exact h.row x hx
  · unfold setG
    by_cases e : x = i ∧ y = j
    · obtain ⟨rfl, rfl⟩ := e
      rw [if_pos ⟨rfl, rfl⟩]
      exact World.cell?_setCell_same _ _ _ (h.cel x y hx hy).1
    · rw [if_neg e, World.cell?_setCell_other _ _ _ _ (by intro e2; injection e2 with e3 e4; exact e ⟨h.inj x i hx hi e3.symm, e4.symm⟩)]
      exact (h.cel x y hx hy).1
theorem MatS.mat {w ws : World} {lo n : Nat} {vs : Value} {B : Nat → Nat} (h : MatS w ws lo n n vs B) : ∃ gO, Mat ws lo n vs gO B (fun _ _ => false) := by
  obtain ⟨l1, l2, l3⟩ := h.low
  rcases h.own.2 with ⟨e1, e2⟩ | ⟨g, cap, cur, e1, hb, hg, r1, r2, _⟩
  · exact ⟨0, ⟨none, 0, by rw [e1, e2], fun h0 => by omega, by omega, Nat.zero_le _⟩, fun i hi => by omega, fun i j hi hj => by omega, fun i j hi hj => by omega, fun i hi => by omega, fun i hi => by omega⟩
  · refine ⟨g, ⟨_, cap, e1, fun _ => rfl, r1, r2⟩, fun i hi => ?_, h.cel, h.inj, fun i hi => h.ne i g hi (by rw [e1]; rfl), fun i hi => ⟨hb, (l3 i hi).1⟩⟩
    have := h.own.cells (g := g) (by rw [e1]; rfl) i _ (rowsL_at hi)
    rw [Addr.add_lit, Nat.zero_add] at this
    exact this
end Go.Proofs.YtdoplaijgocboaaGreat

namespace Go.Proofs.YtdoplaijgocboaaGreat
open Go.RowKit
set_option linter.unusedVariables false

/-- what has been joined: all by the nodes below k; by k too up to row i, number m -/
def Inv (e : Nat → Nat → Prop) (n k i m : Nat) (g : Nat → Nat → Bool) : Prop := ∀ a b, a < n → b < n → (g a b = true → Way e a b) ∧ (WK e k a b → g a b = true) ∧ ((a < i ∨ (a = i ∧ b < m)) → WK e (k + 1) a b → g a b = true)
theorem Inv.step {e : Nat → Nat → Prop} {n k i m : Nat} {g : Nat → Nat → Bool} (h : Inv e n k i m g) (hk : k < n) (hi : i < n) (hm : m < n) : Inv e n k i (m + 1) (setG g i m (g i m || (g i k && g k m))) := by
  intro a b ha hb
  obtain ⟨h1, h2, h3⟩ := h a b ha hb
  obtain ⟨p1, p2, _⟩ := h i k hi hk
  obtain ⟨r1, r2, _⟩ := h k m hk hm
  unfold setG
  by_cases hab : a = i ∧ b = m
  · obtain ⟨rfl, rfl⟩ := hab
    rw [if_pos ⟨rfl, rfl⟩]
    refine ⟨fun hg => ?_, fun hw => by rw [h2 hw]; rfl, fun _ hw => ?_⟩
    · simp only [Bool.or_eq_true, Bool.and_eq_true] at hg
      rcases hg with hg | ⟨hg1, hg2⟩
      · exact h1 hg
      · exact (p1 hg1).trans (r1 hg2)
    · rcases hw with hw | ⟨hw1, hw2⟩
      · rw [h2 hw]; rfl
      · rw [p2 hw1, r2 hw2]; simp
  · rw [if_neg hab]
    exact ⟨h1, h2, fun hx hw => h3 (by omega) hw⟩
theorem Inv.row {e : Nat → Nat → Prop} {n k i : Nat} {g : Nat → Nat → Bool} (h : Inv e n k i n g) : Inv e n k (i + 1) 0 g := fun a b ha hb =>
  ⟨(h a b ha hb).1, (h a b ha hb).2.1, fun hx hw => (h a b ha hb).2.2 (by omega) hw⟩
theorem Inv.round {e : Nat → Nat → Prop} {n k : Nat} {g : Nat → Nat → Bool} (h : Inv e n k n 0 g) : Inv e n (k + 1) 0 0 g := fun a b ha hb =>
  ⟨(h a b ha hb).1, fun hw => (h a b ha hb).2.2 (.inl ha) hw, fun hx => by omega⟩
theorem Inv.done {e : Nat → Nat → Prop} {n : Nat} {g : Nat → Nat → Bool} (h : Inv e n n 0 0 g) (he : ∀ i j, e i j → i < n ∧ j < n) : ∀ i j, i < n → j < n → (g i j = true ↔ Way e i j) := fun i j hi hj =>
  ⟨(h i j hi hj).1, fun hw => (h i j hi hj).2.1 ((way_WK he).1 hw)⟩
theorem Mat.lower {w : World} {lo lo' n gO : Nat} {vo : Value} {B : Nat → Nat} {g : Nat → Nat → Bool} (h : Mat w lo n vo gO B g) (hl : lo' ≤ lo) : Mat w lo' n vo gO B g :=
  ⟨h.shape, h.row, h.cel, h.inj, h.ne, fun i hi => by have := h.low i hi; omega⟩
/-- the matrix of which nodes lead to which -/
def ReachR (L : List Ed) (n : Nat) (w : World) (e : Ending) (w' : World) : Prop := ∃ vo gO B g, e = .returned vo ∧ Fx No w w' ∧ Mat w' w.heap.size n vo gO B g ∧ ∀ i j, i < n → j < n → (g i j = true ↔ Way (EG L) i j)
section
variable {w w' : World} {D S : Nat → Prop} {L : List Ed} {v : Value}
set_option maxRecDepth 100000 in
set_option maxHeartbeats 4000000 in
theorem refReach_any (h : EdsV w D v L) {n : Nat} (hn : n ≤ 1000) (hL : ∀ q ∈ L, (0 ≤ q.f ∧ q.f < n) ∧ 0 ≤ q.t ∧ q.t < n) : Calls Tryz.prog 33 #[.agg #[.int .i64 (n : Int), v]] w (ReachR L n w) := by
  obtain ⟨ii, hi, hz, hs, hb⟩ := info_parts info_bools
  have HL := Lib.hid hL
  obtain ⟨ao, cap, rfl, _, _, hc⟩ := EdsV.facts h
  have HC := Lib.hid hc
  have hmk := makeBools (E := (n : Int)) (k := n) (by omega) (by omega) (by omega)
  clear h hc hL
  go_enter Tryz.func33, Tryz.ntmps33
  go_wp2_with fail
  refine wp_hold (fun W => Fx No w W ∧ W.heap.size = w.heap.size + 1 ∧ W.cell? ⟨w.heap.size, 0, none⟩ = some (.int .i64 (n : Int)) ∧ W.cell? ⟨w.heap.size, 1, none⟩ = some (.slice ao L.length cap)) ⟨(Fx.refl No w).alloc _, by simp, by simp, by simp⟩ ?_
  rintro w1 ⟨hF, hz1, k0, k1⟩
  obtain ⟨cb, hcb⟩ : ∃ e, e = w.heap.size := ⟨_, rfl⟩
  rw [← hcb] at hz1 k0 k1 ⊢
  have HF := Lib.hid hF
  have HK0 := Lib.hid k0
  have HK1 := Lib.hid k1
  have hcw : w.heap.size ≤ w1.heap.size := hF.size
  have hcb1 : cb < w1.heap.size := by omega
  clear hF hcb k0 k1 hz1
  go_loopw [3, 4] (fun vs i ws => ∃ (k : Nat) (B : Nat → Nat), i = .int .i64 k ∧ k ≤ n ∧ MatS w1 ws w1.heap.size n k vs B) (fun _ i _ => n - (intOf i).toNat)
  case atStart => exact ⟨0, fun _ => 0, rfl, Nat.zero_le _, ⟨Fx.refl _ _, World.ownsRow_nil _ _ _ _, fun i j hi => by omega, fun i j hi => by omega, fun i g hi => by omega, Nat.le_refl _, Nat.le_refl _, fun i hi => by omega⟩⟩
  case round =>
    obtain ⟨k, B, rfl, hk, hM⟩ := hrel
    have HM := Lib.hid hM
    have k0 := hM.fx.cell' HK0.out (fun h => h)
    have k1 := hM.fx.cell' HK1.out (fun h => h)
    have hlow := hM.low.2.1
    clear hM
    by_cases hlt : k < n
    · have hkn : (k : Int) < (n : Int) := by omega
      have hcbr : cb < wr.heap.size := by omega
      have HLit : Hid (SlV ((wr.alloc (.cells (zeroBools n) 4)).alloc (.cells #[.slice (some ⟨wr.heap.size, 0, none⟩) n n] 63)) (fun _ => True) (.slice (some ⟨wr.heap.size + 1, 0, none⟩) 1 1) 1 1 [.slice (some ⟨wr.heap.size, 0, none⟩) n n]) := Lib.hid (by
        have := SlV.lit (wr.alloc (.cells (zeroBools n) 4)) 63 #[.slice (some ⟨wr.heap.size, 0, none⟩) n n] 1 1 rfl (by unfold maxLen; omega)
        rw [World.size_alloc] at this
        exact this)
      go_wp2_with (at_builtin; refine wpList_append_kept rfl _ _ 61 rfl w1.heap.size 63 Tryz.underlying61 hi hz hs hb rfl (by decide) rfl (World.ownsRow.alloc (World.ownsRow.alloc HM.out.own _) _) rfl (HLit.out) (fun u hu => by rw [show u = _ from List.mem_singleton.1 hu]; rfl) (by omega) (by unfold maxLen; omega) (by omega) (by simp; omega) ?_)
      intro v' w2 ho hfx hk3 hb2
      have HM2 := Lib.hid (HM.out.step hfx ho (by simpa using hb2))
      clear ho hfx hk3 hb2
      go_wp2
      go_roundw
      case rel => exact ⟨k + 1, _, by go_num, by omega, HM2.out⟩
      case measure => simp [intOf]; omega
    · obtain rfl : n = k := by omega
      obtain ⟨gO, hm0⟩ := HM.out.mat
      obtain ⟨vO, vcap, rfl, hvO, _⟩ := hm0.shape
      have HM0 := Lib.hid hm0
      have HVO := Lib.hid hvO
      have HFm : Hid (Fx (fun x => w1.heap.size ≤ x) w1 wr) := Lib.hid HM.out.fx.no
      clear hm0 hmk hvO k0 k1
      have k0 := HFm.out.cell' HK0.out (fun h => by have h : w1.heap.size ≤ cb := h; omega)
      have k1 := HFm.out.cell' HK1.out (fun h => by have h : w1.heap.size ≤ cb := h; omega)
      go_wp2
      go_loopw [5] (fun i ws => ∃ (q : Nat) (g : Nat → Nat → Bool), i = .int .i64 q ∧ q ≤ L.length ∧ Fx (fun x => w1.heap.size ≤ x) w1 ws ∧ Mat ws w1.heap.size n (.slice vO n vcap) gO B g ∧ ∀ a b, a < n → b < n → (g a b = true ↔ EG (L.take q) a b)) (fun i _ => L.length - (intOf i).toNat)
      case atStart => exact ⟨0, _, rfl, Nat.zero_le _, HFm.out, HM0.out, fun a b _ _ => by simp [EG]⟩
      case round =>
        obtain ⟨q, g, rfl, hq, hf, hm, hg⟩ := hrel
        have HFq := Lib.hid hf
        have HMq := Lib.hid hm
        have HG := Lib.hid hg
        clear k0 k1
        have k0 := hf.cell' HK0.out (fun h => by have h : w1.heap.size ≤ cb := h; omega)
        have k1 := hf.cell' HK1.out (fun h => by have h : w1.heap.size ≤ cb := h; omega)
        clear hf hm hg
        by_cases hql : q < L.length
        · obtain ⟨b, o, rfl, _, p1, p2, p3⟩ := HC.out q hql
          have hbw := World.block_lt_of_cell? w _ p1
          have hbw : b < w.heap.size := hbw
          have p1 := HFq.out.cell' (HF.out.cell' p1 (fun h => h)) (fun h => by have h : w1.heap.size ≤ b := h; omega)
          have p2 := HFq.out.cell' (HF.out.cell' p2 (fun h => h)) (fun h => by have h : w1.heap.size ≤ b := h; omega)
          obtain ⟨⟨x0, x1⟩, y0, y1⟩ := HL.out _ (gt_mem hql)
          obtain ⟨x, hx⟩ := Int.eq_ofNat_of_zero_le x0
          obtain ⟨y, hy⟩ := Int.eq_ofNat_of_zero_le y0
          rw [hx] at p1 x1
          rw [hy] at p2 y1
          have HTk : Hid (L.take (q + 1) = L.take q ++ [gt L q]) := Lib.hid (take_gt hql)
          have HX := Lib.hid hx
          have HY := Lib.hid hy
          clear p3
          have hxn : x < n := by omega
          have hyn : y < n := by omega
          clear hx hy x0 y0
          obtain rfl := HVO.out (by omega)
          have r1 := HMq.out.row x hxn
          obtain ⟨s1, s2⟩ := HMq.out.cel x y hxn hyn
          have HBl : Hid (w1.heap.size ≤ B x) := Lib.hid (HMq.out.low x hxn).2
          have hql2 : (q : Int) < (L.length : Int) := by omega
          have hx0 : (0 : Int) ≤ (x : Int) := by omega
          have hy0 : (0 : Int) ≤ (y : Int) := by omega
          go_wp2_with fail
          go_region
          all_goals
            have HM2 : Hid (Mat (wr.setCell ⟨B x, y, none⟩ (.bool true)).drew w1.heap.size n (.slice (some ⟨gO, 0, none⟩) n vcap) gO B (setG g x y true)) := Lib.hid ((HMq.out.set hxn hyn true).fx (S := No) ((Fx.refl No _).drew) (fun _ _ h => h))
            have HF2 : Hid (Fx (fun x => w1.heap.size ≤ x) w1 (wr.setCell ⟨B x, y, none⟩ (.bool true)).drew) := Lib.hid ((HFq.out.setCell (.inr HBl.out) _).drew)
            generalize (wr.setCell ⟨B x, y, none⟩ (.bool true)).drew = wn at *
            clear k0 k1 p1 p2 r1 s1 s2
            go_wp2
            go_roundw
            case rel => exact ⟨q + 1, _, by go_num, by omega, HF2.out, HM2.out, fun a b ha hb => by
              rw [HTk.out]
              unfold setG EG
              by_cases e : a = x ∧ b = y
              · obtain ⟨rfl, rfl⟩ := e
                rw [if_pos ⟨rfl, rfl⟩]
                exact ⟨fun _ => ⟨gt L q, by simp, HX.out, HY.out⟩, fun _ => rfl⟩
              · rw [if_neg e]
                have := HG.out a b ha hb
                unfold EG at this
                rw [this]
                constructor
                · rintro ⟨z, hz, h1, h2⟩; exact ⟨z, List.mem_append_left _ hz, h1, h2⟩
                · rintro ⟨z, hz, h1, h2⟩
                  rcases List.mem_append.1 hz with h | h
                  · exact ⟨z, h, h1, h2⟩
                  · rw [List.mem_singleton] at h
                    subst h
                    rw [HX.out] at h1
                    rw [HY.out] at h2
                    exact absurd ⟨by omega, by omega⟩ e⟩
            case measure => simp [intOf]; omega
        · have hqe : L.take q = L := by rw [show q = L.length by omega, List.take_length]
          have HG : Hid (∀ a b, a < n → b < n → (g a b = true ↔ EG L a b)) := Lib.hid (by rw [← hqe]; exact HG.out)
          have hd2 : decide ((q : Int) < (L.length : Int)) = false := decide_eq_false (by omega)
          have hd3 : decide (q < L.length) = false := decide_eq_false hql
          have HeL : Hid (∀ i j, EG L i j → i < n ∧ j < n) := Lib.hid fun i j h => by
            obtain ⟨z, hz, h3, h4⟩ := h
            obtain ⟨⟨_, h1⟩, _, h2⟩ := HL.out z hz
            exact ⟨by omega, by omega⟩
          clear hqe hql
          go_wp2
          go_loopw [6, 7, 8] (fun k _ _ ws => ∃ (K : Nat) (g : Nat → Nat → Bool), k = .int .i64 K ∧ K ≤ n ∧ Fx (fun x => w1.heap.size ≤ x) w1 ws ∧ Mat ws w1.heap.size n (.slice vO n vcap) gO B g ∧ Inv (EG L) n K 0 0 g) (fun k _ _ _ => n - (intOf k).toNat)
          case atStart => exact ⟨0, g, rfl, Nat.zero_le _, HFq.out, HMq.out, fun a b ha hb => ⟨fun h => .one ((HG.out a b ha hb).1 h), fun h => (HG.out a b ha hb).2 h, fun h => by omega⟩⟩
          case round =>
            obtain ⟨K, g1, rfl, hK, hf, hm, hg⟩ := hrel
            have HFk := Lib.hid hf
            have HMk := Lib.hid hm
            have HI := Lib.hid hg
            clear k0 k1
            have k0 := hf.cell' HK0.out (fun h => by have h : w1.heap.size ≤ cb := h; omega)
            clear hf hm hg
            by_cases hKl : K < n
            · have hKn : (K : Int) < (n : Int) := by omega
              go_wp2
              go_loopw [7, 8] (fun i _ ws => ∃ (I : Nat) (g : Nat → Nat → Bool), i = .int .i64 I ∧ I ≤ n ∧ Fx (fun x => w1.heap.size ≤ x) w1 ws ∧ Mat ws w1.heap.size n (.slice vO n vcap) gO B g ∧ Inv (EG L) n K I 0 g) (fun i _ _ => n - (intOf i).toNat)
              case atStart => exact ⟨0, g1, rfl, Nat.zero_le _, HFk.out, HMk.out, HI.out⟩
              case round =>
                obtain ⟨I, g2, rfl, hI, hf, hm, hg⟩ := hrel
                have HFi := Lib.hid hf
                have HMi := Lib.hid hm
                have HIi := Lib.hid hg
                clear k0
                have k0 := hf.cell' HK0.out (fun h => by have h : w1.heap.size ≤ cb := h; omega)
                clear hf hm hg
                by_cases hIl : I < n
                · have hIn : (I : Int) < (n : Int) := by omega
                  go_wp2
                  go_loopw [8] (fun m ws => ∃ (M : Nat) (g : Nat → Nat → Bool), m = .int .i64 M ∧ M ≤ n ∧ Fx (fun x => w1.heap.size ≤ x) w1 ws ∧ Mat ws w1.heap.size n (.slice vO n vcap) gO B g ∧ Inv (EG L) n K I M g) (fun m _ => n - (intOf m).toNat)
                  case atStart => exact ⟨0, g2, rfl, Nat.zero_le _, HFi.out, HMi.out, HIi.out⟩
                  case round =>
                    obtain ⟨M, g3, rfl, hM', hf, hm, hg⟩ := hrel
                    have HFm3 := Lib.hid hf
                    have HM3 := Lib.hid hm
                    have HI3 := Lib.hid hg
                    clear k0
                    have k0 := hf.cell' HK0.out (fun h => by have h : w1.heap.size ≤ cb := h; omega)
                    clear hf hm hg
                    by_cases hMl : M < n
                    · have hMn : (M : Int) < (n : Int) := by omega
                      obtain rfl := HVO.out (by omega)
                      have r1 := HM3.out.row I hIl
                      have r2 := HM3.out.row K hKl
                      obtain ⟨s1, s1'⟩ := HM3.out.cel I M hIl hMl
                      have s2 := (HM3.out.cel I K hIl hKl).1
                      have s3 := (HM3.out.cel K M hKl hMl).1
                      obtain ⟨ta, hta⟩ : ∃ t, t = g3 I M := ⟨_, rfl⟩
                      obtain ⟨tb, htb⟩ : ∃ t, t = g3 I K := ⟨_, rfl⟩
                      obtain ⟨tc, htc⟩ : ∃ t, t = g3 K M := ⟨_, rfl⟩
                      rw [← hta] at s1
                      rw [← htb] at s2
                      rw [← htc] at s3
                      have HBl : Hid (w1.heap.size ≤ B I) := Lib.hid (HM3.out.low I hIl).2
                      have HI4 : Hid (Inv (EG L) n K I (M + 1) (setG g3 I M (ta || (tb && tc)))) := Lib.hid (by rw [hta, htb, htc]; exact HI3.out.step hKl hIl hMl)
                      have HM4 : Hid (∀ t, Mat (wr.setCell ⟨B I, M, none⟩ (.bool t)) w1.heap.size n (.slice (some ⟨gO, 0, none⟩) n vcap) gO B (setG g3 I M t)) := Lib.hid fun t => HM3.out.set hIl hMl t
                      have h0I : (0 : Int) ≤ (I : Int) := by omega
                      have h0K : (0 : Int) ≤ (K : Int) := by omega
                      have h0M : (0 : Int) ≤ (M : Int) := by omega
                      clear hta htb htc
                      cases ta
                      · cases tb
                        · skip
                          go_wp2_with fail
                          refine wp_region_G 31 (fun b W => b = false → W = wr.drew) (by kernel_rfl) (fun _ => rfl) ?_
                          intro hS hC
                          refine wpG_take (i := 0) (v := ?_) rfl (by kernel_rfl) (by kernel_rfl) (by kernel_rfl) (by kernel_rfl) (fun _ _ _ h => h) (by decide) (Or.inl ⟨by rfl, ?_⟩) hC hS ?_
                          rotate_left
                          · (intro W hc; obtain rfl := hc rfl; go_simp; first | done | with_reducible rfl)
                          clear hS hC
                          intro hS hC
                          try simp only [Act.put, List.getElem_toArray, List.getElem_cons_zero, List.getElem_cons_succ, List.setIfInBounds_toArray, List.set_cons_zero, List.set_cons_succ]
                          refine wpG_take (i := 1) (v := ?_) rfl (by kernel_rfl) (by kernel_rfl) (by kernel_rfl) (by kernel_rfl) (fun _ _ _ h => h) (by decide) (Or.inl ⟨by rfl, ?_⟩) hC hS ?_
                          rotate_left
                          · (intro W hc; obtain rfl := hc rfl; go_simp; first | done | with_reducible rfl)
                          clear hS hC
                          intro hS hC
                          try simp only [Act.put, List.getElem_toArray, List.getElem_cons_zero, List.getElem_cons_succ, List.setIfInBounds_toArray, List.set_cons_zero, List.set_cons_succ]
                          refine wpG_take (i := 2) (v := ?_) rfl (by kernel_rfl) (by kernel_rfl) (by kernel_rfl) (by kernel_rfl) (fun _ _ _ h => h) (by decide) (Or.inl ⟨by rfl, ?_⟩) hC hS ?_
                          rotate_left
                          · (intro W hc; obtain rfl := hc rfl; go_simp; first | done | with_reducible rfl)
                          clear hS hC
                          intro hS hC
                          try simp only [Act.put, List.getElem_toArray, List.getElem_cons_zero, List.getElem_cons_succ, List.setIfInBounds_toArray, List.set_cons_zero, List.set_cons_succ]
                          refine wpG_take (i := 3) (v := ?_) rfl (by kernel_rfl) (by kernel_rfl) (by kernel_rfl) (by kernel_rfl) (fun _ _ _ h => h) (by decide) (Or.inl ⟨by rfl, ?_⟩) hC hS ?_
                          rotate_left
                          · (intro W hc; obtain rfl := hc rfl; go_simp; first | done | with_reducible rfl)
                          clear hS hC
                          intro hS hC
                          try simp only [Act.put, List.getElem_toArray, List.getElem_cons_zero, List.getElem_cons_succ, List.setIfInBounds_toArray, List.set_cons_zero, List.set_cons_succ]
                          refine wpG_take (i := 4) (v := ?_) rfl (by kernel_rfl) (by kernel_rfl) (by kernel_rfl) (by kernel_rfl) (fun _ _ _ h => h) (by decide) (Or.inl ⟨by rfl, ?_⟩) hC hS ?_
                          rotate_left
                          · (intro W hc; obtain rfl := hc rfl; go_simp; first | done | with_reducible rfl)
                          clear hS hC
                          intro hS hC
                          try simp only [Act.put, List.getElem_toArray, List.getElem_cons_zero, List.getElem_cons_succ, List.setIfInBounds_toArray, List.set_cons_zero, List.set_cons_succ]
                          refine wpG_take (i := 5) (v := ?_) rfl (by kernel_rfl) (by kernel_rfl) (by kernel_rfl) (by kernel_rfl) (fun _ _ _ h => h) (by decide) (Or.inl ⟨by rfl, ?_⟩) hC hS ?_
                          rotate_left
                          · (intro W hc; obtain rfl := hc rfl; go_simp; first | done | with_reducible rfl)
                          clear hS hC
                          intro hS hC
                          try simp only [Act.put, List.getElem_toArray, List.getElem_cons_zero, List.getElem_cons_succ, List.setIfInBounds_toArray, List.set_cons_zero, List.set_cons_succ]
                          refine wpG_take (i := 6) (v := ?_) rfl (by kernel_rfl) (by kernel_rfl) (by kernel_rfl) (by kernel_rfl) (fun _ _ _ h => h) (by decide) (Or.inl ⟨by rfl, ?_⟩) hC hS ?_
                          rotate_left
                          · (intro W hc; obtain rfl := hc rfl; go_simp; first | done | with_reducible rfl)
                          clear hS hC
                          intro hS hC
                          try simp only [Act.put, List.getElem_toArray, List.getElem_cons_zero, List.getElem_cons_succ, List.setIfInBounds_toArray, List.set_cons_zero, List.set_cons_succ]
                          refine wpG_take (i := 7) (v := ?_) rfl (by kernel_rfl) (by kernel_rfl) (by kernel_rfl) (by kernel_rfl) (fun _ _ _ h => h) (by decide) (Or.inl ⟨by rfl, ?_⟩) hC hS ?_
                          rotate_left
                          · (intro W hc; obtain rfl := hc rfl; go_simp; first | done | with_reducible rfl)
                          clear hS hC
                          intro hS hC
                          try simp only [Act.put, List.getElem_toArray, List.getElem_cons_zero, List.getElem_cons_succ, List.setIfInBounds_toArray, List.set_cons_zero, List.set_cons_succ]
                          refine wpG_take (i := 8) (v := ?_) rfl (by kernel_rfl) (by kernel_rfl) (by kernel_rfl) (by kernel_rfl) (fun _ _ _ h => h) (by decide) (Or.inl ⟨by rfl, ?_⟩) hC hS ?_
                          rotate_left
                          · (intro W hc; obtain rfl := hc rfl; go_simp; first | done | with_reducible rfl)
                          clear hS hC
                          intro hS hC
                          try simp only [Act.put, List.getElem_toArray, List.getElem_cons_zero, List.getElem_cons_succ, List.setIfInBounds_toArray, List.set_cons_zero, List.set_cons_succ]
                          refine wpG_take (i := 9) (v := ?_) rfl (by kernel_rfl) (by kernel_rfl) (by kernel_rfl) (by kernel_rfl) (fun _ _ _ h => h) (by decide) (Or.inl ⟨by rfl, ?_⟩) hC hS ?_
                          rotate_left
                          · (intro W hc; obtain rfl := hc rfl; go_simp; first | done | with_reducible rfl)
                          clear hS hC
                          intro hS hC
                          try simp only [Act.put, List.getElem_toArray, List.getElem_cons_zero, List.getElem_cons_succ, List.setIfInBounds_toArray, List.set_cons_zero, List.set_cons_succ]
                          refine wpG_take (i := 10) (v := ?_) rfl (by kernel_rfl) (by kernel_rfl) (by kernel_rfl) (by kernel_rfl) (fun _ _ _ h => h) (by decide) (Or.inl ⟨by rfl, ?_⟩) hC hS ?_
                          rotate_left
                          · (intro W hc; obtain rfl := hc rfl; go_simp; first | done | with_reducible rfl)
                          clear hS hC
                          intro hS hC
                          try simp only [Act.put, List.getElem_toArray, List.getElem_cons_zero, List.getElem_cons_succ, List.setIfInBounds_toArray, List.set_cons_zero, List.set_cons_succ]
                          refine wpG_take (i := 11) (v := ?_) rfl (by kernel_rfl) (by kernel_rfl) (by kernel_rfl) (by kernel_rfl) (fun _ _ _ h => h) (by decide) (Or.inl ⟨by rfl, ?_⟩) hC hS ?_
                          rotate_left
                          · (intro W hc; obtain rfl := hc rfl; go_simp; first | done | with_reducible rfl)
                          clear hS hC
                          intro hS hC
                          try simp only [Act.put, List.getElem_toArray, List.getElem_cons_zero, List.getElem_cons_succ, List.setIfInBounds_toArray, List.set_cons_zero, List.set_cons_succ]
                          refine wpG_take (i := 12) (v := ?_) rfl (by kernel_rfl) (by kernel_rfl) (by kernel_rfl) (by kernel_rfl) (fun _ _ _ h => h) (by decide) (Or.inl ⟨by rfl, ?_⟩) hC hS ?_
                          rotate_left
                          · (intro W hc; obtain rfl := hc rfl; go_simp; first | done | with_reducible rfl)
                          clear hS hC
                          intro hS hC
                          try simp only [Act.put, List.getElem_toArray, List.getElem_cons_zero, List.getElem_cons_succ, List.setIfInBounds_toArray, List.set_cons_zero, List.set_cons_succ]
                          refine wpG_take (i := 13) (v := ?_) rfl (by kernel_rfl) (by kernel_rfl) (by kernel_rfl) (by kernel_rfl) (fun _ _ _ h => h) (by decide) (Or.inl ⟨by rfl, ?_⟩) hC hS ?_
                          rotate_left
                          · (intro W hc; obtain rfl := hc rfl; go_simp; first | done | with_reducible rfl)
                          clear hS hC
                          intro hS hC
                          try simp only [Act.put, List.getElem_toArray, List.getElem_cons_zero, List.getElem_cons_succ, List.setIfInBounds_toArray, List.set_cons_zero, List.set_cons_succ]
                          refine wpG_take (i := 14) (v := ?_) rfl (by kernel_rfl) (by kernel_rfl) (by kernel_rfl) (by kernel_rfl) (fun _ _ _ h => h) (by decide) (Or.inl ⟨by rfl, ?_⟩) hC hS ?_
                          rotate_left
                          · (intro W hc; obtain rfl := hc rfl; go_simp; first | done | with_reducible rfl)
                          clear hS hC
                          intro hS hC
                          try simp only [Act.put, List.getElem_toArray, List.getElem_cons_zero, List.getElem_cons_succ, List.setIfInBounds_toArray, List.set_cons_zero, List.set_cons_succ]
                          refine wpG_take (i := 15) (v := ?_) rfl (by kernel_rfl) (by kernel_rfl) (by kernel_rfl) (by kernel_rfl) (fun _ _ _ h => h) (by decide) (Or.inl ⟨by rfl, ?_⟩) hC hS ?_
                          rotate_left
                          · (intro W hc; obtain rfl := hc rfl; go_simp; first | done | with_reducible rfl)
                          clear hS hC
                          intro hS hC
                          try simp only [Act.put, List.getElem_toArray, List.getElem_cons_zero, List.getElem_cons_succ, List.setIfInBounds_toArray, List.set_cons_zero, List.set_cons_succ]
                          refine wpG_take (i := 16) (v := ?_) rfl (by kernel_rfl) (by kernel_rfl) (by kernel_rfl) (by kernel_rfl) (fun _ _ _ h => h) (by decide) (Or.inl ⟨by rfl, ?_⟩) hC hS ?_
                          rotate_left
                          · (intro W hc; obtain rfl := hc rfl; go_simp; first | done | with_reducible rfl)
                          clear hS hC
                          intro hS hC
                          try simp only [Act.put, List.getElem_toArray, List.getElem_cons_zero, List.getElem_cons_succ, List.setIfInBounds_toArray, List.set_cons_zero, List.set_cons_succ]
                          refine wpG_take (i := 17) (v := ?_) rfl (by kernel_rfl) (by kernel_rfl) (by kernel_rfl) (by kernel_rfl) (fun _ _ _ h => h) (by decide) (Or.inl ⟨by rfl, ?_⟩) hC hS ?_
                          rotate_left
                          · (intro W hc; obtain rfl := hc rfl; go_simp; first | done | with_reducible rfl)
                          clear hS hC
                          intro hS hC
                          try simp only [Act.put, List.getElem_toArray, List.getElem_cons_zero, List.getElem_cons_succ, List.setIfInBounds_toArray, List.set_cons_zero, List.set_cons_succ]
                          refine wpG_take (i := 18) (v := ?_) rfl (by kernel_rfl) (by kernel_rfl) (by kernel_rfl) (by kernel_rfl) (fun _ _ _ h => h) (by decide) (Or.inl ⟨by rfl, ?_⟩) hC hS ?_
                          rotate_left
                          · (intro W hc; obtain rfl := hc rfl; go_simp; first | done | with_reducible rfl)
                          clear hS hC
                          intro hS hC
                          try simp only [Act.put, List.getElem_toArray, List.getElem_cons_zero, List.getElem_cons_succ, List.setIfInBounds_toArray, List.set_cons_zero, List.set_cons_succ]
                          refine wpG_take (i := 19) (v := ?_) rfl (by kernel_rfl) (by kernel_rfl) (by kernel_rfl) (by kernel_rfl) (fun _ _ _ h => h) (by decide) (Or.inl ⟨by rfl, ?_⟩) hC hS ?_
                          rotate_left
                          · (intro W hc; obtain rfl := hc rfl; go_simp; first | done | with_reducible rfl)
                          clear hS hC
                          intro hS hC
                          try simp only [Act.put, List.getElem_toArray, List.getElem_cons_zero, List.getElem_cons_succ, List.setIfInBounds_toArray, List.set_cons_zero, List.set_cons_succ]
                          refine wpG_take (i := 20) (v := ?_) rfl (by kernel_rfl) (by kernel_rfl) (by kernel_rfl) (by kernel_rfl) (fun _ _ _ h => h) (by decide) (Or.inl ⟨by rfl, ?_⟩) hC hS ?_
                          rotate_left
                          · (intro W hc; obtain rfl := hc rfl; go_simp; first | done | with_reducible rfl)
                          clear hS hC
                          intro hS hC
                          try simp only [Act.put, List.getElem_toArray, List.getElem_cons_zero, List.getElem_cons_succ, List.setIfInBounds_toArray, List.set_cons_zero, List.set_cons_succ]
                          refine wpG_take (i := 21) (v := undef) rfl (by kernel_rfl) (by kernel_rfl) (by kernel_rfl) (by kernel_rfl) (fun _ _ _ h => h) (by decide) (Or.inr ⟨by rfl, rfl⟩) hC hS ?_
                          clear hS hC
                          intro hS hC
                          try simp only [Act.put, List.getElem_toArray, List.getElem_cons_zero, List.getElem_cons_succ, List.setIfInBounds_toArray, List.set_cons_zero, List.set_cons_succ]
                          refine wpG_take (i := 22) (v := undef) rfl (by kernel_rfl) (by kernel_rfl) (by kernel_rfl) (by kernel_rfl) (fun _ _ _ h => h) (by decide) (Or.inr ⟨by rfl, rfl⟩) hC hS ?_
                          clear hS hC
                          intro hS hC
                          try simp only [Act.put, List.getElem_toArray, List.getElem_cons_zero, List.getElem_cons_succ, List.setIfInBounds_toArray, List.set_cons_zero, List.set_cons_succ]
                          refine wpG_take (i := 23) (v := undef) rfl (by kernel_rfl) (by kernel_rfl) (by kernel_rfl) (by kernel_rfl) (fun _ _ _ h => h) (by decide) (Or.inr ⟨by rfl, rfl⟩) hC hS ?_
                          clear hS hC
                          intro hS hC
                          try simp only [Act.put, List.getElem_toArray, List.getElem_cons_zero, List.getElem_cons_succ, List.setIfInBounds_toArray, List.set_cons_zero, List.set_cons_succ]
                          refine wpG_take (i := 24) (v := undef) rfl (by kernel_rfl) (by kernel_rfl) (by kernel_rfl) (by kernel_rfl) (fun _ _ _ h => h) (by decide) (Or.inr ⟨by rfl, rfl⟩) hC hS ?_
                          clear hS hC
                          intro hS hC
                          try simp only [Act.put, List.getElem_toArray, List.getElem_cons_zero, List.getElem_cons_succ, List.setIfInBounds_toArray, List.set_cons_zero, List.set_cons_succ]
                          refine wpG_take (i := 25) (v := undef) rfl (by kernel_rfl) (by kernel_rfl) (by kernel_rfl) (by kernel_rfl) (fun _ _ _ h => h) (by decide) (Or.inr ⟨by rfl, rfl⟩) hC hS ?_
                          clear hS hC
                          intro hS hC
                          try simp only [Act.put, List.getElem_toArray, List.getElem_cons_zero, List.getElem_cons_succ, List.setIfInBounds_toArray, List.set_cons_zero, List.set_cons_succ]
                          refine wpG_take (i := 26) (v := undef) rfl (by kernel_rfl) (by kernel_rfl) (by kernel_rfl) (by kernel_rfl) (fun _ _ _ h => h) (by decide) (Or.inr ⟨by rfl, rfl⟩) hC hS ?_
                          clear hS hC
                          intro hS hC
                          try simp only [Act.put, List.getElem_toArray, List.getElem_cons_zero, List.getElem_cons_succ, List.setIfInBounds_toArray, List.set_cons_zero, List.set_cons_succ]
                          refine wpG_take (i := 27) (v := undef) rfl (by kernel_rfl) (by kernel_rfl) (by kernel_rfl) (by kernel_rfl) (fun _ _ _ h => h) (by decide) (Or.inr ⟨by rfl, rfl⟩) hC hS ?_
                          clear hS hC
                          intro hS hC
                          try simp only [Act.put, List.getElem_toArray, List.getElem_cons_zero, List.getElem_cons_succ, List.setIfInBounds_toArray, List.set_cons_zero, List.set_cons_succ]
                          refine wpG_take (i := 28) (v := ?_) rfl (by kernel_rfl) (by kernel_rfl) (by kernel_rfl) (by kernel_rfl) (fun _ _ _ h => h) (by decide) (Or.inl ⟨by rfl, ?_⟩) hC hS ?_
                          rotate_left
                          · (intro W hc; obtain rfl := hc rfl; go_simp; first | done | with_reducible rfl)
                          clear hS hC
                          intro hS hC
                          try simp only [Act.put, List.getElem_toArray, List.getElem_cons_zero, List.getElem_cons_succ, List.setIfInBounds_toArray, List.set_cons_zero, List.set_cons_succ]
                          refine wpG_take (i := 29) (v := ?_) rfl (by kernel_rfl) (by kernel_rfl) (by kernel_rfl) (by kernel_rfl) (fun _ _ _ h => h) (by decide) (Or.inl ⟨by rfl, ?_⟩) hC hS ?_
                          rotate_left
                          · (intro W hc; obtain rfl := hc rfl; go_simp; first | done | with_reducible rfl)
                          clear hS hC
                          intro hS hC
                          try simp only [Act.put, List.getElem_toArray, List.getElem_cons_zero, List.getElem_cons_succ, List.setIfInBounds_toArray, List.set_cons_zero, List.set_cons_succ]
                          refine wpG_take (i := 30) (v := ?_) rfl (by kernel_rfl) (by kernel_rfl) (by kernel_rfl) (by kernel_rfl) (fun _ _ _ h => h) (by decide) (Or.inl ⟨by rfl, ?_⟩) hC hS ?_
                          rotate_left
                          · (intro W hc; obtain rfl := hc rfl; go_simp; first | done | with_reducible rfl)
                          clear hS hC
                          intro hS hC
                          try simp only [Act.put, List.getElem_toArray, List.getElem_cons_zero, List.getElem_cons_succ, List.setIfInBounds_toArray, List.set_cons_zero, List.set_cons_succ]
                          refine wpG_one (i := 31) (by kernel_rfl) rfl hC (fun K hK => ?_)
                          go_simp
                          refine hK.out _ _ (fun h => absurd h (by decide +kernel)) (fun _ _ => ?_)
                          clear hK K hS hC
                          refine wpG_done (by kernel_rfl) ?_ _
                          have HMn : Hid (Mat (wr.setCell ⟨B I, M, none⟩ (.bool false)).drew w1.heap.size n (.slice (some ⟨gO, 0, none⟩) n vcap) gO B (setG g3 I M false)) := Lib.hid ((HM4.out false).fx (S := No) ((Fx.refl No _).drew) (fun _ _ h => h))
                          have HFn : Hid (Fx (fun x => w1.heap.size ≤ x) w1 (wr.setCell ⟨B I, M, none⟩ (.bool false)).drew) := Lib.hid ((HFm3.out.setCell (.inr HBl.out) _).drew)
                          have HIn : Hid (Inv (EG L) n K I (M + 1) (setG g3 I M false)) := HI4
                          generalize (wr.setCell ⟨B I, M, none⟩ (.bool false)).drew = wn at *
                          clear k0 r1 r2 s1 s1' s2 s3
                          go_wp2
                          go_roundw
                          case rel => exact ⟨M + 1, _, by go_num, by omega, HFn.out, HMn.out, HIn.out⟩
                          case measure => simp [intOf]; omega
                        · skip
                          go_wp2_with fail
                          refine wp_region_G 31 (fun b W => b = false → W = wr.drew) (by kernel_rfl) (fun _ => rfl) ?_
                          intro hS hC
                          refine wpG_take (i := 0) (v := ?_) rfl (by kernel_rfl) (by kernel_rfl) (by kernel_rfl) (by kernel_rfl) (fun _ _ _ h => h) (by decide) (Or.inl ⟨by rfl, ?_⟩) hC hS ?_
                          rotate_left
                          · (intro W hc; obtain rfl := hc rfl; go_simp; first | done | with_reducible rfl)
                          clear hS hC
                          intro hS hC
                          try simp only [Act.put, List.getElem_toArray, List.getElem_cons_zero, List.getElem_cons_succ, List.setIfInBounds_toArray, List.set_cons_zero, List.set_cons_succ]
                          refine wpG_take (i := 1) (v := ?_) rfl (by kernel_rfl) (by kernel_rfl) (by kernel_rfl) (by kernel_rfl) (fun _ _ _ h => h) (by decide) (Or.inl ⟨by rfl, ?_⟩) hC hS ?_
                          rotate_left
                          · (intro W hc; obtain rfl := hc rfl; go_simp; first | done | with_reducible rfl)
                          clear hS hC
                          intro hS hC
                          try simp only [Act.put, List.getElem_toArray, List.getElem_cons_zero, List.getElem_cons_succ, List.setIfInBounds_toArray, List.set_cons_zero, List.set_cons_succ]
                          refine wpG_take (i := 2) (v := ?_) rfl (by kernel_rfl) (by kernel_rfl) (by kernel_rfl) (by kernel_rfl) (fun _ _ _ h => h) (by decide) (Or.inl ⟨by rfl, ?_⟩) hC hS ?_
                          rotate_left
                          · (intro W hc; obtain rfl := hc rfl; go_simp; first | done | with_reducible rfl)
                          clear hS hC
                          intro hS hC
                          try simp only [Act.put, List.getElem_toArray, List.getElem_cons_zero, List.getElem_cons_succ, List.setIfInBounds_toArray, List.set_cons_zero, List.set_cons_succ]
                          refine wpG_take (i := 3) (v := ?_) rfl (by kernel_rfl) (by kernel_rfl) (by kernel_rfl) (by kernel_rfl) (fun _ _ _ h => h) (by decide) (Or.inl ⟨by rfl, ?_⟩) hC hS ?_
                          rotate_left
                          · (intro W hc; obtain rfl := hc rfl; go_simp; first | done | with_reducible rfl)
                          clear hS hC
                          intro hS hC
                          try simp only [Act.put, List.getElem_toArray, List.getElem_cons_zero, List.getElem_cons_succ, List.setIfInBounds_toArray, List.set_cons_zero, List.set_cons_succ]
                          refine wpG_take (i := 4) (v := ?_) rfl (by kernel_rfl) (by kernel_rfl) (by kernel_rfl) (by kernel_rfl) (fun _ _ _ h => h) (by decide) (Or.inl ⟨by rfl, ?_⟩) hC hS ?_
                          rotate_left
                          · (intro W hc; obtain rfl := hc rfl; go_simp; first | done | with_reducible rfl)
                          clear hS hC
                          intro hS hC
                          try simp only [Act.put, List.getElem_toArray, List.getElem_cons_zero, List.getElem_cons_succ, List.setIfInBounds_toArray, List.set_cons_zero, List.set_cons_succ]
                          refine wpG_take (i := 5) (v := ?_) rfl (by kernel_rfl) (by kernel_rfl) (by kernel_rfl) (by kernel_rfl) (fun _ _ _ h => h) (by decide) (Or.inl ⟨by rfl, ?_⟩) hC hS ?_
                          rotate_left
                          · (intro W hc; obtain rfl := hc rfl; go_simp; first | done | with_reducible rfl)
                          clear hS hC
                          intro hS hC
                          try simp only [Act.put, List.getElem_toArray, List.getElem_cons_zero, List.getElem_cons_succ, List.setIfInBounds_toArray, List.set_cons_zero, List.set_cons_succ]
                          refine wpG_take (i := 6) (v := ?_) rfl (by kernel_rfl) (by kernel_rfl) (by kernel_rfl) (by kernel_rfl) (fun _ _ _ h => h) (by decide) (Or.inl ⟨by rfl, ?_⟩) hC hS ?_
                          rotate_left
                          · (intro W hc; obtain rfl := hc rfl; go_simp; first | done | with_reducible rfl)
                          clear hS hC
                          intro hS hC
                          try simp only [Act.put, List.getElem_toArray, List.getElem_cons_zero, List.getElem_cons_succ, List.setIfInBounds_toArray, List.set_cons_zero, List.set_cons_succ]
                          refine wpG_take (i := 7) (v := ?_) rfl (by kernel_rfl) (by kernel_rfl) (by kernel_rfl) (by kernel_rfl) (fun _ _ _ h => h) (by decide) (Or.inl ⟨by rfl, ?_⟩) hC hS ?_
                          rotate_left
                          · (intro W hc; obtain rfl := hc rfl; go_simp; first | done | with_reducible rfl)
                          clear hS hC
                          intro hS hC
                          try simp only [Act.put, List.getElem_toArray, List.getElem_cons_zero, List.getElem_cons_succ, List.setIfInBounds_toArray, List.set_cons_zero, List.set_cons_succ]
                          refine wpG_take (i := 8) (v := ?_) rfl (by kernel_rfl) (by kernel_rfl) (by kernel_rfl) (by kernel_rfl) (fun _ _ _ h => h) (by decide) (Or.inl ⟨by rfl, ?_⟩) hC hS ?_
                          rotate_left
                          · (intro W hc; obtain rfl := hc rfl; go_simp; first | done | with_reducible rfl)
                          clear hS hC
                          intro hS hC
                          try simp only [Act.put, List.getElem_toArray, List.getElem_cons_zero, List.getElem_cons_succ, List.setIfInBounds_toArray, List.set_cons_zero, List.set_cons_succ]
                          refine wpG_take (i := 9) (v := ?_) rfl (by kernel_rfl) (by kernel_rfl) (by kernel_rfl) (by kernel_rfl) (fun _ _ _ h => h) (by decide) (Or.inl ⟨by rfl, ?_⟩) hC hS ?_
                          rotate_left
                          · (intro W hc; obtain rfl := hc rfl; go_simp; first | done | with_reducible rfl)
                          clear hS hC
                          intro hS hC
                          try simp only [Act.put, List.getElem_toArray, List.getElem_cons_zero, List.getElem_cons_succ, List.setIfInBounds_toArray, List.set_cons_zero, List.set_cons_succ]
                          refine wpG_take (i := 10) (v := ?_) rfl (by kernel_rfl) (by kernel_rfl) (by kernel_rfl) (by kernel_rfl) (fun _ _ _ h => h) (by decide) (Or.inl ⟨by rfl, ?_⟩) hC hS ?_
                          rotate_left
                          · (intro W hc; obtain rfl := hc rfl; go_simp; first | done | with_reducible rfl)
                          clear hS hC
                          intro hS hC
                          try simp only [Act.put, List.getElem_toArray, List.getElem_cons_zero, List.getElem_cons_succ, List.setIfInBounds_toArray, List.set_cons_zero, List.set_cons_succ]
                          refine wpG_take (i := 11) (v := ?_) rfl (by kernel_rfl) (by kernel_rfl) (by kernel_rfl) (by kernel_rfl) (fun _ _ _ h => h) (by decide) (Or.inl ⟨by rfl, ?_⟩) hC hS ?_
                          rotate_left
                          · (intro W hc; obtain rfl := hc rfl; go_simp; first | done | with_reducible rfl)
                          clear hS hC
                          intro hS hC
                          try simp only [Act.put, List.getElem_toArray, List.getElem_cons_zero, List.getElem_cons_succ, List.setIfInBounds_toArray, List.set_cons_zero, List.set_cons_succ]
                          refine wpG_take (i := 12) (v := ?_) rfl (by kernel_rfl) (by kernel_rfl) (by kernel_rfl) (by kernel_rfl) (fun _ _ _ h => h) (by decide) (Or.inl ⟨by rfl, ?_⟩) hC hS ?_
                          rotate_left
                          · (intro W hc; obtain rfl := hc rfl; go_simp; first | done | with_reducible rfl)
                          clear hS hC
                          intro hS hC
                          try simp only [Act.put, List.getElem_toArray, List.getElem_cons_zero, List.getElem_cons_succ, List.setIfInBounds_toArray, List.set_cons_zero, List.set_cons_succ]
                          refine wpG_take (i := 13) (v := ?_) rfl (by kernel_rfl) (by kernel_rfl) (by kernel_rfl) (by kernel_rfl) (fun _ _ _ h => h) (by decide) (Or.inl ⟨by rfl, ?_⟩) hC hS ?_
                          rotate_left
                          · (intro W hc; obtain rfl := hc rfl; go_simp; first | done | with_reducible rfl)
                          clear hS hC
                          intro hS hC
                          try simp only [Act.put, List.getElem_toArray, List.getElem_cons_zero, List.getElem_cons_succ, List.setIfInBounds_toArray, List.set_cons_zero, List.set_cons_succ]
                          refine wpG_take (i := 14) (v := ?_) rfl (by kernel_rfl) (by kernel_rfl) (by kernel_rfl) (by kernel_rfl) (fun _ _ _ h => h) (by decide) (Or.inl ⟨by rfl, ?_⟩) hC hS ?_
                          rotate_left
                          · (intro W hc; obtain rfl := hc rfl; go_simp; first | done | with_reducible rfl)
                          clear hS hC
                          intro hS hC
                          try simp only [Act.put, List.getElem_toArray, List.getElem_cons_zero, List.getElem_cons_succ, List.setIfInBounds_toArray, List.set_cons_zero, List.set_cons_succ]
                          refine wpG_take (i := 15) (v := ?_) rfl (by kernel_rfl) (by kernel_rfl) (by kernel_rfl) (by kernel_rfl) (fun _ _ _ h => h) (by decide) (Or.inl ⟨by rfl, ?_⟩) hC hS ?_
                          rotate_left
                          · (intro W hc; obtain rfl := hc rfl; go_simp; first | done | with_reducible rfl)
                          clear hS hC
                          intro hS hC
                          try simp only [Act.put, List.getElem_toArray, List.getElem_cons_zero, List.getElem_cons_succ, List.setIfInBounds_toArray, List.set_cons_zero, List.set_cons_succ]
                          refine wpG_take (i := 16) (v := ?_) rfl (by kernel_rfl) (by kernel_rfl) (by kernel_rfl) (by kernel_rfl) (fun _ _ _ h => h) (by decide) (Or.inl ⟨by rfl, ?_⟩) hC hS ?_
                          rotate_left
                          · (intro W hc; obtain rfl := hc rfl; go_simp; first | done | with_reducible rfl)
                          clear hS hC
                          intro hS hC
                          try simp only [Act.put, List.getElem_toArray, List.getElem_cons_zero, List.getElem_cons_succ, List.setIfInBounds_toArray, List.set_cons_zero, List.set_cons_succ]
                          refine wpG_take (i := 17) (v := ?_) rfl (by kernel_rfl) (by kernel_rfl) (by kernel_rfl) (by kernel_rfl) (fun _ _ _ h => h) (by decide) (Or.inl ⟨by rfl, ?_⟩) hC hS ?_
                          rotate_left
                          · (intro W hc; obtain rfl := hc rfl; go_simp; first | done | with_reducible rfl)
                          clear hS hC
                          intro hS hC
                          try simp only [Act.put, List.getElem_toArray, List.getElem_cons_zero, List.getElem_cons_succ, List.setIfInBounds_toArray, List.set_cons_zero, List.set_cons_succ]
                          refine wpG_take (i := 18) (v := ?_) rfl (by kernel_rfl) (by kernel_rfl) (by kernel_rfl) (by kernel_rfl) (fun _ _ _ h => h) (by decide) (Or.inl ⟨by rfl, ?_⟩) hC hS ?_
                          rotate_left
                          · (intro W hc; obtain rfl := hc rfl; go_simp; first | done | with_reducible rfl)
                          clear hS hC
                          intro hS hC
                          try simp only [Act.put, List.getElem_toArray, List.getElem_cons_zero, List.getElem_cons_succ, List.setIfInBounds_toArray, List.set_cons_zero, List.set_cons_succ]
                          refine wpG_take (i := 19) (v := ?_) rfl (by kernel_rfl) (by kernel_rfl) (by kernel_rfl) (by kernel_rfl) (fun _ _ _ h => h) (by decide) (Or.inl ⟨by rfl, ?_⟩) hC hS ?_
                          rotate_left
                          · (intro W hc; obtain rfl := hc rfl; go_simp; first | done | with_reducible rfl)
                          clear hS hC
                          intro hS hC
                          try simp only [Act.put, List.getElem_toArray, List.getElem_cons_zero, List.getElem_cons_succ, List.setIfInBounds_toArray, List.set_cons_zero, List.set_cons_succ]
                          refine wpG_take (i := 20) (v := ?_) rfl (by kernel_rfl) (by kernel_rfl) (by kernel_rfl) (by kernel_rfl) (fun _ _ _ h => h) (by decide) (Or.inl ⟨by rfl, ?_⟩) hC hS ?_
                          rotate_left
                          · (intro W hc; obtain rfl := hc rfl; go_simp; first | done | with_reducible rfl)
                          clear hS hC
                          intro hS hC
                          try simp only [Act.put, List.getElem_toArray, List.getElem_cons_zero, List.getElem_cons_succ, List.setIfInBounds_toArray, List.set_cons_zero, List.set_cons_succ]
                          refine wpG_take (i := 21) (v := ?_) rfl (by kernel_rfl) (by kernel_rfl) (by kernel_rfl) (by kernel_rfl) (fun _ _ _ h => h) (by decide) (Or.inl ⟨by rfl, ?_⟩) hC hS ?_
                          rotate_left
                          · (intro W hc; obtain rfl := hc rfl; go_simp; first | done | with_reducible rfl)
                          clear hS hC
                          intro hS hC
                          try simp only [Act.put, List.getElem_toArray, List.getElem_cons_zero, List.getElem_cons_succ, List.setIfInBounds_toArray, List.set_cons_zero, List.set_cons_succ]
                          refine wpG_take (i := 22) (v := ?_) rfl (by kernel_rfl) (by kernel_rfl) (by kernel_rfl) (by kernel_rfl) (fun _ _ _ h => h) (by decide) (Or.inl ⟨by rfl, ?_⟩) hC hS ?_
                          rotate_left
                          · (intro W hc; obtain rfl := hc rfl; go_simp; first | done | with_reducible rfl)
                          clear hS hC
                          intro hS hC
                          try simp only [Act.put, List.getElem_toArray, List.getElem_cons_zero, List.getElem_cons_succ, List.setIfInBounds_toArray, List.set_cons_zero, List.set_cons_succ]
                          refine wpG_take (i := 23) (v := ?_) rfl (by kernel_rfl) (by kernel_rfl) (by kernel_rfl) (by kernel_rfl) (fun _ _ _ h => h) (by decide) (Or.inl ⟨by rfl, ?_⟩) hC hS ?_
                          rotate_left
                          · (intro W hc; obtain rfl := hc rfl; go_simp; first | done | with_reducible rfl)
                          clear hS hC
                          intro hS hC
                          try simp only [Act.put, List.getElem_toArray, List.getElem_cons_zero, List.getElem_cons_succ, List.setIfInBounds_toArray, List.set_cons_zero, List.set_cons_succ]
                          refine wpG_take (i := 24) (v := ?_) rfl (by kernel_rfl) (by kernel_rfl) (by kernel_rfl) (by kernel_rfl) (fun _ _ _ h => h) (by decide) (Or.inl ⟨by rfl, ?_⟩) hC hS ?_
                          rotate_left
                          · (intro W hc; obtain rfl := hc rfl; go_simp; first | done | with_reducible rfl)
                          clear hS hC
                          intro hS hC
                          try simp only [Act.put, List.getElem_toArray, List.getElem_cons_zero, List.getElem_cons_succ, List.setIfInBounds_toArray, List.set_cons_zero, List.set_cons_succ]
                          refine wpG_take (i := 25) (v := ?_) rfl (by kernel_rfl) (by kernel_rfl) (by kernel_rfl) (by kernel_rfl) (fun _ _ _ h => h) (by decide) (Or.inl ⟨by rfl, ?_⟩) hC hS ?_
                          rotate_left
                          · (intro W hc; obtain rfl := hc rfl; go_simp; first | done | with_reducible rfl)
                          clear hS hC
                          intro hS hC
                          try simp only [Act.put, List.getElem_toArray, List.getElem_cons_zero, List.getElem_cons_succ, List.setIfInBounds_toArray, List.set_cons_zero, List.set_cons_succ]
                          refine wpG_take (i := 26) (v := ?_) rfl (by kernel_rfl) (by kernel_rfl) (by kernel_rfl) (by kernel_rfl) (fun _ _ _ h => h) (by decide) (Or.inl ⟨by rfl, ?_⟩) hC hS ?_
                          rotate_left
                          · (intro W hc; obtain rfl := hc rfl; go_simp; first | done | with_reducible rfl)
                          clear hS hC
                          intro hS hC
                          try simp only [Act.put, List.getElem_toArray, List.getElem_cons_zero, List.getElem_cons_succ, List.setIfInBounds_toArray, List.set_cons_zero, List.set_cons_succ]
                          refine wpG_take (i := 27) (v := ?_) rfl (by kernel_rfl) (by kernel_rfl) (by kernel_rfl) (by kernel_rfl) (fun _ _ _ h => h) (by decide) (Or.inl ⟨by rfl, ?_⟩) hC hS ?_
                          rotate_left
                          · (intro W hc; obtain rfl := hc rfl; go_simp; first | done | with_reducible rfl)
                          clear hS hC
                          intro hS hC
                          try simp only [Act.put, List.getElem_toArray, List.getElem_cons_zero, List.getElem_cons_succ, List.setIfInBounds_toArray, List.set_cons_zero, List.set_cons_succ]
                          refine wpG_take (i := 28) (v := ?_) rfl (by kernel_rfl) (by kernel_rfl) (by kernel_rfl) (by kernel_rfl) (fun _ _ _ h => h) (by decide) (Or.inl ⟨by rfl, ?_⟩) hC hS ?_
                          rotate_left
                          · (intro W hc; obtain rfl := hc rfl; go_simp; first | done | with_reducible rfl)
                          clear hS hC
                          intro hS hC
                          try simp only [Act.put, List.getElem_toArray, List.getElem_cons_zero, List.getElem_cons_succ, List.setIfInBounds_toArray, List.set_cons_zero, List.set_cons_succ]
                          refine wpG_take (i := 29) (v := ?_) rfl (by kernel_rfl) (by kernel_rfl) (by kernel_rfl) (by kernel_rfl) (fun _ _ _ h => h) (by decide) (Or.inl ⟨by rfl, ?_⟩) hC hS ?_
                          rotate_left
                          · (intro W hc; obtain rfl := hc rfl; go_simp; first | done | with_reducible rfl)
                          clear hS hC
                          intro hS hC
                          try simp only [Act.put, List.getElem_toArray, List.getElem_cons_zero, List.getElem_cons_succ, List.setIfInBounds_toArray, List.set_cons_zero, List.set_cons_succ]
                          refine wpG_take (i := 30) (v := ?_) rfl (by kernel_rfl) (by kernel_rfl) (by kernel_rfl) (by kernel_rfl) (fun _ _ _ h => h) (by decide) (Or.inl ⟨by rfl, ?_⟩) hC hS ?_
                          rotate_left
                          · (intro W hc; obtain rfl := hc rfl; go_simp; first | done | with_reducible rfl)
                          clear hS hC
                          intro hS hC
                          try simp only [Act.put, List.getElem_toArray, List.getElem_cons_zero, List.getElem_cons_succ, List.setIfInBounds_toArray, List.set_cons_zero, List.set_cons_succ]
                          refine wpG_one (i := 31) (by kernel_rfl) rfl hC (fun K hK => ?_)
                          go_simp
                          refine hK.out _ _ (fun h => absurd h (by decide +kernel)) (fun _ _ => ?_)
                          clear hK K hS hC
                          refine wpG_done (by kernel_rfl) ?_ _
                          have HMn : Hid (Mat (wr.setCell ⟨B I, M, none⟩ (.bool tc)).drew w1.heap.size n (.slice (some ⟨gO, 0, none⟩) n vcap) gO B (setG g3 I M tc)) := Lib.hid ((HM4.out tc).fx (S := No) ((Fx.refl No _).drew) (fun _ _ h => h))
                          have HFn : Hid (Fx (fun x => w1.heap.size ≤ x) w1 (wr.setCell ⟨B I, M, none⟩ (.bool tc)).drew) := Lib.hid ((HFm3.out.setCell (.inr HBl.out) _).drew)
                          have HIn : Hid (Inv (EG L) n K I (M + 1) (setG g3 I M tc)) := HI4
                          generalize (wr.setCell ⟨B I, M, none⟩ (.bool tc)).drew = wn at *
                          clear k0 r1 r2 s1 s1' s2 s3
                          go_wp2
                          go_roundw
                          case rel => exact ⟨M + 1, _, by go_num, by omega, HFn.out, HMn.out, HIn.out⟩
                          case measure => simp [intOf]; omega
                      · skip
                        go_wp2_with fail
                        refine wp_region_G 31 (fun b W => b = false → W = wr.drew) (by kernel_rfl) (fun _ => rfl) ?_
                        intro hS hC
                        refine wpG_take (i := 0) (v := ?_) rfl (by kernel_rfl) (by kernel_rfl) (by kernel_rfl) (by kernel_rfl) (fun _ _ _ h => h) (by decide) (Or.inl ⟨by rfl, ?_⟩) hC hS ?_
                        rotate_left
                        · (intro W hc; obtain rfl := hc rfl; go_simp; first | done | with_reducible rfl)
                        clear hS hC
                        intro hS hC
                        try simp only [Act.put, List.getElem_toArray, List.getElem_cons_zero, List.getElem_cons_succ, List.setIfInBounds_toArray, List.set_cons_zero, List.set_cons_succ]
                        refine wpG_take (i := 1) (v := ?_) rfl (by kernel_rfl) (by kernel_rfl) (by kernel_rfl) (by kernel_rfl) (fun _ _ _ h => h) (by decide) (Or.inl ⟨by rfl, ?_⟩) hC hS ?_
                        rotate_left
                        · (intro W hc; obtain rfl := hc rfl; go_simp; first | done | with_reducible rfl)
                        clear hS hC
                        intro hS hC
                        try simp only [Act.put, List.getElem_toArray, List.getElem_cons_zero, List.getElem_cons_succ, List.setIfInBounds_toArray, List.set_cons_zero, List.set_cons_succ]
                        refine wpG_take (i := 2) (v := ?_) rfl (by kernel_rfl) (by kernel_rfl) (by kernel_rfl) (by kernel_rfl) (fun _ _ _ h => h) (by decide) (Or.inl ⟨by rfl, ?_⟩) hC hS ?_
                        rotate_left
                        · (intro W hc; obtain rfl := hc rfl; go_simp; first | done | with_reducible rfl)
                        clear hS hC
                        intro hS hC
                        try simp only [Act.put, List.getElem_toArray, List.getElem_cons_zero, List.getElem_cons_succ, List.setIfInBounds_toArray, List.set_cons_zero, List.set_cons_succ]
                        refine wpG_take (i := 3) (v := ?_) rfl (by kernel_rfl) (by kernel_rfl) (by kernel_rfl) (by kernel_rfl) (fun _ _ _ h => h) (by decide) (Or.inl ⟨by rfl, ?_⟩) hC hS ?_
                        rotate_left
                        · (intro W hc; obtain rfl := hc rfl; go_simp; first | done | with_reducible rfl)
                        clear hS hC
                        intro hS hC
                        try simp only [Act.put, List.getElem_toArray, List.getElem_cons_zero, List.getElem_cons_succ, List.setIfInBounds_toArray, List.set_cons_zero, List.set_cons_succ]
                        refine wpG_take (i := 4) (v := ?_) rfl (by kernel_rfl) (by kernel_rfl) (by kernel_rfl) (by kernel_rfl) (fun _ _ _ h => h) (by decide) (Or.inl ⟨by rfl, ?_⟩) hC hS ?_
                        rotate_left
                        · (intro W hc; obtain rfl := hc rfl; go_simp; first | done | with_reducible rfl)
                        clear hS hC
                        intro hS hC
                        try simp only [Act.put, List.getElem_toArray, List.getElem_cons_zero, List.getElem_cons_succ, List.setIfInBounds_toArray, List.set_cons_zero, List.set_cons_succ]
                        refine wpG_take (i := 5) (v := ?_) rfl (by kernel_rfl) (by kernel_rfl) (by kernel_rfl) (by kernel_rfl) (fun _ _ _ h => h) (by decide) (Or.inl ⟨by rfl, ?_⟩) hC hS ?_
                        rotate_left
                        · (intro W hc; obtain rfl := hc rfl; go_simp; first | done | with_reducible rfl)
                        clear hS hC
                        intro hS hC
                        try simp only [Act.put, List.getElem_toArray, List.getElem_cons_zero, List.getElem_cons_succ, List.setIfInBounds_toArray, List.set_cons_zero, List.set_cons_succ]
                        refine wpG_take (i := 6) (v := ?_) rfl (by kernel_rfl) (by kernel_rfl) (by kernel_rfl) (by kernel_rfl) (fun _ _ _ h => h) (by decide) (Or.inl ⟨by rfl, ?_⟩) hC hS ?_
                        rotate_left
                        · (intro W hc; obtain rfl := hc rfl; go_simp; first | done | with_reducible rfl)
                        clear hS hC
                        intro hS hC
                        try simp only [Act.put, List.getElem_toArray, List.getElem_cons_zero, List.getElem_cons_succ, List.setIfInBounds_toArray, List.set_cons_zero, List.set_cons_succ]
                        refine wpG_take (i := 7) (v := ?_) rfl (by kernel_rfl) (by kernel_rfl) (by kernel_rfl) (by kernel_rfl) (fun _ _ _ h => h) (by decide) (Or.inl ⟨by rfl, ?_⟩) hC hS ?_
                        rotate_left
                        · (intro W hc; obtain rfl := hc rfl; go_simp; first | done | with_reducible rfl)
                        clear hS hC
                        intro hS hC
                        try simp only [Act.put, List.getElem_toArray, List.getElem_cons_zero, List.getElem_cons_succ, List.setIfInBounds_toArray, List.set_cons_zero, List.set_cons_succ]
                        refine wpG_take (i := 8) (v := ?_) rfl (by kernel_rfl) (by kernel_rfl) (by kernel_rfl) (by kernel_rfl) (fun _ _ _ h => h) (by decide) (Or.inl ⟨by rfl, ?_⟩) hC hS ?_
                        rotate_left
                        · (intro W hc; obtain rfl := hc rfl; go_simp; first | done | with_reducible rfl)
                        clear hS hC
                        intro hS hC
                        try simp only [Act.put, List.getElem_toArray, List.getElem_cons_zero, List.getElem_cons_succ, List.setIfInBounds_toArray, List.set_cons_zero, List.set_cons_succ]
                        refine wpG_take (i := 9) (v := ?_) rfl (by kernel_rfl) (by kernel_rfl) (by kernel_rfl) (by kernel_rfl) (fun _ _ _ h => h) (by decide) (Or.inl ⟨by rfl, ?_⟩) hC hS ?_
                        rotate_left
                        · (intro W hc; obtain rfl := hc rfl; go_simp; first | done | with_reducible rfl)
                        clear hS hC
                        intro hS hC
                        try simp only [Act.put, List.getElem_toArray, List.getElem_cons_zero, List.getElem_cons_succ, List.setIfInBounds_toArray, List.set_cons_zero, List.set_cons_succ]
                        refine wpG_take (i := 10) (v := ?_) rfl (by kernel_rfl) (by kernel_rfl) (by kernel_rfl) (by kernel_rfl) (fun _ _ _ h => h) (by decide) (Or.inl ⟨by rfl, ?_⟩) hC hS ?_
                        rotate_left
                        · (intro W hc; obtain rfl := hc rfl; go_simp; first | done | with_reducible rfl)
                        clear hS hC
                        intro hS hC
                        try simp only [Act.put, List.getElem_toArray, List.getElem_cons_zero, List.getElem_cons_succ, List.setIfInBounds_toArray, List.set_cons_zero, List.set_cons_succ]
                        refine wpG_take (i := 11) (v := ?_) rfl (by kernel_rfl) (by kernel_rfl) (by kernel_rfl) (by kernel_rfl) (fun _ _ _ h => h) (by decide) (Or.inl ⟨by rfl, ?_⟩) hC hS ?_
                        rotate_left
                        · (intro W hc; obtain rfl := hc rfl; go_simp; first | done | with_reducible rfl)
                        clear hS hC
                        intro hS hC
                        try simp only [Act.put, List.getElem_toArray, List.getElem_cons_zero, List.getElem_cons_succ, List.setIfInBounds_toArray, List.set_cons_zero, List.set_cons_succ]
                        refine wpG_take (i := 12) (v := ?_) rfl (by kernel_rfl) (by kernel_rfl) (by kernel_rfl) (by kernel_rfl) (fun _ _ _ h => h) (by decide) (Or.inl ⟨by rfl, ?_⟩) hC hS ?_
                        rotate_left
                        · (intro W hc; obtain rfl := hc rfl; go_simp; first | done | with_reducible rfl)
                        clear hS hC
                        intro hS hC
                        try simp only [Act.put, List.getElem_toArray, List.getElem_cons_zero, List.getElem_cons_succ, List.setIfInBounds_toArray, List.set_cons_zero, List.set_cons_succ]
                        refine wpG_take (i := 13) (v := undef) rfl (by kernel_rfl) (by kernel_rfl) (by kernel_rfl) (by kernel_rfl) (fun _ _ _ h => h) (by decide) (Or.inr ⟨by rfl, rfl⟩) hC hS ?_
                        clear hS hC
                        intro hS hC
                        try simp only [Act.put, List.getElem_toArray, List.getElem_cons_zero, List.getElem_cons_succ, List.setIfInBounds_toArray, List.set_cons_zero, List.set_cons_succ]
                        refine wpG_take (i := 14) (v := undef) rfl (by kernel_rfl) (by kernel_rfl) (by kernel_rfl) (by kernel_rfl) (fun _ _ _ h => h) (by decide) (Or.inr ⟨by rfl, rfl⟩) hC hS ?_
                        clear hS hC
                        intro hS hC
                        try simp only [Act.put, List.getElem_toArray, List.getElem_cons_zero, List.getElem_cons_succ, List.setIfInBounds_toArray, List.set_cons_zero, List.set_cons_succ]
                        refine wpG_take (i := 15) (v := undef) rfl (by kernel_rfl) (by kernel_rfl) (by kernel_rfl) (by kernel_rfl) (fun _ _ _ h => h) (by decide) (Or.inr ⟨by rfl, rfl⟩) hC hS ?_
                        clear hS hC
                        intro hS hC
                        try simp only [Act.put, List.getElem_toArray, List.getElem_cons_zero, List.getElem_cons_succ, List.setIfInBounds_toArray, List.set_cons_zero, List.set_cons_succ]
                        refine wpG_take (i := 16) (v := undef) rfl (by kernel_rfl) (by kernel_rfl) (by kernel_rfl) (by kernel_rfl) (fun _ _ _ h => h) (by decide) (Or.inr ⟨by rfl, rfl⟩) hC hS ?_
                        clear hS hC
                        intro hS hC
                        try simp only [Act.put, List.getElem_toArray, List.getElem_cons_zero, List.getElem_cons_succ, List.setIfInBounds_toArray, List.set_cons_zero, List.set_cons_succ]
                        refine wpG_take (i := 17) (v := undef) rfl (by kernel_rfl) (by kernel_rfl) (by kernel_rfl) (by kernel_rfl) (fun _ _ _ h => h) (by decide) (Or.inr ⟨by rfl, rfl⟩) hC hS ?_
                        clear hS hC
                        intro hS hC
                        try simp only [Act.put, List.getElem_toArray, List.getElem_cons_zero, List.getElem_cons_succ, List.setIfInBounds_toArray, List.set_cons_zero, List.set_cons_succ]
                        refine wpG_take (i := 18) (v := undef) rfl (by kernel_rfl) (by kernel_rfl) (by kernel_rfl) (by kernel_rfl) (fun _ _ _ h => h) (by decide) (Or.inr ⟨by rfl, rfl⟩) hC hS ?_
                        clear hS hC
                        intro hS hC
                        try simp only [Act.put, List.getElem_toArray, List.getElem_cons_zero, List.getElem_cons_succ, List.setIfInBounds_toArray, List.set_cons_zero, List.set_cons_succ]
                        refine wpG_take (i := 19) (v := undef) rfl (by kernel_rfl) (by kernel_rfl) (by kernel_rfl) (by kernel_rfl) (fun _ _ _ h => h) (by decide) (Or.inr ⟨by rfl, rfl⟩) hC hS ?_
                        clear hS hC
                        intro hS hC
                        try simp only [Act.put, List.getElem_toArray, List.getElem_cons_zero, List.getElem_cons_succ, List.setIfInBounds_toArray, List.set_cons_zero, List.set_cons_succ]
                        refine wpG_take (i := 20) (v := undef) rfl (by kernel_rfl) (by kernel_rfl) (by kernel_rfl) (by kernel_rfl) (fun _ _ _ h => h) (by decide) (Or.inr ⟨by rfl, rfl⟩) hC hS ?_
                        clear hS hC
                        intro hS hC
                        try simp only [Act.put, List.getElem_toArray, List.getElem_cons_zero, List.getElem_cons_succ, List.setIfInBounds_toArray, List.set_cons_zero, List.set_cons_succ]
                        refine wpG_take (i := 21) (v := undef) rfl (by kernel_rfl) (by kernel_rfl) (by kernel_rfl) (by kernel_rfl) (fun _ _ _ h => h) (by decide) (Or.inr ⟨by rfl, rfl⟩) hC hS ?_
                        clear hS hC
                        intro hS hC
                        try simp only [Act.put, List.getElem_toArray, List.getElem_cons_zero, List.getElem_cons_succ, List.setIfInBounds_toArray, List.set_cons_zero, List.set_cons_succ]
                        refine wpG_take (i := 22) (v := undef) rfl (by kernel_rfl) (by kernel_rfl) (by kernel_rfl) (by kernel_rfl) (fun _ _ _ h => h) (by decide) (Or.inr ⟨by rfl, rfl⟩) hC hS ?_
                        clear hS hC
                        intro hS hC
                        try simp only [Act.put, List.getElem_toArray, List.getElem_cons_zero, List.getElem_cons_succ, List.setIfInBounds_toArray, List.set_cons_zero, List.set_cons_succ]
                        refine wpG_take (i := 23) (v := undef) rfl (by kernel_rfl) (by kernel_rfl) (by kernel_rfl) (by kernel_rfl) (fun _ _ _ h => h) (by decide) (Or.inr ⟨by rfl, rfl⟩) hC hS ?_
                        clear hS hC
                        intro hS hC
                        try simp only [Act.put, List.getElem_toArray, List.getElem_cons_zero, List.getElem_cons_succ, List.setIfInBounds_toArray, List.set_cons_zero, List.set_cons_succ]
                        refine wpG_take (i := 24) (v := undef) rfl (by kernel_rfl) (by kernel_rfl) (by kernel_rfl) (by kernel_rfl) (fun _ _ _ h => h) (by decide) (Or.inr ⟨by rfl, rfl⟩) hC hS ?_
                        clear hS hC
                        intro hS hC
                        try simp only [Act.put, List.getElem_toArray, List.getElem_cons_zero, List.getElem_cons_succ, List.setIfInBounds_toArray, List.set_cons_zero, List.set_cons_succ]
                        refine wpG_take (i := 25) (v := undef) rfl (by kernel_rfl) (by kernel_rfl) (by kernel_rfl) (by kernel_rfl) (fun _ _ _ h => h) (by decide) (Or.inr ⟨by rfl, rfl⟩) hC hS ?_
                        clear hS hC
                        intro hS hC
                        try simp only [Act.put, List.getElem_toArray, List.getElem_cons_zero, List.getElem_cons_succ, List.setIfInBounds_toArray, List.set_cons_zero, List.set_cons_succ]
                        refine wpG_take (i := 26) (v := undef) rfl (by kernel_rfl) (by kernel_rfl) (by kernel_rfl) (by kernel_rfl) (fun _ _ _ h => h) (by decide) (Or.inr ⟨by rfl, rfl⟩) hC hS ?_
                        clear hS hC
                        intro hS hC
                        try simp only [Act.put, List.getElem_toArray, List.getElem_cons_zero, List.getElem_cons_succ, List.setIfInBounds_toArray, List.set_cons_zero, List.set_cons_succ]
                        refine wpG_take (i := 27) (v := undef) rfl (by kernel_rfl) (by kernel_rfl) (by kernel_rfl) (by kernel_rfl) (fun _ _ _ h => h) (by decide) (Or.inr ⟨by rfl, rfl⟩) hC hS ?_
                        clear hS hC
                        intro hS hC
                        try simp only [Act.put, List.getElem_toArray, List.getElem_cons_zero, List.getElem_cons_succ, List.setIfInBounds_toArray, List.set_cons_zero, List.set_cons_succ]
                        refine wpG_take (i := 28) (v := undef) rfl (by kernel_rfl) (by kernel_rfl) (by kernel_rfl) (by kernel_rfl) (fun _ _ _ h => h) (by decide) (Or.inr ⟨by rfl, rfl⟩) hC hS ?_
                        clear hS hC
                        intro hS hC
                        try simp only [Act.put, List.getElem_toArray, List.getElem_cons_zero, List.getElem_cons_succ, List.setIfInBounds_toArray, List.set_cons_zero, List.set_cons_succ]
                        refine wpG_take (i := 29) (v := ?_) rfl (by kernel_rfl) (by kernel_rfl) (by kernel_rfl) (by kernel_rfl) (fun _ _ _ h => h) (by decide) (Or.inl ⟨by rfl, ?_⟩) hC hS ?_
                        rotate_left
                        · (intro W hc; obtain rfl := hc rfl; go_simp; first | done | with_reducible rfl)
                        clear hS hC
                        intro hS hC
                        try simp only [Act.put, List.getElem_toArray, List.getElem_cons_zero, List.getElem_cons_succ, List.setIfInBounds_toArray, List.set_cons_zero, List.set_cons_succ]
                        refine wpG_take (i := 30) (v := ?_) rfl (by kernel_rfl) (by kernel_rfl) (by kernel_rfl) (by kernel_rfl) (fun _ _ _ h => h) (by decide) (Or.inl ⟨by rfl, ?_⟩) hC hS ?_
                        rotate_left
                        · (intro W hc; obtain rfl := hc rfl; go_simp; first | done | with_reducible rfl)
                        clear hS hC
                        intro hS hC
                        try simp only [Act.put, List.getElem_toArray, List.getElem_cons_zero, List.getElem_cons_succ, List.setIfInBounds_toArray, List.set_cons_zero, List.set_cons_succ]
                        refine wpG_one (i := 31) (by kernel_rfl) rfl hC (fun K hK => ?_)
                        go_simp
                        refine hK.out _ _ (fun h => absurd h (by decide +kernel)) (fun _ _ => ?_)
                        clear hK K hS hC
                        refine wpG_done (by kernel_rfl) ?_ _
                        have HMn : Hid (Mat (wr.setCell ⟨B I, M, none⟩ (.bool true)).drew w1.heap.size n (.slice (some ⟨gO, 0, none⟩) n vcap) gO B (setG g3 I M true)) := Lib.hid ((HM4.out true).fx (S := No) ((Fx.refl No _).drew) (fun _ _ h => h))
                        have HFn : Hid (Fx (fun x => w1.heap.size ≤ x) w1 (wr.setCell ⟨B I, M, none⟩ (.bool true)).drew) := Lib.hid ((HFm3.out.setCell (.inr HBl.out) _).drew)
                        have HIn : Hid (Inv (EG L) n K I (M + 1) (setG g3 I M true)) := HI4
                        generalize (wr.setCell ⟨B I, M, none⟩ (.bool true)).drew = wn at *
                        clear k0 r1 r2 s1 s1' s2 s3
                        go_wp2
                        go_roundw
                        case rel => exact ⟨M + 1, _, by go_num, by omega, HFn.out, HMn.out, HIn.out⟩
                        case measure => simp [intOf]; omega
                    · obtain rfl : n = M := by omega
                      go_wp2
                      go_roundw
                      case rel => exact ⟨I + 1, g3, by go_num, by omega, HFm3.out, HM3.out, HI3.out.row⟩
                      case measure => simp [intOf]; omega
                · obtain rfl : n = I := by omega
                  go_wp2
                  go_roundw
                  case rel => exact ⟨K + 1, g2, by go_num, by omega, HFi.out, HMi.out, HIi.out.round⟩
                  case measure => simp [intOf]; omega
            · obtain rfl : n = K := by omega
              go_wp2
              go_ret
              exact ⟨_, gO, B, g1, rfl, HF.out.trans' HFk.out (fun j h1 h2 => by have h1 : w1.heap.size ≤ j := h1; omega), HMk.out.lower hcw, HI.out.done HeL.out⟩
end
#print axioms refReach_any
end Go.Proofs.YtdoplaijgocboaaGreat
