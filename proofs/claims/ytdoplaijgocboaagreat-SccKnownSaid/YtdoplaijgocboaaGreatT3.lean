/- The law SccTells. -/
import Derived.Test.YtdoplaijgocboaaGreatT2
import Derived.Deep.DeepCutAuto
import Derived.Deep.CutBlock

namespace Go.Proofs.YtdoplaijgocboaaGreat
open Go.RowKit
set_option linter.unusedVariables false

section
variable {w w' : World} {E E2 : Nat → Prop} {l : List Ed} {v u : Value} {zs : List Int}
set_option maxRecDepth 100000 in
set_option maxHeartbeats 8000000 in
theorem tells_any (n : Int) (h : EdsV w E v l) (hok : ∀ x ∈ l, x.ok) (hz : IntsV w E2 u zs) : Calls Tryz.prog 3 #[.int .i64 n, v, u] w fun e w' => e = .returned (.bool true) ∧ Fx No w w' := by
  have HE := Lib.hid h
  have HOk := Lib.hid hok
  have HZs := Lib.hid hz
  obtain ⟨ao, cap, rfl, hcl, hcm, _⟩ := EdsV.facts h
  obtain ⟨zo, zc, rfl, hzl, _⟩ := IntsV.facts hz
  clear h hok hz
  by_cases h1 : 70 < l.length
  · have d1 : decide ((70 : Int) < (l.length : Int)) = true := decide_eq_true (by omega)
    go_enter Tryz.func3, Tryz.ntmps3
    go_wp2_with fail
    refine (works_any _).mono ?_
    rintro e w1 ⟨rfl, hf⟩
    have HF := Lib.hid hf
    clear hf
    go_wp2
    go_ret
    exact ⟨rfl, HF.out⟩
  · have d1 : decide ((70 : Int) < (l.length : Int)) = false := decide_eq_false (by omega)
    have hl70 : l.length ≤ 70 := by omega
    clear h1
    by_cases h2 : 30 < zs.length
    · have d2 : decide ((30 : Int) < (zs.length : Int)) = true := decide_eq_true (by omega)
      go_enter Tryz.func3, Tryz.ntmps3
      go_wp2_with fail
      refine (works_any _).mono ?_
      rintro e w1 ⟨rfl, hf⟩
      have HF := Lib.hid hf
      clear hf
      go_wp2
      go_ret
      exact ⟨rfl, HF.out⟩
    · have d2 : decide ((30 : Int) < (zs.length : Int)) = false := decide_eq_false (by omega)
      clear h2
      go_enter Tryz.func3, Tryz.ntmps3
      go_wp2_with fail
      refine (drawn_any HE.out HOk.out (by omega) n 25 (by omega)).mono ?_
      rintro e w1 ⟨gb, N, L, rv, D, R, rfl, hD, hN, hL⟩
      obtain ⟨ro, rc, rfl, _⟩ := EdsV.facts hD.row
      have HD1 := Lib.hid hD
      have hL70 : L.length ≤ 70 := by omega
      clear hD hL
      go_upto_region 4 with fail
      refine wp_hold (fun W => GS w W w1.heap.size gb N L ro rc D R ∧ w1.heap.size < W.heap.size) ⟨GS.start HD1.out, by simp⟩ ?_
      obtain ⟨rb, hrb⟩ : ∃ q, q = w1.heap.size := ⟨_, rfl⟩
      rw [← hrb]
      rintro w2 ⟨hg2, hrb2⟩
      have HNd := Lib.hid (NdL.of hg2.g)
      obtain ⟨sm, hsmd⟩ : ∃ sm, sm = smR (rL L N) := ⟨_, rfl⟩
      have HEq : Hid (Eqv sm N) := Lib.hid (by rw [hsmd]; exact rL_eqv HNd.out)
      have HSm : Hid (∀ i j, i < N → j < N → (sm i j = true ↔ Sm (EG L) i j)) := Lib.hid (by rw [hsmd]; exact rL_sm HNd.out)
      have HG2 := Lib.hid hg2
      obtain ⟨P, hP⟩ : ∃ P, P = (canon sm N).map natsI := ⟨_, rfl⟩
      obtain ⟨O, hO⟩ : ∃ O, O = cnoL sm N := ⟨_, rfl⟩
      obtain ⟨Wn, hWn⟩ : ∃ Wn, Wn = L.filter fun x => !outE2 (cno sm) x := ⟨_, rfl⟩
      obtain ⟨M, hM⟩ : ∃ M, M = shrM (cno sm) L := ⟨_, rfl⟩
      obtain ⟨K, hK⟩ : ∃ K, K = (canon sm N).length := ⟨_, rfl⟩
      obtain ⟨C, hC, hCl⟩ := up1_ex (fs := Wn.map (·.f)) (N := N) (by
        intro x hx
        obtain ⟨e, he, rfl⟩ := List.mem_map.1 hx
        rw [hWn] at he
        exact (HNd.out e (List.mem_filter.1 he).1).1)
      have HC : Hid (Up1 C ((L.filter fun x => !outE2 (cno sm) x).map (·.f))) := Lib.hid (by rw [← hWn]; exact hC)
      have HP := Lib.hid hP
      have HO := Lib.hid hO
      have HWn := Lib.hid hWn
      have HM := Lib.hid hM
      have HK := Lib.hid hK
      have r0 : ∀ W, Fx No w2 W → W.cell? ⟨rb, 0, none⟩ = some (.int .i64 (N : Nat)) := fun W q => q.cell' hg2.r0 (fun q => q)
      have r1 : ∀ W, Fx No w2 W → W.cell? ⟨rb, 1, none⟩ = some (.slice ro L.length rc) := fun W q => q.cell' hg2.r1 (fun q => q)
      have HB2 : Hid (rb < w2.heap.size) := Lib.hid hrb2
      clear hg2 hrb HD1 hsmd hC hP hO hWn hM hK hrb2
      go_cut [9, 10, 11, 12, 13] (fun s9 s10 s11 s12 s13 W => ∃ (sb : Nat) (sv : Value), s13 = .pointer (some ⟨sb, 0, none⟩) ∧ TS w W W.heap.size rb gb N L ro rc D R s9 s10 s11 s12 sb sv P O C Wn M K)
      case first =>
        refine wp_region_H (fun W => Fx No w2 W) (by kernel_rfl) ((Fx.refl _ _).drew) ?_
        intro hS
        refine wpAnyH_hold (fun W' => Fx No w2 W') hS ?_
        clear hS
        rintro y0 hS
        have hS0 := hS
        have HRw := Lib.hid (RowV.no HG2.out.row hS)
        have HZy0 : Hid (w2.heap.size ≤ y0.heap.size) := Lib.hid hS.size
        refine wpAnyH_take (i := 0) (v := ?_) rfl (by kernel_rfl) (by kernel_rfl) (by kernel_rfl) (fun _ _ _ h => h) (Or.inl ⟨by rfl, ?_⟩) hS ?_
        rotate_left
        · (intro W hs; go_simp; first | done | with_reducible rfl)
        try simp only [Act.put, List.getElem_toArray, List.getElem_cons_zero, List.getElem_cons_succ, List.setIfInBounds_toArray, List.set_cons_zero, List.set_cons_succ]
        refine wpAnyH_take (i := 2) (v := ?_) rfl (by kernel_rfl) (by kernel_rfl) (by kernel_rfl) (fun _ _ _ h => h) (Or.inl ⟨by rfl, ?_⟩) hS ?_
        rotate_left
        · (intro W hs; go_simp; first | done | with_reducible rfl)
        try simp only [Act.put, List.getElem_toArray, List.getElem_cons_zero, List.getElem_cons_succ, List.setIfInBounds_toArray, List.set_cons_zero, List.set_cons_succ]
        refine wpAnyH_take (i := 4) (v := ?_) rfl (by kernel_rfl) (by kernel_rfl) (by kernel_rfl) (fun _ _ _ h => h) (Or.inl ⟨by rfl, ?_⟩) hS ?_
        rotate_left
        · (intro W hs; go_simp; first | done | with_reducible rfl)
        try simp only [Act.put, List.getElem_toArray, List.getElem_cons_zero, List.getElem_cons_succ, List.setIfInBounds_toArray, List.set_cons_zero, List.set_cons_succ]
        refine wpAnyH_take (i := 6) (v := ?_) rfl (by kernel_rfl) (by kernel_rfl) (by kernel_rfl) (fun _ _ _ h => h) (Or.inl ⟨by rfl, ?_⟩) hS ?_
        rotate_left
        · (intro W hs; go_simp; first | done | with_reducible rfl)
        try simp only [Act.put, List.getElem_toArray, List.getElem_cons_zero, List.getElem_cons_succ, List.setIfInBounds_toArray, List.set_cons_zero, List.set_cons_succ]
        refine wpAnyH_take (i := 8) (v := ?_) rfl (by kernel_rfl) (by kernel_rfl) (by kernel_rfl) (fun _ _ _ h => h) (Or.inl ⟨by rfl, ?_⟩) hS ?_
        rotate_left
        · (intro W hs; go_simp; first | done | with_reducible rfl)
        try simp only [Act.put, List.getElem_toArray, List.getElem_cons_zero, List.getElem_cons_succ, List.setIfInBounds_toArray, List.set_cons_zero, List.set_cons_succ]
        refine wpH_two (i := 1) (j := 10) (by kernel_rfl) rfl rfl (fun K hK => ?_) (fun K hK => ?_)
        · go_simp
          refine (refParts_any HRw.out (by omega) HNd.out HEq.out HSm.out).mono ?_
          rintro e y1 ⟨pv, PV, rfl, hfi, hpo⟩
          have HRw := Lib.hid (RowV.no HRw.out hfi)
          rw [← HP.out] at hpo
          have HPo : Hid (∃ V, RowsR y1 (Iv y0.heap.size y1.heap.size) pv P V) := Lib.hid ⟨_, hpo.rowsR⟩
          have HZy1 : Hid (y0.heap.size ≤ y1.heap.size) := Lib.hid hfi.size
          have HSy1 : Hid (Fx No y0 y1) := Lib.hid hfi
          refine hK.out _ _ (hS.trans hfi) (fun hS' => ?_)
          clear hK K hS hfi hpo
          have hS := hS'
          clear hS'
          try simp only [Act.put, List.getElem_toArray, List.getElem_cons_zero, List.getElem_cons_succ, List.setIfInBounds_toArray, List.set_cons_zero, List.set_cons_succ]
          refine wpH_two (i := 3) (j := 10) (by kernel_rfl) rfl rfl (fun K hK => ?_) (fun K hK => ?_)
          · go_simp
            refine (refOf_any HRw.out (by omega) HNd.out HEq.out HSm.out).mono ?_
            rintro e y2 ⟨ov, rfl, hfi, hoo⟩
            have HRw := Lib.hid (RowV.no HRw.out hfi)
            have HPo := Lib.hid (rowsEx_no HPo.out hfi)
            have HOo : Hid (IntsV y2 (Iv y1.heap.size y2.heap.size) ov O) := Lib.hid (by rw [HO.out]; have := SlV.ofOwns hoo; unfold IntsV; rw [cnoL_len]; exact this)
            have HZy2 : Hid (y1.heap.size ≤ y2.heap.size) := Lib.hid hfi.size
            have HSy2 : Hid (Fx No y1 y2) := Lib.hid hfi
            refine hK.out _ _ (hS.trans hfi) (fun hS' => ?_)
            clear hK K hS hfi hoo
            have hS := hS'
            clear hS'
            try simp only [Act.put, List.getElem_toArray, List.getElem_cons_zero, List.getElem_cons_succ, List.setIfInBounds_toArray, List.set_cons_zero, List.set_cons_succ]
            refine wpH_two (i := 5) (j := 10) (by kernel_rfl) rfl rfl (fun K hK => ?_) (fun K hK => ?_)
            · go_simp
              refine (refClosed_any HRw.out (by omega) HNd.out HEq.out HSm.out C HC.out).mono ?_
              rintro e y3 ⟨cv, rfl, hfi, hco⟩
              have HRw := Lib.hid (RowV.no HRw.out hfi)
              have HPo := Lib.hid (rowsEx_no HPo.out hfi)
              have HOo := Lib.hid (IntsV.no HOo.out hfi)
              have HCo : Hid (IntsV y3 (Iv y2.heap.size y3.heap.size) cv C) := Lib.hid (SlV.ofOwns hco)
              have HZy3 : Hid (y2.heap.size ≤ y3.heap.size) := Lib.hid hfi.size
              have HSy3 : Hid (Fx No y2 y3) := Lib.hid hfi
              refine hK.out _ _ (hS.trans hfi) (fun hS' => ?_)
              clear hK K hS hfi hco
              have hS := hS'
              clear hS'
              try simp only [Act.put, List.getElem_toArray, List.getElem_cons_zero, List.getElem_cons_succ, List.setIfInBounds_toArray, List.set_cons_zero, List.set_cons_succ]
              refine wpH_two (i := 7) (j := 10) (by kernel_rfl) rfl rfl (fun K hK => ?_) (fun K hK => ?_)
              · go_simp
                refine (refWithin_any HRw.out (by omega) HNd.out (by omega) HEq.out HSm.out).mono ?_
                rintro e y4 ⟨wv, rfl, hfi, hwo⟩
                have HRw := Lib.hid (RowV.no HRw.out hfi)
                have HPo := Lib.hid (rowsEx_no HPo.out hfi)
                have HOo := Lib.hid (IntsV.no HOo.out hfi)
                have HCo := Lib.hid (IntsV.no HCo.out hfi)
                have HWo : Hid (EdsV y4 (Iv y3.heap.size y4.heap.size) wv Wn) := Lib.hid (by rw [HWn.out]; exact OwnT.row hwo)
                have HZy4 : Hid (y3.heap.size ≤ y4.heap.size) := Lib.hid hfi.size
                have HSy4 : Hid (Fx No y3 y4) := Lib.hid hfi
                refine hK.out _ _ (hS.trans hfi) (fun hS' => ?_)
                clear hK K hS hfi hwo
                have hS := hS'
                clear hS'
                try simp only [Act.put, List.getElem_toArray, List.getElem_cons_zero, List.getElem_cons_succ, List.setIfInBounds_toArray, List.set_cons_zero, List.set_cons_succ]
                refine wpH_two (i := 9) (j := 10) (by kernel_rfl) rfl rfl (fun K hK => ?_) (fun K hK => ?_)
                · go_simp
                  refine (refShrink_any HRw.out (by omega) HNd.out (by omega) HEq.out HSm.out).mono ?_
                  rintro e y5 ⟨sv, rfl, hfi, hso⟩
                  have HRw := Lib.hid (RowV.no HRw.out hfi)
                  have HPo := Lib.hid (rowsEx_no HPo.out hfi)
                  have HOo := Lib.hid (IntsV.no HOo.out hfi)
                  have HCo := Lib.hid (IntsV.no HCo.out hfi)
                  have HWo := Lib.hid (RowV.no HWo.out hfi)
                  rw [← HM.out] at hso
                  obtain ⟨so, sc, rfl, _⟩ := EdsV.facts hso
                  rw [← HK.out]
                  have HSo : Hid (EdsV y5 (Iv y4.heap.size y5.heap.size) (.slice so M.length sc) M) := Lib.hid hso
                  have HZy5 : Hid (y4.heap.size ≤ y5.heap.size) := Lib.hid hfi.size
                  have HSy5 : Hid (Fx No y4 y5) := Lib.hid hfi
                  refine hK.out _ _ (hS.trans hfi) (fun hS' => ?_)
                  clear hK K hS hfi hso
                  have hS := hS'
                  clear hS'
                  try simp only [Act.put, List.getElem_toArray, List.getElem_cons_zero, List.getElem_cons_succ, List.setIfInBounds_toArray, List.set_cons_zero, List.set_cons_succ]
                  refine wpH_one (i := 10) (by kernel_rfl) rfl (fun K hK => ?_)
                  go_simp
                  have HB0 := Lib.hid hS.size
                  have hfi : Fx No y5 (y5.alloc (.cells #[.int .i64 0, .slice none 0 0] 28)) := (Fx.refl No _).alloc _
                  refine hK.out _ _ (hS.trans hfi) (fun hS' => ?_)
                  clear hK K hS
                  have hS := hS'
                  clear hS'
                  try simp only [Act.put, List.getElem_toArray, List.getElem_cons_zero, List.getElem_cons_succ, List.setIfInBounds_toArray, List.set_cons_zero, List.set_cons_succ]
                  refine wpAnyH_hold (fun W' => Fx No y5 W' ∧ Fx No w2 W' ∧ y5.heap.size < W'.heap.size ∧ W'.cell? ⟨y5.heap.size, 0, none⟩ = some (.int .i64 0) ∧ W'.frozen? ⟨y5.heap.size, 0, none⟩ = false ∧ W'.cell? ⟨y5.heap.size, 1, none⟩ = some (.slice none 0 0) ∧ W'.frozen? ⟨y5.heap.size, 1, none⟩ = false) ⟨hfi, hS, by simp, by simp, by simp, by simp, by simp⟩ ?_
                  clear hfi hS
                  rintro y6 ⟨hfi, hS, hlt, hbx⟩
                  obtain ⟨ab, hab⟩ : ∃ q, q = y5.heap.size := ⟨_, rfl⟩
                  rw [← hab] at hbx hlt ⊢
                  have HRw := Lib.hid (RowV.no HRw.out hfi)
                  have HPo := Lib.hid (rowsEx_no HPo.out hfi)
                  have HOo := Lib.hid (IntsV.no HOo.out hfi)
                  have HCo := Lib.hid (IntsV.no HCo.out hfi)
                  have HWo := Lib.hid (RowV.no HWo.out hfi)
                  have HSo := Lib.hid (RowV.no HSo.out hfi)
                  have Hab := Lib.hid hbx
                  have HLab : Hid (ab < y6.heap.size) := Lib.hid hlt
                  have HEab : Hid (ab = y5.heap.size) := Lib.hid hab
                  have HZy6 : Hid (y5.heap.size ≤ y6.heap.size) := Lib.hid hfi.size
                  have HAlo : Hid (w2.heap.size ≤ ab) := Lib.hid (by have h1 := hab; have h2 := HB0.out; omega)
                  clear hbx hlt hab hfi HB0
                  refine wpAnyH_take (i := 11) (v := ?_) rfl (by kernel_rfl) (by kernel_rfl) (by kernel_rfl) (fun _ _ _ h => h) (Or.inl ⟨by rfl, ?_⟩) hS ?_
                  rotate_left
                  · (intro W hs; go_simp; first | done | with_reducible rfl)
                  try simp only [Act.put, List.getElem_toArray, List.getElem_cons_zero, List.getElem_cons_succ, List.setIfInBounds_toArray, List.set_cons_zero, List.set_cons_succ]
                  refine wpAnyH_take (i := 12) (v := ?_) rfl (by kernel_rfl) (by kernel_rfl) (by kernel_rfl) (fun _ _ _ h => h) (Or.inl ⟨by rfl, ?_⟩) hS ?_
                  rotate_left
                  · (intro W hs; go_simp; first | done | with_reducible rfl)
                  try simp only [Act.put, List.getElem_toArray, List.getElem_cons_zero, List.getElem_cons_succ, List.setIfInBounds_toArray, List.set_cons_zero, List.set_cons_succ]
                  refine wpAnyH_take (i := 13) (v := ?_) rfl (by kernel_rfl) (by kernel_rfl) (by kernel_rfl) (fun _ _ _ h => h) (Or.inl ⟨by rfl, ?_⟩) hS ?_
                  rotate_left
                  · (intro W hs; go_simp; first | done | with_reducible rfl)
                  try simp only [Act.put, List.getElem_toArray, List.getElem_cons_zero, List.getElem_cons_succ, List.setIfInBounds_toArray, List.set_cons_zero, List.set_cons_succ]
                  refine wpAnyH_take (i := 14) (v := ?_) rfl (by kernel_rfl) (by kernel_rfl) (by kernel_rfl) (fun _ _ _ h => h) (Or.inl ⟨by rfl, ?_⟩) hS ?_
                  rotate_left
                  · (intro W hs; go_simp; first | done | with_reducible rfl)
                  try simp only [Act.put, List.getElem_toArray, List.getElem_cons_zero, List.getElem_cons_succ, List.setIfInBounds_toArray, List.set_cons_zero, List.set_cons_succ]
                  refine wpH_one (i := 15) (by kernel_rfl) rfl (fun K hK => ?_)
                  have q0 := Hab.out.1
                  have q1 := Hab.out.2.2.1
                  have qf0 := Hab.out.2.1
                  have qf1 := Hab.out.2.2.2
                  go_simp
                  refine hK.out _ _ ((hS.setCell (a := ⟨ab, 0, none⟩) (.inl HAlo.out) _).setCell (a := ⟨ab, 1, none⟩) (.inl HAlo.out) _) (fun hS' => ?_)
                  clear hK K hS
                  have hS := hS'
                  clear hS'
                  try simp only [Act.put, List.getElem_toArray, List.getElem_cons_zero, List.getElem_cons_succ, List.setIfInBounds_toArray, List.set_cons_zero, List.set_cons_succ]
                  clear q0 q1 qf0 qf1
                  refine wpAnyH_done (by kernel_rfl) ?_ _
                  have zy1 := HZy1.out
                  have zy2 := HZy2.out
                  have zy3 := HZy3.out
                  have zy4 := HZy4.out
                  have zy5 := HZy5.out
                  have zy6 := HZy6.out
                  obtain ⟨g1, g2, g3, g4⟩ := put_two y6 (qb := ab) (.int .i64 (K : Nat)) (.slice so M.length sc) Hab.out.1 Hab.out.2.2.1
                  have zab := HEab.out
                  have zlb := HLab.out
                  have hlo := HAlo.out
                  have hr2 := HB2.out
                  have hfz : Fx No w2 ((y6.setCell ⟨ab, 0, none⟩ (.int .i64 (K : Nat))).setCell ⟨ab, 1, none⟩ (.slice so M.length sc)) := hS
                  have hz0 := hS0.size
                  have HT : Hid (TS w ((y6.setCell ⟨ab, 0, none⟩ (.int .i64 (K : Nat))).setCell ⟨ab, 1, none⟩ (.slice so M.length sc)) ((y6.setCell ⟨ab, 0, none⟩ (.int .i64 (K : Nat))).setCell ⟨ab, 1, none⟩ (.slice so M.length sc)).heap.size rb gb N L ro rc D R pv ov cv wv ab (.slice so M.length sc) P O C Wn M K) := Lib.hid (by
                    rw [g4]
                    refine ⟨HG2.out.no hfz, ?_, IntsV.mono (IntsV.keep HOo.out g3 fun k hk e => ?_) fun k hk => ?_, IntsV.mono (IntsV.keep HCo.out g3 fun k hk e => ?_) fun k hk => ?_, RowV.mono (RowV.keep HWo.out g3 fun k hk e => ?_) fun k hk => ?_, g1, g2, RowV.mono (RowV.keep HSo.out g3 fun k hk e => ?_) fun k hk => ?_⟩
                    · obtain ⟨V, hV⟩ := HPo.out
                      refine ⟨V, (hV.keep g3 fun k hk e => ?_).mono fun k hk => ?_⟩
                      · have e : k = ab := e
                        have h1 := hk.1; have h2 := hk.2; omega
                      · have h2 := hk.2
                        show k < y6.heap.size
                        omega
                    all_goals first
                      | (have e : _ = ab := e; have h1 := hk.1; have h2 := hk.2; omega)
                      | (have h2 := hk.2; show _ < y6.heap.size; omega))
                  clear hS hS0 hfz g1 g2 g3 g4
                  go_wp2
                  go_meet
                  exact ⟨ab, _, rfl, HT.out⟩
                · go_simp
                  have HB0 := Lib.hid hS.size
                  have hfi : Fx No y4 (y4.alloc (.cells #[.int .i64 0, .slice none 0 0] 28)) := (Fx.refl No _).alloc _
                  refine hK.out _ _ (hS.trans hfi) (fun hS' => ?_)
                  clear hK K hS
                  have hS := hS'
                  clear hS'
                  try simp only [Act.put, List.getElem_toArray, List.getElem_cons_zero, List.getElem_cons_succ, List.setIfInBounds_toArray, List.set_cons_zero, List.set_cons_succ]
                  refine wpAnyH_hold (fun W' => Fx No y4 W' ∧ Fx No w2 W' ∧ y4.heap.size < W'.heap.size ∧ W'.cell? ⟨y4.heap.size, 0, none⟩ = some (.int .i64 0) ∧ W'.frozen? ⟨y4.heap.size, 0, none⟩ = false ∧ W'.cell? ⟨y4.heap.size, 1, none⟩ = some (.slice none 0 0) ∧ W'.frozen? ⟨y4.heap.size, 1, none⟩ = false) ⟨hfi, hS, by simp, by simp, by simp, by simp, by simp⟩ ?_
                  clear hfi hS
                  rintro y8 ⟨hfi, hS, hlt, hbx⟩
                  obtain ⟨ab, hab⟩ : ∃ q, q = y4.heap.size := ⟨_, rfl⟩
                  rw [← hab] at hbx hlt ⊢
                  have HRw := Lib.hid (RowV.no HRw.out hfi)
                  have HPo := Lib.hid (rowsEx_no HPo.out hfi)
                  have HOo := Lib.hid (IntsV.no HOo.out hfi)
                  have HCo := Lib.hid (IntsV.no HCo.out hfi)
                  have HWo := Lib.hid (RowV.no HWo.out hfi)
                  have Hab := Lib.hid hbx
                  have HLab : Hid (ab < y8.heap.size) := Lib.hid hlt
                  have HEab : Hid (ab = y4.heap.size) := Lib.hid hab
                  have HZy8 : Hid (y4.heap.size ≤ y8.heap.size) := Lib.hid hfi.size
                  have HAlo : Hid (w2.heap.size ≤ ab) := Lib.hid (by have h1 := hab; have h2 := HB0.out; omega)
                  clear hbx hlt hab hfi HB0
                  refine wpH_one (i := 9) (by kernel_rfl) rfl (fun K hK => ?_)
                  go_simp
                  refine (refShrink_any HRw.out (by omega) HNd.out (by omega) HEq.out HSm.out).mono ?_
                  rintro e y9 ⟨sv, rfl, hfi, hso⟩
                  have HRw := Lib.hid (RowV.no HRw.out hfi)
                  have HPo := Lib.hid (rowsEx_no HPo.out hfi)
                  have HOo := Lib.hid (IntsV.no HOo.out hfi)
                  have HCo := Lib.hid (IntsV.no HCo.out hfi)
                  have HWo := Lib.hid (RowV.no HWo.out hfi)
                  have Hab := Lib.hid (And.intro (hfi.cell' Hab.out.1 (fun h => h)) (And.intro ((hfi.cellF Hab.out.1 Hab.out.2.1 (fun h => h)).2) (And.intro (hfi.cell' Hab.out.2.2.1 (fun h => h)) ((hfi.cellF Hab.out.2.2.1 Hab.out.2.2.2 (fun h => h)).2))))
                  rw [← HM.out] at hso
                  obtain ⟨so, sc, rfl, _⟩ := EdsV.facts hso
                  rw [← HK.out]
                  have HSo : Hid (EdsV y9 (Iv y8.heap.size y9.heap.size) (.slice so M.length sc) M) := Lib.hid hso
                  have HZy9 : Hid (y8.heap.size ≤ y9.heap.size) := Lib.hid hfi.size
                  have HSy9 : Hid (Fx No y8 y9) := Lib.hid hfi
                  refine hK.out _ _ (hS.trans hfi) (fun hS' => ?_)
                  clear hK K hS hfi hso
                  have hS := hS'
                  clear hS'
                  try simp only [Act.put, List.getElem_toArray, List.getElem_cons_zero, List.getElem_cons_succ, List.setIfInBounds_toArray, List.set_cons_zero, List.set_cons_succ]
                  refine wpAnyH_take (i := 11) (v := ?_) rfl (by kernel_rfl) (by kernel_rfl) (by kernel_rfl) (fun _ _ _ h => h) (Or.inl ⟨by rfl, ?_⟩) hS ?_
                  rotate_left
                  · (intro W hs; go_simp; first | done | with_reducible rfl)
                  try simp only [Act.put, List.getElem_toArray, List.getElem_cons_zero, List.getElem_cons_succ, List.setIfInBounds_toArray, List.set_cons_zero, List.set_cons_succ]
                  refine wpAnyH_take (i := 12) (v := ?_) rfl (by kernel_rfl) (by kernel_rfl) (by kernel_rfl) (fun _ _ _ h => h) (Or.inl ⟨by rfl, ?_⟩) hS ?_
                  rotate_left
                  · (intro W hs; go_simp; first | done | with_reducible rfl)
                  try simp only [Act.put, List.getElem_toArray, List.getElem_cons_zero, List.getElem_cons_succ, List.setIfInBounds_toArray, List.set_cons_zero, List.set_cons_succ]
                  refine wpAnyH_take (i := 13) (v := ?_) rfl (by kernel_rfl) (by kernel_rfl) (by kernel_rfl) (fun _ _ _ h => h) (Or.inl ⟨by rfl, ?_⟩) hS ?_
                  rotate_left
                  · (intro W hs; go_simp; first | done | with_reducible rfl)
                  try simp only [Act.put, List.getElem_toArray, List.getElem_cons_zero, List.getElem_cons_succ, List.setIfInBounds_toArray, List.set_cons_zero, List.set_cons_succ]
                  refine wpAnyH_take (i := 14) (v := ?_) rfl (by kernel_rfl) (by kernel_rfl) (by kernel_rfl) (fun _ _ _ h => h) (Or.inl ⟨by rfl, ?_⟩) hS ?_
                  rotate_left
                  · (intro W hs; go_simp; first | done | with_reducible rfl)
                  try simp only [Act.put, List.getElem_toArray, List.getElem_cons_zero, List.getElem_cons_succ, List.setIfInBounds_toArray, List.set_cons_zero, List.set_cons_succ]
                  refine wpH_one (i := 15) (by kernel_rfl) rfl (fun K hK => ?_)
                  have q0 := Hab.out.1
                  have q1 := Hab.out.2.2.1
                  have qf0 := Hab.out.2.1
                  have qf1 := Hab.out.2.2.2
                  go_simp
                  refine hK.out _ _ ((hS.setCell (a := ⟨ab, 0, none⟩) (.inl HAlo.out) _).setCell (a := ⟨ab, 1, none⟩) (.inl HAlo.out) _) (fun hS' => ?_)
                  clear hK K hS
                  have hS := hS'
                  clear hS'
                  try simp only [Act.put, List.getElem_toArray, List.getElem_cons_zero, List.getElem_cons_succ, List.setIfInBounds_toArray, List.set_cons_zero, List.set_cons_succ]
                  clear q0 q1 qf0 qf1
                  refine wpAnyH_done (by kernel_rfl) ?_ _
                  have zy1 := HZy1.out
                  have zy2 := HZy2.out
                  have zy3 := HZy3.out
                  have zy4 := HZy4.out
                  have zy8 := HZy8.out
                  have zy9 := HZy9.out
                  obtain ⟨g1, g2, g3, g4⟩ := put_two y9 (qb := ab) (.int .i64 (K : Nat)) (.slice so M.length sc) Hab.out.1 Hab.out.2.2.1
                  have zab := HEab.out
                  have zlb := HLab.out
                  have hlo := HAlo.out
                  have hr2 := HB2.out
                  have hfz : Fx No w2 ((y9.setCell ⟨ab, 0, none⟩ (.int .i64 (K : Nat))).setCell ⟨ab, 1, none⟩ (.slice so M.length sc)) := hS
                  have hz0 := hS0.size
                  have HT : Hid (TS w ((y9.setCell ⟨ab, 0, none⟩ (.int .i64 (K : Nat))).setCell ⟨ab, 1, none⟩ (.slice so M.length sc)) ((y9.setCell ⟨ab, 0, none⟩ (.int .i64 (K : Nat))).setCell ⟨ab, 1, none⟩ (.slice so M.length sc)).heap.size rb gb N L ro rc D R pv ov cv wv ab (.slice so M.length sc) P O C Wn M K) := Lib.hid (by
                    rw [g4]
                    refine ⟨HG2.out.no hfz, ?_, IntsV.mono (IntsV.keep HOo.out g3 fun k hk e => ?_) fun k hk => ?_, IntsV.mono (IntsV.keep HCo.out g3 fun k hk e => ?_) fun k hk => ?_, RowV.mono (RowV.keep HWo.out g3 fun k hk e => ?_) fun k hk => ?_, g1, g2, RowV.mono (RowV.keep HSo.out g3 fun k hk e => ?_) fun k hk => ?_⟩
                    · obtain ⟨V, hV⟩ := HPo.out
                      refine ⟨V, (hV.keep g3 fun k hk e => ?_).mono fun k hk => ?_⟩
                      · have e : k = ab := e
                        have h1 := hk.1; have h2 := hk.2; omega
                      · have h2 := hk.2
                        show k < y9.heap.size
                        omega
                    all_goals first
                      | (have e : _ = ab := e; have h1 := hk.1; have h2 := hk.2; omega)
                      | (have h2 := hk.2; show _ < y9.heap.size; omega))
                  clear hS hS0 hfz g1 g2 g3 g4
                  go_wp2
                  go_meet
                  exact ⟨ab, _, rfl, HT.out⟩
              · go_simp
                have HB0 := Lib.hid hS.size
                have hfi : Fx No y3 (y3.alloc (.cells #[.int .i64 0, .slice none 0 0] 28)) := (Fx.refl No _).alloc _
                refine hK.out _ _ (hS.trans hfi) (fun hS' => ?_)
                clear hK K hS
                have hS := hS'
                clear hS'
                try simp only [Act.put, List.getElem_toArray, List.getElem_cons_zero, List.getElem_cons_succ, List.setIfInBounds_toArray, List.set_cons_zero, List.set_cons_succ]
                refine wpAnyH_hold (fun W' => Fx No y3 W' ∧ Fx No w2 W' ∧ y3.heap.size < W'.heap.size ∧ W'.cell? ⟨y3.heap.size, 0, none⟩ = some (.int .i64 0) ∧ W'.frozen? ⟨y3.heap.size, 0, none⟩ = false ∧ W'.cell? ⟨y3.heap.size, 1, none⟩ = some (.slice none 0 0) ∧ W'.frozen? ⟨y3.heap.size, 1, none⟩ = false) ⟨hfi, hS, by simp, by simp, by simp, by simp, by simp⟩ ?_
                clear hfi hS
                rintro y11 ⟨hfi, hS, hlt, hbx⟩
                obtain ⟨ab, hab⟩ : ∃ q, q = y3.heap.size := ⟨_, rfl⟩
                rw [← hab] at hbx hlt ⊢
                have HRw := Lib.hid (RowV.no HRw.out hfi)
                have HPo := Lib.hid (rowsEx_no HPo.out hfi)
                have HOo := Lib.hid (IntsV.no HOo.out hfi)
                have HCo := Lib.hid (IntsV.no HCo.out hfi)
                have Hab := Lib.hid hbx
                have HLab : Hid (ab < y11.heap.size) := Lib.hid hlt
                have HEab : Hid (ab = y3.heap.size) := Lib.hid hab
                have HZy11 : Hid (y3.heap.size ≤ y11.heap.size) := Lib.hid hfi.size
                have HAlo : Hid (w2.heap.size ≤ ab) := Lib.hid (by have h1 := hab; have h2 := HB0.out; omega)
                clear hbx hlt hab hfi HB0
                refine wpH_one (i := 7) (by kernel_rfl) rfl (fun K hK => ?_)
                go_simp
                refine (refWithin_any HRw.out (by omega) HNd.out (by omega) HEq.out HSm.out).mono ?_
                rintro e y12 ⟨wv, rfl, hfi, hwo⟩
                have HRw := Lib.hid (RowV.no HRw.out hfi)
                have HPo := Lib.hid (rowsEx_no HPo.out hfi)
                have HOo := Lib.hid (IntsV.no HOo.out hfi)
                have HCo := Lib.hid (IntsV.no HCo.out hfi)
                have Hab := Lib.hid (And.intro (hfi.cell' Hab.out.1 (fun h => h)) (And.intro ((hfi.cellF Hab.out.1 Hab.out.2.1 (fun h => h)).2) (And.intro (hfi.cell' Hab.out.2.2.1 (fun h => h)) ((hfi.cellF Hab.out.2.2.1 Hab.out.2.2.2 (fun h => h)).2))))
                have HWo : Hid (EdsV y12 (Iv y11.heap.size y12.heap.size) wv Wn) := Lib.hid (by rw [HWn.out]; exact OwnT.row hwo)
                have HZy12 : Hid (y11.heap.size ≤ y12.heap.size) := Lib.hid hfi.size
                have HSy12 : Hid (Fx No y11 y12) := Lib.hid hfi
                refine hK.out _ _ (hS.trans hfi) (fun hS' => ?_)
                clear hK K hS hfi hwo
                have hS := hS'
                clear hS'
                try simp only [Act.put, List.getElem_toArray, List.getElem_cons_zero, List.getElem_cons_succ, List.setIfInBounds_toArray, List.set_cons_zero, List.set_cons_succ]
                refine wpH_one (i := 9) (by kernel_rfl) rfl (fun K hK => ?_)
                go_simp
                refine (refShrink_any HRw.out (by omega) HNd.out (by omega) HEq.out HSm.out).mono ?_
                rintro e y13 ⟨sv, rfl, hfi, hso⟩
                have HRw := Lib.hid (RowV.no HRw.out hfi)
                have HPo := Lib.hid (rowsEx_no HPo.out hfi)
                have HOo := Lib.hid (IntsV.no HOo.out hfi)
                have HCo := Lib.hid (IntsV.no HCo.out hfi)
                have Hab := Lib.hid (And.intro (hfi.cell' Hab.out.1 (fun h => h)) (And.intro ((hfi.cellF Hab.out.1 Hab.out.2.1 (fun h => h)).2) (And.intro (hfi.cell' Hab.out.2.2.1 (fun h => h)) ((hfi.cellF Hab.out.2.2.1 Hab.out.2.2.2 (fun h => h)).2))))
                have HWo := Lib.hid (RowV.no HWo.out hfi)
                rw [← HM.out] at hso
                obtain ⟨so, sc, rfl, _⟩ := EdsV.facts hso
                rw [← HK.out]
                have HSo : Hid (EdsV y13 (Iv y12.heap.size y13.heap.size) (.slice so M.length sc) M) := Lib.hid hso
                have HZy13 : Hid (y12.heap.size ≤ y13.heap.size) := Lib.hid hfi.size
                have HSy13 : Hid (Fx No y12 y13) := Lib.hid hfi
                refine hK.out _ _ (hS.trans hfi) (fun hS' => ?_)
                clear hK K hS hfi hso
                have hS := hS'
                clear hS'
                try simp only [Act.put, List.getElem_toArray, List.getElem_cons_zero, List.getElem_cons_succ, List.setIfInBounds_toArray, List.set_cons_zero, List.set_cons_succ]
                refine wpAnyH_take (i := 11) (v := ?_) rfl (by kernel_rfl) (by kernel_rfl) (by kernel_rfl) (fun _ _ _ h => h) (Or.inl ⟨by rfl, ?_⟩) hS ?_
                rotate_left
                · (intro W hs; go_simp; first | done | with_reducible rfl)
                try simp only [Act.put, List.getElem_toArray, List.getElem_cons_zero, List.getElem_cons_succ, List.setIfInBounds_toArray, List.set_cons_zero, List.set_cons_succ]
                refine wpAnyH_take (i := 12) (v := ?_) rfl (by kernel_rfl) (by kernel_rfl) (by kernel_rfl) (fun _ _ _ h => h) (Or.inl ⟨by rfl, ?_⟩) hS ?_
                rotate_left
                · (intro W hs; go_simp; first | done | with_reducible rfl)
                try simp only [Act.put, List.getElem_toArray, List.getElem_cons_zero, List.getElem_cons_succ, List.setIfInBounds_toArray, List.set_cons_zero, List.set_cons_succ]
                refine wpAnyH_take (i := 13) (v := ?_) rfl (by kernel_rfl) (by kernel_rfl) (by kernel_rfl) (fun _ _ _ h => h) (Or.inl ⟨by rfl, ?_⟩) hS ?_
                rotate_left
                · (intro W hs; go_simp; first | done | with_reducible rfl)
                try simp only [Act.put, List.getElem_toArray, List.getElem_cons_zero, List.getElem_cons_succ, List.setIfInBounds_toArray, List.set_cons_zero, List.set_cons_succ]
                refine wpAnyH_take (i := 14) (v := ?_) rfl (by kernel_rfl) (by kernel_rfl) (by kernel_rfl) (fun _ _ _ h => h) (Or.inl ⟨by rfl, ?_⟩) hS ?_
                rotate_left
                · (intro W hs; go_simp; first | done | with_reducible rfl)
                try simp only [Act.put, List.getElem_toArray, List.getElem_cons_zero, List.getElem_cons_succ, List.setIfInBounds_toArray, List.set_cons_zero, List.set_cons_succ]
                refine wpH_one (i := 15) (by kernel_rfl) rfl (fun K hK => ?_)
                have q0 := Hab.out.1
                have q1 := Hab.out.2.2.1
                have qf0 := Hab.out.2.1
                have qf1 := Hab.out.2.2.2
                go_simp
                refine hK.out _ _ ((hS.setCell (a := ⟨ab, 0, none⟩) (.inl HAlo.out) _).setCell (a := ⟨ab, 1, none⟩) (.inl HAlo.out) _) (fun hS' => ?_)
                clear hK K hS
                have hS := hS'
                clear hS'
                try simp only [Act.put, List.getElem_toArray, List.getElem_cons_zero, List.getElem_cons_succ, List.setIfInBounds_toArray, List.set_cons_zero, List.set_cons_succ]
                clear q0 q1 qf0 qf1
                refine wpAnyH_done (by kernel_rfl) ?_ _
                have zy1 := HZy1.out
                have zy2 := HZy2.out
                have zy3 := HZy3.out
                have zy11 := HZy11.out
                have zy12 := HZy12.out
                have zy13 := HZy13.out
                obtain ⟨g1, g2, g3, g4⟩ := put_two y13 (qb := ab) (.int .i64 (K : Nat)) (.slice so M.length sc) Hab.out.1 Hab.out.2.2.1
                have zab := HEab.out
                have zlb := HLab.out
                have hlo := HAlo.out
                have hr2 := HB2.out
                have hfz : Fx No w2 ((y13.setCell ⟨ab, 0, none⟩ (.int .i64 (K : Nat))).setCell ⟨ab, 1, none⟩ (.slice so M.length sc)) := hS
                have hz0 := hS0.size
                have HT : Hid (TS w ((y13.setCell ⟨ab, 0, none⟩ (.int .i64 (K : Nat))).setCell ⟨ab, 1, none⟩ (.slice so M.length sc)) ((y13.setCell ⟨ab, 0, none⟩ (.int .i64 (K : Nat))).setCell ⟨ab, 1, none⟩ (.slice so M.length sc)).heap.size rb gb N L ro rc D R pv ov cv wv ab (.slice so M.length sc) P O C Wn M K) := Lib.hid (by
                  rw [g4]
                  refine ⟨HG2.out.no hfz, ?_, IntsV.mono (IntsV.keep HOo.out g3 fun k hk e => ?_) fun k hk => ?_, IntsV.mono (IntsV.keep HCo.out g3 fun k hk e => ?_) fun k hk => ?_, RowV.mono (RowV.keep HWo.out g3 fun k hk e => ?_) fun k hk => ?_, g1, g2, RowV.mono (RowV.keep HSo.out g3 fun k hk e => ?_) fun k hk => ?_⟩
                  · obtain ⟨V, hV⟩ := HPo.out
                    refine ⟨V, (hV.keep g3 fun k hk e => ?_).mono fun k hk => ?_⟩
                    · have e : k = ab := e
                      have h1 := hk.1; have h2 := hk.2; omega
                    · have h2 := hk.2
                      show k < y13.heap.size
                      omega
                  all_goals first
                    | (have e : _ = ab := e; have h1 := hk.1; have h2 := hk.2; omega)
                    | (have h2 := hk.2; show _ < y13.heap.size; omega))
                clear hS hS0 hfz g1 g2 g3 g4
                go_wp2
                go_meet
                exact ⟨ab, _, rfl, HT.out⟩
            · go_simp
              have HB0 := Lib.hid hS.size
              have hfi : Fx No y2 (y2.alloc (.cells #[.int .i64 0, .slice none 0 0] 28)) := (Fx.refl No _).alloc _
              refine hK.out _ _ (hS.trans hfi) (fun hS' => ?_)
              clear hK K hS
              have hS := hS'
              clear hS'
              try simp only [Act.put, List.getElem_toArray, List.getElem_cons_zero, List.getElem_cons_succ, List.setIfInBounds_toArray, List.set_cons_zero, List.set_cons_succ]
              refine wpAnyH_hold (fun W' => Fx No y2 W' ∧ Fx No w2 W' ∧ y2.heap.size < W'.heap.size ∧ W'.cell? ⟨y2.heap.size, 0, none⟩ = some (.int .i64 0) ∧ W'.frozen? ⟨y2.heap.size, 0, none⟩ = false ∧ W'.cell? ⟨y2.heap.size, 1, none⟩ = some (.slice none 0 0) ∧ W'.frozen? ⟨y2.heap.size, 1, none⟩ = false) ⟨hfi, hS, by simp, by simp, by simp, by simp, by simp⟩ ?_
              clear hfi hS
              rintro y15 ⟨hfi, hS, hlt, hbx⟩
              obtain ⟨ab, hab⟩ : ∃ q, q = y2.heap.size := ⟨_, rfl⟩
              rw [← hab] at hbx hlt ⊢
              have HRw := Lib.hid (RowV.no HRw.out hfi)
              have HPo := Lib.hid (rowsEx_no HPo.out hfi)
              have HOo := Lib.hid (IntsV.no HOo.out hfi)
              have Hab := Lib.hid hbx
              have HLab : Hid (ab < y15.heap.size) := Lib.hid hlt
              have HEab : Hid (ab = y2.heap.size) := Lib.hid hab
              have HZy15 : Hid (y2.heap.size ≤ y15.heap.size) := Lib.hid hfi.size
              have HAlo : Hid (w2.heap.size ≤ ab) := Lib.hid (by have h1 := hab; have h2 := HB0.out; omega)
              clear hbx hlt hab hfi HB0
              refine wpH_one (i := 5) (by kernel_rfl) rfl (fun K hK => ?_)
              go_simp
              refine (refClosed_any HRw.out (by omega) HNd.out HEq.out HSm.out C HC.out).mono ?_
              rintro e y16 ⟨cv, rfl, hfi, hco⟩
              have HRw := Lib.hid (RowV.no HRw.out hfi)
              have HPo := Lib.hid (rowsEx_no HPo.out hfi)
              have HOo := Lib.hid (IntsV.no HOo.out hfi)
              have Hab := Lib.hid (And.intro (hfi.cell' Hab.out.1 (fun h => h)) (And.intro ((hfi.cellF Hab.out.1 Hab.out.2.1 (fun h => h)).2) (And.intro (hfi.cell' Hab.out.2.2.1 (fun h => h)) ((hfi.cellF Hab.out.2.2.1 Hab.out.2.2.2 (fun h => h)).2))))
              have HCo : Hid (IntsV y16 (Iv y15.heap.size y16.heap.size) cv C) := Lib.hid (SlV.ofOwns hco)
              have HZy16 : Hid (y15.heap.size ≤ y16.heap.size) := Lib.hid hfi.size
              have HSy16 : Hid (Fx No y15 y16) := Lib.hid hfi
              refine hK.out _ _ (hS.trans hfi) (fun hS' => ?_)
              clear hK K hS hfi hco
              have hS := hS'
              clear hS'
              try simp only [Act.put, List.getElem_toArray, List.getElem_cons_zero, List.getElem_cons_succ, List.setIfInBounds_toArray, List.set_cons_zero, List.set_cons_succ]
              refine wpH_one (i := 7) (by kernel_rfl) rfl (fun K hK => ?_)
              go_simp
              refine (refWithin_any HRw.out (by omega) HNd.out (by omega) HEq.out HSm.out).mono ?_
              rintro e y17 ⟨wv, rfl, hfi, hwo⟩
              have HRw := Lib.hid (RowV.no HRw.out hfi)
              have HPo := Lib.hid (rowsEx_no HPo.out hfi)
              have HOo := Lib.hid (IntsV.no HOo.out hfi)
              have Hab := Lib.hid (And.intro (hfi.cell' Hab.out.1 (fun h => h)) (And.intro ((hfi.cellF Hab.out.1 Hab.out.2.1 (fun h => h)).2) (And.intro (hfi.cell' Hab.out.2.2.1 (fun h => h)) ((hfi.cellF Hab.out.2.2.1 Hab.out.2.2.2 (fun h => h)).2))))
              have HCo := Lib.hid (IntsV.no HCo.out hfi)
              have HWo : Hid (EdsV y17 (Iv y16.heap.size y17.heap.size) wv Wn) := Lib.hid (by rw [HWn.out]; exact OwnT.row hwo)
              have HZy17 : Hid (y16.heap.size ≤ y17.heap.size) := Lib.hid hfi.size
              have HSy17 : Hid (Fx No y16 y17) := Lib.hid hfi
              refine hK.out _ _ (hS.trans hfi) (fun hS' => ?_)
              clear hK K hS hfi hwo
              have hS := hS'
              clear hS'
              try simp only [Act.put, List.getElem_toArray, List.getElem_cons_zero, List.getElem_cons_succ, List.setIfInBounds_toArray, List.set_cons_zero, List.set_cons_succ]
              refine wpH_one (i := 9) (by kernel_rfl) rfl (fun K hK => ?_)
              go_simp
              refine (refShrink_any HRw.out (by omega) HNd.out (by omega) HEq.out HSm.out).mono ?_
              rintro e y18 ⟨sv, rfl, hfi, hso⟩
              have HRw := Lib.hid (RowV.no HRw.out hfi)
              have HPo := Lib.hid (rowsEx_no HPo.out hfi)
              have HOo := Lib.hid (IntsV.no HOo.out hfi)
              have Hab := Lib.hid (And.intro (hfi.cell' Hab.out.1 (fun h => h)) (And.intro ((hfi.cellF Hab.out.1 Hab.out.2.1 (fun h => h)).2) (And.intro (hfi.cell' Hab.out.2.2.1 (fun h => h)) ((hfi.cellF Hab.out.2.2.1 Hab.out.2.2.2 (fun h => h)).2))))
              have HCo := Lib.hid (IntsV.no HCo.out hfi)
              have HWo := Lib.hid (RowV.no HWo.out hfi)
              rw [← HM.out] at hso
              obtain ⟨so, sc, rfl, _⟩ := EdsV.facts hso
              rw [← HK.out]
              have HSo : Hid (EdsV y18 (Iv y17.heap.size y18.heap.size) (.slice so M.length sc) M) := Lib.hid hso
              have HZy18 : Hid (y17.heap.size ≤ y18.heap.size) := Lib.hid hfi.size
              have HSy18 : Hid (Fx No y17 y18) := Lib.hid hfi
              refine hK.out _ _ (hS.trans hfi) (fun hS' => ?_)
              clear hK K hS hfi hso
              have hS := hS'
              clear hS'
              try simp only [Act.put, List.getElem_toArray, List.getElem_cons_zero, List.getElem_cons_succ, List.setIfInBounds_toArray, List.set_cons_zero, List.set_cons_succ]
              refine wpAnyH_take (i := 11) (v := ?_) rfl (by kernel_rfl) (by kernel_rfl) (by kernel_rfl) (fun _ _ _ h => h) (Or.inl ⟨by rfl, ?_⟩) hS ?_
              rotate_left
              · (intro W hs; go_simp; first | done | with_reducible rfl)
              try simp only [Act.put, List.getElem_toArray, List.getElem_cons_zero, List.getElem_cons_succ, List.setIfInBounds_toArray, List.set_cons_zero, List.set_cons_succ]
              refine wpAnyH_take (i := 12) (v := ?_) rfl (by kernel_rfl) (by kernel_rfl) (by kernel_rfl) (fun _ _ _ h => h) (Or.inl ⟨by rfl, ?_⟩) hS ?_
              rotate_left
              · (intro W hs; go_simp; first | done | with_reducible rfl)
              try simp only [Act.put, List.getElem_toArray, List.getElem_cons_zero, List.getElem_cons_succ, List.setIfInBounds_toArray, List.set_cons_zero, List.set_cons_succ]
              refine wpAnyH_take (i := 13) (v := ?_) rfl (by kernel_rfl) (by kernel_rfl) (by kernel_rfl) (fun _ _ _ h => h) (Or.inl ⟨by rfl, ?_⟩) hS ?_
              rotate_left
              · (intro W hs; go_simp; first | done | with_reducible rfl)
              try simp only [Act.put, List.getElem_toArray, List.getElem_cons_zero, List.getElem_cons_succ, List.setIfInBounds_toArray, List.set_cons_zero, List.set_cons_succ]
              refine wpAnyH_take (i := 14) (v := ?_) rfl (by kernel_rfl) (by kernel_rfl) (by kernel_rfl) (fun _ _ _ h => h) (Or.inl ⟨by rfl, ?_⟩) hS ?_
              rotate_left
              · (intro W hs; go_simp; first | done | with_reducible rfl)
              try simp only [Act.put, List.getElem_toArray, List.getElem_cons_zero, List.getElem_cons_succ, List.setIfInBounds_toArray, List.set_cons_zero, List.set_cons_succ]
              refine wpH_one (i := 15) (by kernel_rfl) rfl (fun K hK => ?_)
              have q0 := Hab.out.1
              have q1 := Hab.out.2.2.1
              have qf0 := Hab.out.2.1
              have qf1 := Hab.out.2.2.2
              go_simp
              refine hK.out _ _ ((hS.setCell (a := ⟨ab, 0, none⟩) (.inl HAlo.out) _).setCell (a := ⟨ab, 1, none⟩) (.inl HAlo.out) _) (fun hS' => ?_)
              clear hK K hS
              have hS := hS'
              clear hS'
              try simp only [Act.put, List.getElem_toArray, List.getElem_cons_zero, List.getElem_cons_succ, List.setIfInBounds_toArray, List.set_cons_zero, List.set_cons_succ]
              clear q0 q1 qf0 qf1
              refine wpAnyH_done (by kernel_rfl) ?_ _
              have zy1 := HZy1.out
              have zy2 := HZy2.out
              have zy15 := HZy15.out
              have zy16 := HZy16.out
              have zy17 := HZy17.out
              have zy18 := HZy18.out
              obtain ⟨g1, g2, g3, g4⟩ := put_two y18 (qb := ab) (.int .i64 (K : Nat)) (.slice so M.length sc) Hab.out.1 Hab.out.2.2.1
              have zab := HEab.out
              have zlb := HLab.out
              have hlo := HAlo.out
              have hr2 := HB2.out
              have hfz : Fx No w2 ((y18.setCell ⟨ab, 0, none⟩ (.int .i64 (K : Nat))).setCell ⟨ab, 1, none⟩ (.slice so M.length sc)) := hS
              have hz0 := hS0.size
              have HT : Hid (TS w ((y18.setCell ⟨ab, 0, none⟩ (.int .i64 (K : Nat))).setCell ⟨ab, 1, none⟩ (.slice so M.length sc)) ((y18.setCell ⟨ab, 0, none⟩ (.int .i64 (K : Nat))).setCell ⟨ab, 1, none⟩ (.slice so M.length sc)).heap.size rb gb N L ro rc D R pv ov cv wv ab (.slice so M.length sc) P O C Wn M K) := Lib.hid (by
                rw [g4]
                refine ⟨HG2.out.no hfz, ?_, IntsV.mono (IntsV.keep HOo.out g3 fun k hk e => ?_) fun k hk => ?_, IntsV.mono (IntsV.keep HCo.out g3 fun k hk e => ?_) fun k hk => ?_, RowV.mono (RowV.keep HWo.out g3 fun k hk e => ?_) fun k hk => ?_, g1, g2, RowV.mono (RowV.keep HSo.out g3 fun k hk e => ?_) fun k hk => ?_⟩
                · obtain ⟨V, hV⟩ := HPo.out
                  refine ⟨V, (hV.keep g3 fun k hk e => ?_).mono fun k hk => ?_⟩
                  · have e : k = ab := e
                    have h1 := hk.1; have h2 := hk.2; omega
                  · have h2 := hk.2
                    show k < y18.heap.size
                    omega
                all_goals first
                  | (have e : _ = ab := e; have h1 := hk.1; have h2 := hk.2; omega)
                  | (have h2 := hk.2; show _ < y18.heap.size; omega))
              clear hS hS0 hfz g1 g2 g3 g4
              go_wp2
              go_meet
              exact ⟨ab, _, rfl, HT.out⟩
          · go_simp
            have HB0 := Lib.hid hS.size
            have hfi : Fx No y1 (y1.alloc (.cells #[.int .i64 0, .slice none 0 0] 28)) := (Fx.refl No _).alloc _
            refine hK.out _ _ (hS.trans hfi) (fun hS' => ?_)
            clear hK K hS
            have hS := hS'
            clear hS'
            try simp only [Act.put, List.getElem_toArray, List.getElem_cons_zero, List.getElem_cons_succ, List.setIfInBounds_toArray, List.set_cons_zero, List.set_cons_succ]
            refine wpAnyH_hold (fun W' => Fx No y1 W' ∧ Fx No w2 W' ∧ y1.heap.size < W'.heap.size ∧ W'.cell? ⟨y1.heap.size, 0, none⟩ = some (.int .i64 0) ∧ W'.frozen? ⟨y1.heap.size, 0, none⟩ = false ∧ W'.cell? ⟨y1.heap.size, 1, none⟩ = some (.slice none 0 0) ∧ W'.frozen? ⟨y1.heap.size, 1, none⟩ = false) ⟨hfi, hS, by simp, by simp, by simp, by simp, by simp⟩ ?_
            clear hfi hS
            rintro y20 ⟨hfi, hS, hlt, hbx⟩
            obtain ⟨ab, hab⟩ : ∃ q, q = y1.heap.size := ⟨_, rfl⟩
            rw [← hab] at hbx hlt ⊢
            have HRw := Lib.hid (RowV.no HRw.out hfi)
            have HPo := Lib.hid (rowsEx_no HPo.out hfi)
            have Hab := Lib.hid hbx
            have HLab : Hid (ab < y20.heap.size) := Lib.hid hlt
            have HEab : Hid (ab = y1.heap.size) := Lib.hid hab
            have HZy20 : Hid (y1.heap.size ≤ y20.heap.size) := Lib.hid hfi.size
            have HAlo : Hid (w2.heap.size ≤ ab) := Lib.hid (by have h1 := hab; have h2 := HB0.out; omega)
            clear hbx hlt hab hfi HB0
            refine wpH_one (i := 3) (by kernel_rfl) rfl (fun K hK => ?_)
            go_simp
            refine (refOf_any HRw.out (by omega) HNd.out HEq.out HSm.out).mono ?_
            rintro e y21 ⟨ov, rfl, hfi, hoo⟩
            have HRw := Lib.hid (RowV.no HRw.out hfi)
            have HPo := Lib.hid (rowsEx_no HPo.out hfi)
            have Hab := Lib.hid (And.intro (hfi.cell' Hab.out.1 (fun h => h)) (And.intro ((hfi.cellF Hab.out.1 Hab.out.2.1 (fun h => h)).2) (And.intro (hfi.cell' Hab.out.2.2.1 (fun h => h)) ((hfi.cellF Hab.out.2.2.1 Hab.out.2.2.2 (fun h => h)).2))))
            have HOo : Hid (IntsV y21 (Iv y20.heap.size y21.heap.size) ov O) := Lib.hid (by rw [HO.out]; have := SlV.ofOwns hoo; unfold IntsV; rw [cnoL_len]; exact this)
            have HZy21 : Hid (y20.heap.size ≤ y21.heap.size) := Lib.hid hfi.size
            have HSy21 : Hid (Fx No y20 y21) := Lib.hid hfi
            refine hK.out _ _ (hS.trans hfi) (fun hS' => ?_)
            clear hK K hS hfi hoo
            have hS := hS'
            clear hS'
            try simp only [Act.put, List.getElem_toArray, List.getElem_cons_zero, List.getElem_cons_succ, List.setIfInBounds_toArray, List.set_cons_zero, List.set_cons_succ]
            refine wpH_one (i := 5) (by kernel_rfl) rfl (fun K hK => ?_)
            go_simp
            refine (refClosed_any HRw.out (by omega) HNd.out HEq.out HSm.out C HC.out).mono ?_
            rintro e y22 ⟨cv, rfl, hfi, hco⟩
            have HRw := Lib.hid (RowV.no HRw.out hfi)
            have HPo := Lib.hid (rowsEx_no HPo.out hfi)
            have Hab := Lib.hid (And.intro (hfi.cell' Hab.out.1 (fun h => h)) (And.intro ((hfi.cellF Hab.out.1 Hab.out.2.1 (fun h => h)).2) (And.intro (hfi.cell' Hab.out.2.2.1 (fun h => h)) ((hfi.cellF Hab.out.2.2.1 Hab.out.2.2.2 (fun h => h)).2))))
            have HOo := Lib.hid (IntsV.no HOo.out hfi)
            have HCo : Hid (IntsV y22 (Iv y21.heap.size y22.heap.size) cv C) := Lib.hid (SlV.ofOwns hco)
            have HZy22 : Hid (y21.heap.size ≤ y22.heap.size) := Lib.hid hfi.size
            have HSy22 : Hid (Fx No y21 y22) := Lib.hid hfi
            refine hK.out _ _ (hS.trans hfi) (fun hS' => ?_)
            clear hK K hS hfi hco
            have hS := hS'
            clear hS'
            try simp only [Act.put, List.getElem_toArray, List.getElem_cons_zero, List.getElem_cons_succ, List.setIfInBounds_toArray, List.set_cons_zero, List.set_cons_succ]
            refine wpH_one (i := 7) (by kernel_rfl) rfl (fun K hK => ?_)
            go_simp
            refine (refWithin_any HRw.out (by omega) HNd.out (by omega) HEq.out HSm.out).mono ?_
            rintro e y23 ⟨wv, rfl, hfi, hwo⟩
            have HRw := Lib.hid (RowV.no HRw.out hfi)
            have HPo := Lib.hid (rowsEx_no HPo.out hfi)
            have Hab := Lib.hid (And.intro (hfi.cell' Hab.out.1 (fun h => h)) (And.intro ((hfi.cellF Hab.out.1 Hab.out.2.1 (fun h => h)).2) (And.intro (hfi.cell' Hab.out.2.2.1 (fun h => h)) ((hfi.cellF Hab.out.2.2.1 Hab.out.2.2.2 (fun h => h)).2))))
            have HOo := Lib.hid (IntsV.no HOo.out hfi)
            have HCo := Lib.hid (IntsV.no HCo.out hfi)
            have HWo : Hid (EdsV y23 (Iv y22.heap.size y23.heap.size) wv Wn) := Lib.hid (by rw [HWn.out]; exact OwnT.row hwo)
            have HZy23 : Hid (y22.heap.size ≤ y23.heap.size) := Lib.hid hfi.size
            have HSy23 : Hid (Fx No y22 y23) := Lib.hid hfi
            refine hK.out _ _ (hS.trans hfi) (fun hS' => ?_)
            clear hK K hS hfi hwo
            have hS := hS'
            clear hS'
            try simp only [Act.put, List.getElem_toArray, List.getElem_cons_zero, List.getElem_cons_succ, List.setIfInBounds_toArray, List.set_cons_zero, List.set_cons_succ]
            refine wpH_one (i := 9) (by kernel_rfl) rfl (fun K hK => ?_)
            go_simp
            refine (refShrink_any HRw.out (by omega) HNd.out (by omega) HEq.out HSm.out).mono ?_
            rintro e y24 ⟨sv, rfl, hfi, hso⟩
            have HRw := Lib.hid (RowV.no HRw.out hfi)
            have HPo := Lib.hid (rowsEx_no HPo.out hfi)
            have Hab := Lib.hid (And.intro (hfi.cell' Hab.out.1 (fun h => h)) (And.intro ((hfi.cellF Hab.out.1 Hab.out.2.1 (fun h => h)).2) (And.intro (hfi.cell' Hab.out.2.2.1 (fun h => h)) ((hfi.cellF Hab.out.2.2.1 Hab.out.2.2.2 (fun h => h)).2))))
            have HOo := Lib.hid (IntsV.no HOo.out hfi)
            have HCo := Lib.hid (IntsV.no HCo.out hfi)
            have HWo := Lib.hid (RowV.no HWo.out hfi)
            rw [← HM.out] at hso
            obtain ⟨so, sc, rfl, _⟩ := EdsV.facts hso
            rw [← HK.out]
            have HSo : Hid (EdsV y24 (Iv y23.heap.size y24.heap.size) (.slice so M.length sc) M) := Lib.hid hso
            have HZy24 : Hid (y23.heap.size ≤ y24.heap.size) := Lib.hid hfi.size
            have HSy24 : Hid (Fx No y23 y24) := Lib.hid hfi
            refine hK.out _ _ (hS.trans hfi) (fun hS' => ?_)
            clear hK K hS hfi hso
            have hS := hS'
            clear hS'
            try simp only [Act.put, List.getElem_toArray, List.getElem_cons_zero, List.getElem_cons_succ, List.setIfInBounds_toArray, List.set_cons_zero, List.set_cons_succ]
            refine wpAnyH_take (i := 11) (v := ?_) rfl (by kernel_rfl) (by kernel_rfl) (by kernel_rfl) (fun _ _ _ h => h) (Or.inl ⟨by rfl, ?_⟩) hS ?_
            rotate_left
            · (intro W hs; go_simp; first | done | with_reducible rfl)
            try simp only [Act.put, List.getElem_toArray, List.getElem_cons_zero, List.getElem_cons_succ, List.setIfInBounds_toArray, List.set_cons_zero, List.set_cons_succ]
            refine wpAnyH_take (i := 12) (v := ?_) rfl (by kernel_rfl) (by kernel_rfl) (by kernel_rfl) (fun _ _ _ h => h) (Or.inl ⟨by rfl, ?_⟩) hS ?_
            rotate_left
            · (intro W hs; go_simp; first | done | with_reducible rfl)
            try simp only [Act.put, List.getElem_toArray, List.getElem_cons_zero, List.getElem_cons_succ, List.setIfInBounds_toArray, List.set_cons_zero, List.set_cons_succ]
            refine wpAnyH_take (i := 13) (v := ?_) rfl (by kernel_rfl) (by kernel_rfl) (by kernel_rfl) (fun _ _ _ h => h) (Or.inl ⟨by rfl, ?_⟩) hS ?_
            rotate_left
            · (intro W hs; go_simp; first | done | with_reducible rfl)
            try simp only [Act.put, List.getElem_toArray, List.getElem_cons_zero, List.getElem_cons_succ, List.setIfInBounds_toArray, List.set_cons_zero, List.set_cons_succ]
            refine wpAnyH_take (i := 14) (v := ?_) rfl (by kernel_rfl) (by kernel_rfl) (by kernel_rfl) (fun _ _ _ h => h) (Or.inl ⟨by rfl, ?_⟩) hS ?_
            rotate_left
            · (intro W hs; go_simp; first | done | with_reducible rfl)
            try simp only [Act.put, List.getElem_toArray, List.getElem_cons_zero, List.getElem_cons_succ, List.setIfInBounds_toArray, List.set_cons_zero, List.set_cons_succ]
            refine wpH_one (i := 15) (by kernel_rfl) rfl (fun K hK => ?_)
            have q0 := Hab.out.1
            have q1 := Hab.out.2.2.1
            have qf0 := Hab.out.2.1
            have qf1 := Hab.out.2.2.2
            go_simp
            refine hK.out _ _ ((hS.setCell (a := ⟨ab, 0, none⟩) (.inl HAlo.out) _).setCell (a := ⟨ab, 1, none⟩) (.inl HAlo.out) _) (fun hS' => ?_)
            clear hK K hS
            have hS := hS'
            clear hS'
            try simp only [Act.put, List.getElem_toArray, List.getElem_cons_zero, List.getElem_cons_succ, List.setIfInBounds_toArray, List.set_cons_zero, List.set_cons_succ]
            clear q0 q1 qf0 qf1
            refine wpAnyH_done (by kernel_rfl) ?_ _
            have zy1 := HZy1.out
            have zy20 := HZy20.out
            have zy21 := HZy21.out
            have zy22 := HZy22.out
            have zy23 := HZy23.out
            have zy24 := HZy24.out
            obtain ⟨g1, g2, g3, g4⟩ := put_two y24 (qb := ab) (.int .i64 (K : Nat)) (.slice so M.length sc) Hab.out.1 Hab.out.2.2.1
            have zab := HEab.out
            have zlb := HLab.out
            have hlo := HAlo.out
            have hr2 := HB2.out
            have hfz : Fx No w2 ((y24.setCell ⟨ab, 0, none⟩ (.int .i64 (K : Nat))).setCell ⟨ab, 1, none⟩ (.slice so M.length sc)) := hS
            have hz0 := hS0.size
            have HT : Hid (TS w ((y24.setCell ⟨ab, 0, none⟩ (.int .i64 (K : Nat))).setCell ⟨ab, 1, none⟩ (.slice so M.length sc)) ((y24.setCell ⟨ab, 0, none⟩ (.int .i64 (K : Nat))).setCell ⟨ab, 1, none⟩ (.slice so M.length sc)).heap.size rb gb N L ro rc D R pv ov cv wv ab (.slice so M.length sc) P O C Wn M K) := Lib.hid (by
              rw [g4]
              refine ⟨HG2.out.no hfz, ?_, IntsV.mono (IntsV.keep HOo.out g3 fun k hk e => ?_) fun k hk => ?_, IntsV.mono (IntsV.keep HCo.out g3 fun k hk e => ?_) fun k hk => ?_, RowV.mono (RowV.keep HWo.out g3 fun k hk e => ?_) fun k hk => ?_, g1, g2, RowV.mono (RowV.keep HSo.out g3 fun k hk e => ?_) fun k hk => ?_⟩
              · obtain ⟨V, hV⟩ := HPo.out
                refine ⟨V, (hV.keep g3 fun k hk e => ?_).mono fun k hk => ?_⟩
                · have e : k = ab := e
                  have h1 := hk.1; have h2 := hk.2; omega
                · have h2 := hk.2
                  show k < y24.heap.size
                  omega
              all_goals first
                | (have e : _ = ab := e; have h1 := hk.1; have h2 := hk.2; omega)
                | (have h2 := hk.2; show _ < y24.heap.size; omega))
            clear hS hS0 hfz g1 g2 g3 g4
            go_wp2
            go_meet
            exact ⟨ab, _, rfl, HT.out⟩
        · go_simp
          have HB0 := Lib.hid hS.size
          have hfi : Fx No y0 (y0.alloc (.cells #[.int .i64 0, .slice none 0 0] 28)) := (Fx.refl No _).alloc _
          refine hK.out _ _ (hS.trans hfi) (fun hS' => ?_)
          clear hK K hS
          have hS := hS'
          clear hS'
          try simp only [Act.put, List.getElem_toArray, List.getElem_cons_zero, List.getElem_cons_succ, List.setIfInBounds_toArray, List.set_cons_zero, List.set_cons_succ]
          refine wpAnyH_hold (fun W' => Fx No y0 W' ∧ Fx No w2 W' ∧ y0.heap.size < W'.heap.size ∧ W'.cell? ⟨y0.heap.size, 0, none⟩ = some (.int .i64 0) ∧ W'.frozen? ⟨y0.heap.size, 0, none⟩ = false ∧ W'.cell? ⟨y0.heap.size, 1, none⟩ = some (.slice none 0 0) ∧ W'.frozen? ⟨y0.heap.size, 1, none⟩ = false) ⟨hfi, hS, by simp, by simp, by simp, by simp, by simp⟩ ?_
          clear hfi hS
          rintro y26 ⟨hfi, hS, hlt, hbx⟩
          obtain ⟨ab, hab⟩ : ∃ q, q = y0.heap.size := ⟨_, rfl⟩
          rw [← hab] at hbx hlt ⊢
          have HRw := Lib.hid (RowV.no HRw.out hfi)
          have Hab := Lib.hid hbx
          have HLab : Hid (ab < y26.heap.size) := Lib.hid hlt
          have HEab : Hid (ab = y0.heap.size) := Lib.hid hab
          have HZy26 : Hid (y0.heap.size ≤ y26.heap.size) := Lib.hid hfi.size
          have HAlo : Hid (w2.heap.size ≤ ab) := Lib.hid (by have h1 := hab; have h2 := HB0.out; omega)
          clear hbx hlt hab hfi HB0
          refine wpH_one (i := 1) (by kernel_rfl) rfl (fun K hK => ?_)
          go_simp
          refine (refParts_any HRw.out (by omega) HNd.out HEq.out HSm.out).mono ?_
          rintro e y27 ⟨pv, PV, rfl, hfi, hpo⟩
          have HRw := Lib.hid (RowV.no HRw.out hfi)
          have Hab := Lib.hid (And.intro (hfi.cell' Hab.out.1 (fun h => h)) (And.intro ((hfi.cellF Hab.out.1 Hab.out.2.1 (fun h => h)).2) (And.intro (hfi.cell' Hab.out.2.2.1 (fun h => h)) ((hfi.cellF Hab.out.2.2.1 Hab.out.2.2.2 (fun h => h)).2))))
          rw [← HP.out] at hpo
          have HPo : Hid (∃ V, RowsR y27 (Iv y26.heap.size y27.heap.size) pv P V) := Lib.hid ⟨_, hpo.rowsR⟩
          have HZy27 : Hid (y26.heap.size ≤ y27.heap.size) := Lib.hid hfi.size
          have HSy27 : Hid (Fx No y26 y27) := Lib.hid hfi
          refine hK.out _ _ (hS.trans hfi) (fun hS' => ?_)
          clear hK K hS hfi hpo
          have hS := hS'
          clear hS'
          try simp only [Act.put, List.getElem_toArray, List.getElem_cons_zero, List.getElem_cons_succ, List.setIfInBounds_toArray, List.set_cons_zero, List.set_cons_succ]
          refine wpH_one (i := 3) (by kernel_rfl) rfl (fun K hK => ?_)
          go_simp
          refine (refOf_any HRw.out (by omega) HNd.out HEq.out HSm.out).mono ?_
          rintro e y28 ⟨ov, rfl, hfi, hoo⟩
          have HRw := Lib.hid (RowV.no HRw.out hfi)
          have Hab := Lib.hid (And.intro (hfi.cell' Hab.out.1 (fun h => h)) (And.intro ((hfi.cellF Hab.out.1 Hab.out.2.1 (fun h => h)).2) (And.intro (hfi.cell' Hab.out.2.2.1 (fun h => h)) ((hfi.cellF Hab.out.2.2.1 Hab.out.2.2.2 (fun h => h)).2))))
          have HPo := Lib.hid (rowsEx_no HPo.out hfi)
          have HOo : Hid (IntsV y28 (Iv y27.heap.size y28.heap.size) ov O) := Lib.hid (by rw [HO.out]; have := SlV.ofOwns hoo; unfold IntsV; rw [cnoL_len]; exact this)
          have HZy28 : Hid (y27.heap.size ≤ y28.heap.size) := Lib.hid hfi.size
          have HSy28 : Hid (Fx No y27 y28) := Lib.hid hfi
          refine hK.out _ _ (hS.trans hfi) (fun hS' => ?_)
          clear hK K hS hfi hoo
          have hS := hS'
          clear hS'
          try simp only [Act.put, List.getElem_toArray, List.getElem_cons_zero, List.getElem_cons_succ, List.setIfInBounds_toArray, List.set_cons_zero, List.set_cons_succ]
          refine wpH_one (i := 5) (by kernel_rfl) rfl (fun K hK => ?_)
          go_simp
          refine (refClosed_any HRw.out (by omega) HNd.out HEq.out HSm.out C HC.out).mono ?_
          rintro e y29 ⟨cv, rfl, hfi, hco⟩
          have HRw := Lib.hid (RowV.no HRw.out hfi)
          have Hab := Lib.hid (And.intro (hfi.cell' Hab.out.1 (fun h => h)) (And.intro ((hfi.cellF Hab.out.1 Hab.out.2.1 (fun h => h)).2) (And.intro (hfi.cell' Hab.out.2.2.1 (fun h => h)) ((hfi.cellF Hab.out.2.2.1 Hab.out.2.2.2 (fun h => h)).2))))
          have HPo := Lib.hid (rowsEx_no HPo.out hfi)
          have HOo := Lib.hid (IntsV.no HOo.out hfi)
          have HCo : Hid (IntsV y29 (Iv y28.heap.size y29.heap.size) cv C) := Lib.hid (SlV.ofOwns hco)
          have HZy29 : Hid (y28.heap.size ≤ y29.heap.size) := Lib.hid hfi.size
          have HSy29 : Hid (Fx No y28 y29) := Lib.hid hfi
          refine hK.out _ _ (hS.trans hfi) (fun hS' => ?_)
          clear hK K hS hfi hco
          have hS := hS'
          clear hS'
          try simp only [Act.put, List.getElem_toArray, List.getElem_cons_zero, List.getElem_cons_succ, List.setIfInBounds_toArray, List.set_cons_zero, List.set_cons_succ]
          refine wpH_one (i := 7) (by kernel_rfl) rfl (fun K hK => ?_)
          go_simp
          refine (refWithin_any HRw.out (by omega) HNd.out (by omega) HEq.out HSm.out).mono ?_
          rintro e y30 ⟨wv, rfl, hfi, hwo⟩
          have HRw := Lib.hid (RowV.no HRw.out hfi)
          have Hab := Lib.hid (And.intro (hfi.cell' Hab.out.1 (fun h => h)) (And.intro ((hfi.cellF Hab.out.1 Hab.out.2.1 (fun h => h)).2) (And.intro (hfi.cell' Hab.out.2.2.1 (fun h => h)) ((hfi.cellF Hab.out.2.2.1 Hab.out.2.2.2 (fun h => h)).2))))
          have HPo := Lib.hid (rowsEx_no HPo.out hfi)
          have HOo := Lib.hid (IntsV.no HOo.out hfi)
          have HCo := Lib.hid (IntsV.no HCo.out hfi)
          have HWo : Hid (EdsV y30 (Iv y29.heap.size y30.heap.size) wv Wn) := Lib.hid (by rw [HWn.out]; exact OwnT.row hwo)
          have HZy30 : Hid (y29.heap.size ≤ y30.heap.size) := Lib.hid hfi.size
          have HSy30 : Hid (Fx No y29 y30) := Lib.hid hfi
          refine hK.out _ _ (hS.trans hfi) (fun hS' => ?_)
          clear hK K hS hfi hwo
          have hS := hS'
          clear hS'
          try simp only [Act.put, List.getElem_toArray, List.getElem_cons_zero, List.getElem_cons_succ, List.setIfInBounds_toArray, List.set_cons_zero, List.set_cons_succ]
          refine wpH_one (i := 9) (by kernel_rfl) rfl (fun K hK => ?_)
          go_simp
          refine (refShrink_any HRw.out (by omega) HNd.out (by omega) HEq.out HSm.out).mono ?_
          rintro e y31 ⟨sv, rfl, hfi, hso⟩
          have HRw := Lib.hid (RowV.no HRw.out hfi)
          have Hab := Lib.hid (And.intro (hfi.cell' Hab.out.1 (fun h => h)) (And.intro ((hfi.cellF Hab.out.1 Hab.out.2.1 (fun h => h)).2) (And.intro (hfi.cell' Hab.out.2.2.1 (fun h => h)) ((hfi.cellF Hab.out.2.2.1 Hab.out.2.2.2 (fun h => h)).2))))
          have HPo := Lib.hid (rowsEx_no HPo.out hfi)
          have HOo := Lib.hid (IntsV.no HOo.out hfi)
          have HCo := Lib.hid (IntsV.no HCo.out hfi)
          have HWo := Lib.hid (RowV.no HWo.out hfi)
          rw [← HM.out] at hso
          obtain ⟨so, sc, rfl, _⟩ := EdsV.facts hso
          rw [← HK.out]
          have HSo : Hid (EdsV y31 (Iv y30.heap.size y31.heap.size) (.slice so M.length sc) M) := Lib.hid hso
          have HZy31 : Hid (y30.heap.size ≤ y31.heap.size) := Lib.hid hfi.size
          have HSy31 : Hid (Fx No y30 y31) := Lib.hid hfi
          refine hK.out _ _ (hS.trans hfi) (fun hS' => ?_)
          clear hK K hS hfi hso
          have hS := hS'
          clear hS'
          try simp only [Act.put, List.getElem_toArray, List.getElem_cons_zero, List.getElem_cons_succ, List.setIfInBounds_toArray, List.set_cons_zero, List.set_cons_succ]
          refine wpAnyH_take (i := 11) (v := ?_) rfl (by kernel_rfl) (by kernel_rfl) (by kernel_rfl) (fun _ _ _ h => h) (Or.inl ⟨by rfl, ?_⟩) hS ?_
          rotate_left
          · (intro W hs; go_simp; first | done | with_reducible rfl)
          try simp only [Act.put, List.getElem_toArray, List.getElem_cons_zero, List.getElem_cons_succ, List.setIfInBounds_toArray, List.set_cons_zero, List.set_cons_succ]
          refine wpAnyH_take (i := 12) (v := ?_) rfl (by kernel_rfl) (by kernel_rfl) (by kernel_rfl) (fun _ _ _ h => h) (Or.inl ⟨by rfl, ?_⟩) hS ?_
          rotate_left
          · (intro W hs; go_simp; first | done | with_reducible rfl)
          try simp only [Act.put, List.getElem_toArray, List.getElem_cons_zero, List.getElem_cons_succ, List.setIfInBounds_toArray, List.set_cons_zero, List.set_cons_succ]
          refine wpAnyH_take (i := 13) (v := ?_) rfl (by kernel_rfl) (by kernel_rfl) (by kernel_rfl) (fun _ _ _ h => h) (Or.inl ⟨by rfl, ?_⟩) hS ?_
          rotate_left
          · (intro W hs; go_simp; first | done | with_reducible rfl)
          try simp only [Act.put, List.getElem_toArray, List.getElem_cons_zero, List.getElem_cons_succ, List.setIfInBounds_toArray, List.set_cons_zero, List.set_cons_succ]
          refine wpAnyH_take (i := 14) (v := ?_) rfl (by kernel_rfl) (by kernel_rfl) (by kernel_rfl) (fun _ _ _ h => h) (Or.inl ⟨by rfl, ?_⟩) hS ?_
          rotate_left
          · (intro W hs; go_simp; first | done | with_reducible rfl)
          try simp only [Act.put, List.getElem_toArray, List.getElem_cons_zero, List.getElem_cons_succ, List.setIfInBounds_toArray, List.set_cons_zero, List.set_cons_succ]
          refine wpH_one (i := 15) (by kernel_rfl) rfl (fun K hK => ?_)
          have q0 := Hab.out.1
          have q1 := Hab.out.2.2.1
          have qf0 := Hab.out.2.1
          have qf1 := Hab.out.2.2.2
          go_simp
          refine hK.out _ _ ((hS.setCell (a := ⟨ab, 0, none⟩) (.inl HAlo.out) _).setCell (a := ⟨ab, 1, none⟩) (.inl HAlo.out) _) (fun hS' => ?_)
          clear hK K hS
          have hS := hS'
          clear hS'
          try simp only [Act.put, List.getElem_toArray, List.getElem_cons_zero, List.getElem_cons_succ, List.setIfInBounds_toArray, List.set_cons_zero, List.set_cons_succ]
          clear q0 q1 qf0 qf1
          refine wpAnyH_done (by kernel_rfl) ?_ _
          have zy26 := HZy26.out
          have zy27 := HZy27.out
          have zy28 := HZy28.out
          have zy29 := HZy29.out
          have zy30 := HZy30.out
          have zy31 := HZy31.out
          obtain ⟨g1, g2, g3, g4⟩ := put_two y31 (qb := ab) (.int .i64 (K : Nat)) (.slice so M.length sc) Hab.out.1 Hab.out.2.2.1
          have zab := HEab.out
          have zlb := HLab.out
          have hlo := HAlo.out
          have hr2 := HB2.out
          have hfz : Fx No w2 ((y31.setCell ⟨ab, 0, none⟩ (.int .i64 (K : Nat))).setCell ⟨ab, 1, none⟩ (.slice so M.length sc)) := hS
          have hz0 := hS0.size
          have HT : Hid (TS w ((y31.setCell ⟨ab, 0, none⟩ (.int .i64 (K : Nat))).setCell ⟨ab, 1, none⟩ (.slice so M.length sc)) ((y31.setCell ⟨ab, 0, none⟩ (.int .i64 (K : Nat))).setCell ⟨ab, 1, none⟩ (.slice so M.length sc)).heap.size rb gb N L ro rc D R pv ov cv wv ab (.slice so M.length sc) P O C Wn M K) := Lib.hid (by
            rw [g4]
            refine ⟨HG2.out.no hfz, ?_, IntsV.mono (IntsV.keep HOo.out g3 fun k hk e => ?_) fun k hk => ?_, IntsV.mono (IntsV.keep HCo.out g3 fun k hk e => ?_) fun k hk => ?_, RowV.mono (RowV.keep HWo.out g3 fun k hk e => ?_) fun k hk => ?_, g1, g2, RowV.mono (RowV.keep HSo.out g3 fun k hk e => ?_) fun k hk => ?_⟩
            · obtain ⟨V, hV⟩ := HPo.out
              refine ⟨V, (hV.keep g3 fun k hk e => ?_).mono fun k hk => ?_⟩
              · have e : k = ab := e
                have h1 := hk.1; have h2 := hk.2; omega
              · have h2 := hk.2
                show k < y31.heap.size
                omega
            all_goals first
              | (have e : _ = ab := e; have h1 := hk.1; have h2 := hk.2; omega)
              | (have h2 := hk.2; show _ < y31.heap.size; omega))
          clear hS hS0 hfz g1 g2 g3 g4
          go_wp2
          go_meet
          exact ⟨ab, _, rfl, HT.out⟩
      case rest =>
        obtain ⟨wb, hwb⟩ : ∃ x, x = wc := ⟨_, rfl⟩
        subst hwb
        obtain ⟨sb, sv, rfl, hT⟩ := hcut
        obtain ⟨oo, oc, rfl, _⟩ := IntsV.facts hT.o
        obtain ⟨c1o, c1c, rfl, _⟩ := IntsV.facts hT.c
        obtain ⟨so, sc, rfl, _⟩ := EdsV.facts hT.m
        have HT := Lib.hid hT
        have HWl : Hid (Wn.length ≤ 70) := Lib.hid (by rw [HWn.out]; exact Nat.le_trans (List.length_filter_le _ _) hL70)
        have hcl : K ≤ N := by rw [HK.out]; simp only [canon, List.length_map]; exact reps_len N
        have HMl : Hid (M.length ≤ 70) := Lib.hid (by rw [HM.out]; exact Nat.le_trans (shr_len _ _) hL70)
        clear hT r0 r1
        go_wp2
        go_loopw [14] (fun i ws => ∃ k : Nat, i = .int .i64 k ∧ k ≤ 2 ∧ Fx No wb ws) (fun i _ => 2 - (intOf i).toNat)
        case atStart => exact ⟨0, rfl, by omega, Fx.refl _ _⟩
        case round =>
          obtain ⟨k, rfl, hk, hf⟩ := hrel
          obtain ⟨wo_, hwo⟩ : ∃ x, x = wr := ⟨_, rfl⟩
          subst hwo
          have HF := Lib.hid hf
          clear hf
          by_cases hlt : k < 2
          · have dk : (k : Int) < 2 := by omega
            go_wp2_with fail
            refine (within_any (HT.out.no HF.out).gs.g HEq.out HSm.out).mono ?_
            rw [← HWn.out]
            rintro e w8 ⟨v8, rfl, hf8, hv8⟩
            obtain ⟨wo, wc2, rfl, _⟩ := OwnT.row hv8
            have HF8 := Lib.hid (HF.out.trans hf8)
            have HW8 := Lib.hid hv8
            clear hf8 hv8
            go_wp2_with fail
            refine (shrink_any (HT.out.no HF8.out).gs.g (by omega) HEq.out HSm.out).mono ?_
            rw [← HK.out, ← HM.out]
            rintro e w9 ⟨s9, Ds, rfl, hf9, hg9, hd9⟩
            have HF9 := Lib.hid (HF8.out.trans hf9)
            have HW9 := Lib.hid (OwnT.no HW8.out hf9)
            have HS9 := Lib.hid hg9
            have HT9 := Lib.hid (HT.out.no HF9.out)
            have HZ9 : Hid (wb.heap.size ≤ w9.heap.size) := Lib.hid HF9.out.size
            have HD9 : Hid (∀ x, Ds x → wb.heap.size ≤ x) := Lib.hid fun x hx => by have := hd9 x hx; have := HF8.out.size; omega
            have HW8b : Hid (∀ g, (Value.slice wo Wn.length wc2).ownBlock = some g → g < w8.heap.size) := Lib.hid fun g e => (World.ownsRow.lt HW8.out g e).2
            have HD8 : Hid (∀ x, Ds x → w8.heap.size ≤ x) := Lib.hid hd9
            have HLo : Hid (wb.heap.size ≤ wo_.heap.size) := Lib.hid HF.out.size
            have hwl := HWl.out
            clear hf9 hg9 hd9
            go_upto_region 9 with fail
            have s0 : ∀ W, Fx No w9 W → W.cell? ⟨sb, 0, none⟩ = some (.int .i64 (K : Nat)) := fun W q => q.cell' HT9.out.s0 (fun q => q)
            have s1 : ∀ W, Fx No w9 W → W.cell? ⟨sb, 1, none⟩ = some (.slice so M.length sc) := fun W q => q.cell' HT9.out.s1 (fun q => q)
            go_cut [85] (fun s85 W => s85 = .bool false ∧ Fx No w9 W)
            case first =>
              refine wp_region_H (fun W => Fx No w9 W) (by kernel_rfl) ((Fx.refl _ _).drew) ?_
              intro hS
              refine wpAnyH_hold (fun W' => Fx No w9 W') hS ?_
              clear hS
              rintro y0 hS
              have hS0 := hS
              have HZy0 : Hid (w9.heap.size ≤ y0.heap.size) := Lib.hid hS.size
              refine wpAnyH_take (i := 0) (v := ?_) rfl (by kernel_rfl) (by kernel_rfl) (by kernel_rfl) (fun _ _ _ h => h) (Or.inl ⟨by rfl, ?_⟩) hS ?_
              rotate_left
              · (intro W hs; go_simp; first | done | with_reducible rfl)
              try simp only [Act.put, List.getElem_toArray, List.getElem_cons_zero, List.getElem_cons_succ, List.setIfInBounds_toArray, List.set_cons_zero, List.set_cons_succ]
              refine wpAnyH_take (i := 2) (v := ?_) rfl (by kernel_rfl) (by kernel_rfl) (by kernel_rfl) (fun _ _ _ h => h) (Or.inl ⟨by rfl, ?_⟩) hS ?_
              rotate_left
              · (intro W hs; go_simp; first | done | with_reducible rfl)
              try simp only [Act.put, List.getElem_toArray, List.getElem_cons_zero, List.getElem_cons_succ, List.setIfInBounds_toArray, List.set_cons_zero, List.set_cons_succ]
              refine wpH_one (i := 1) (by kernel_rfl) rfl (fun K hK => ?_)
              go_simp
              refine (partsW_any (HT9.out.no hS).gs.g HEq.out HSm.out).mono ?_
              rintro e y1 ⟨pq, BV, VV, rfl, hfi, hrw⟩
              rw [← HP.out] at hrw
              have HRW := Lib.hid hrw
              have HZy1 : Hid (y0.heap.size ≤ y1.heap.size) := Lib.hid hfi.size
              have HSy1 : Hid (Fx No y0 y1) := Lib.hid hfi
              refine hK.out _ _ (hS.trans hfi) (fun hS' => ?_)
              clear hK K hS hfi hrw
              have hS := hS'
              clear hS'
              try simp only [Act.put, List.getElem_toArray, List.getElem_cons_zero, List.getElem_cons_succ, List.setIfInBounds_toArray, List.set_cons_zero, List.set_cons_succ]
              refine wpH_one (i := 3) (by kernel_rfl) rfl (fun K hK => ?_)
              go_simp
              obtain ⟨Vr, hVr⟩ := (HT9.out.no hS).p
              have zy1 := HZy1.out
              have zy0 := HZy0.out
              have z9 := HZ9.out
              refine (rows_eq HRW.out hVr (fun k hk hd => by have h1 := hd.1; have hk : k < wb.heap.size := hk; omega)).mono ?_
              rintro e y2 ⟨rfl, hf0⟩
              have HZy2 : Hid (y1.heap.size ≤ y2.heap.size) := Lib.hid hf0.size
              refine hK.out _ _ (hS.trans' hf0 fun j e hl => by have h1 := e.1; omega) (fun hS' => ?_)
              clear hK K hS hf0 hVr HRW
              have hS := hS'
              clear hS'
              try simp only [Act.put, List.getElem_toArray, List.getElem_cons_zero, List.getElem_cons_succ, List.setIfInBounds_toArray, List.set_cons_zero, List.set_cons_succ]
              refine wpAnyH_take (i := 4) (v := ?_) rfl (by kernel_rfl) (by kernel_rfl) (by kernel_rfl) (fun _ _ _ h => h) (Or.inl ⟨by rfl, ?_⟩) hS ?_
              rotate_left
              · (intro W hs; go_simp; first | done | with_reducible rfl)
              try simp only [Act.put, List.getElem_toArray, List.getElem_cons_zero, List.getElem_cons_succ, List.setIfInBounds_toArray, List.set_cons_zero, List.set_cons_succ]
              refine wpAnyH_take (i := 5) (v := ?_) rfl (by kernel_rfl) (by kernel_rfl) (by kernel_rfl) (fun _ _ _ h => h) (Or.inl ⟨by rfl, ?_⟩) hS ?_
              rotate_left
              · (intro W hs; go_simp; first | done | with_reducible rfl)
              try simp only [Act.put, List.getElem_toArray, List.getElem_cons_zero, List.getElem_cons_succ, List.setIfInBounds_toArray, List.set_cons_zero, List.set_cons_succ]
              refine wpAnyH_take (i := 6) (v := ?_) rfl (by kernel_rfl) (by kernel_rfl) (by kernel_rfl) (fun _ _ _ h => h) (Or.inl ⟨by rfl, ?_⟩) hS ?_
              rotate_left
              · (intro W hs; go_simp; first | done | with_reducible rfl)
              try simp only [Act.put, List.getElem_toArray, List.getElem_cons_zero, List.getElem_cons_succ, List.setIfInBounds_toArray, List.set_cons_zero, List.set_cons_succ]
              refine wpAnyH_take (i := 8) (v := ?_) rfl (by kernel_rfl) (by kernel_rfl) (by kernel_rfl) (fun _ _ _ h => h) (Or.inl ⟨by rfl, ?_⟩) hS ?_
              rotate_left
              · (intro W hs; go_simp; first | done | with_reducible rfl)
              try simp only [Act.put, List.getElem_toArray, List.getElem_cons_zero, List.getElem_cons_succ, List.setIfInBounds_toArray, List.set_cons_zero, List.set_cons_succ]
              refine wpAnyH_take (i := 11) (v := ?_) rfl (by kernel_rfl) (by kernel_rfl) (by kernel_rfl) (fun _ _ _ h => h) (Or.inl ⟨by rfl, ?_⟩) hS ?_
              rotate_left
              · (intro W hs; go_simp; first | done | with_reducible rfl)
              try simp only [Act.put, List.getElem_toArray, List.getElem_cons_zero, List.getElem_cons_succ, List.setIfInBounds_toArray, List.set_cons_zero, List.set_cons_succ]
              refine wpAnyH_take (i := 12) (v := ?_) rfl (by kernel_rfl) (by kernel_rfl) (by kernel_rfl) (fun _ _ _ h => h) (Or.inl ⟨by rfl, ?_⟩) hS ?_
              rotate_left
              · (intro W hs; go_simp; first | done | with_reducible rfl)
              try simp only [Act.put, List.getElem_toArray, List.getElem_cons_zero, List.getElem_cons_succ, List.setIfInBounds_toArray, List.set_cons_zero, List.set_cons_succ]
              refine wpH_two (i := 7) (j := 13) (by kernel_rfl) rfl rfl (fun K hK => ?_) (fun K hK => ?_)
              · go_simp
                refine (sof_any (HT9.out.no hS).gs.g HEq.out HSm.out).mono ?_
                rintro e y3 ⟨og, rfl, hfi, hg1, hg2, hnb⟩
                have HOf := Lib.hid hnb
                have HOg : Hid (y2.heap.size ≤ og ∧ og < y3.heap.size) := Lib.hid ⟨hg1, hg2⟩
                have HZy3 : Hid (y2.heap.size ≤ y3.heap.size) := Lib.hid hfi.size
                have HSy3 : Hid (Fx No y2 y3) := Lib.hid hfi
                refine hK.out _ _ (hS.trans hfi) (fun hS' => ?_)
                clear hK K hS hfi hg1 hg2 hnb
                have hS := hS'
                clear hS'
                try simp only [Act.put, List.getElem_toArray, List.getElem_cons_zero, List.getElem_cons_succ, List.setIfInBounds_toArray, List.set_cons_zero, List.set_cons_succ]
                refine wpH_two (i := 9) (j := 13) (by kernel_rfl) rfl rfl (fun K hK => ?_) (fun K hK => ?_)
                · go_simp
                  refine (closedU_any (HT9.out.no hS).gs.g HEq.out HSm.out C HC.out).mono ?_
                  rintro e y4 ⟨cq, rfl, hfi, hcq⟩
                  have HOf := Lib.hid (NumB.keep HOf.out hfi (fun q => q))
                  obtain ⟨cg, cg1, cg2, cg3⟩ := own_pl hcq
                  obtain ⟨co, cc, rfl, _⟩ := SlV.ofOwns hcq
                  obtain ⟨ca, hca⟩ : ∃ x, x = y3.heap.size := ⟨_, rfl⟩
                  obtain ⟨cb, hcb⟩ : ∃ x, x = y4.heap.size := ⟨_, rfl⟩
                  have HCq : Hid (IntsV y4 (Iv ca cb) (.slice co C.length cc) C) := Lib.hid (by rw [hca, hcb]; exact SlV.ofOwns hcq)
                  have HCg : Hid (0 < C.length → ca ≤ cg ∧ cg < cb) := Lib.hid (by rw [hca, hcb]; exact cg1)
                  have HCp := Lib.hid cg2
                  have HCc := Lib.hid cg3
                  have HCa : Hid (ca = y3.heap.size ∧ cb = y4.heap.size) := Lib.hid ⟨hca, hcb⟩
                  have HZy4 : Hid (y3.heap.size ≤ y4.heap.size) := Lib.hid hfi.size
                  have HSy4 : Hid (Fx No y3 y4) := Lib.hid hfi
                  refine hK.out _ _ (hS.trans hfi) (fun hS' => ?_)
                  clear hK K hS hfi hcq cg1 cg2 cg3 hca hcb
                  have hS := hS'
                  clear hS'
                  try simp only [Act.put, List.getElem_toArray, List.getElem_cons_zero, List.getElem_cons_succ, List.setIfInBounds_toArray, List.set_cons_zero, List.set_cons_succ]
                  refine wpH_two (i := 10) (j := 13) (by kernel_rfl) rfl rfl (fun K hK => ?_) (fun K hK => ?_)
                  · have zy1 := HZy1.out
                    have zy2 := HZy2.out
                    have zy3 := HZy3.out
                    have zy4 := HZy4.out
                    have zy0 := HZy0.out
                    have z9 := HZ9.out
                    have HGc : Hid (0 < O.length → 0 < C.length → og ≠ cg) := Lib.hid fun h1 h2 => by have q1 := HOg.out; have q2 := HCg.out h2; have q3 := HCa.out; omega
                    go_simp
                    have hfi : Fx No y4 (y4.alloc (.cells #[.slice (some ⟨og, 0, none⟩) N N, .slice co C.length cc] 23)) := (Fx.refl No _).alloc _
                    refine hK.out _ _ (hS.trans hfi) (fun hS' => ?_)
                    clear hK K hS
                    have hS := hS'
                    clear hS'
                    try simp only [Act.put, List.getElem_toArray, List.getElem_cons_zero, List.getElem_cons_succ, List.setIfInBounds_toArray, List.set_cons_zero, List.set_cons_succ]
                    refine wpAnyH_hold (fun W' => Fx No y4 W' ∧ Fx No w9 W' ∧ y4.heap.size < W'.heap.size ∧ RowsW W' (fun k => (k = og ∨ Iv ca cb k) ∨ k = y4.heap.size) (.slice (some ⟨y4.heap.size, 0, none⟩) 2 2) [O, C] (fun i => if i = 0 then og else cg) (fun i => [Value.slice (some ⟨og, 0, none⟩) N N, Value.slice co C.length cc].getD i undef)) ⟨hfi, hS, by simp, RowsW.lit2 (D := fun k => k = og ∨ Iv ca cb k) (by rw [HO.out]; exact IntsV.mono (NumB.ints HOf.out (by omega)) fun k hk => .inl hk) (IntsV.mono HCq.out fun k hk => .inr hk) (fun _ => ⟨N, by rw [HO.out, cnoL_len]⟩) HCp.out (fun _ k hk => by rw [HO.out, cnoL_len] at hk; rw [HO.out, cnoL_at hk, Nat.zero_add]; exact HOf.out k hk) HCc.out HGc.out⟩ ?_
                    clear hfi hS
                    rintro y5 ⟨hfi, hS, hlt, hHL10⟩
                    obtain ⟨b10, hb10⟩ : ∃ q, q = y4.heap.size := ⟨_, rfl⟩
                    rw [← hb10] at hHL10 hlt ⊢
                    have HOf := Lib.hid (NumB.keep HOf.out hfi (fun q => q))
                    have HCq := Lib.hid (IntsV.no HCq.out hfi)
                    have HCc := Lib.hid (fun h0 k hk => hfi.cellF (HCc.out h0 k hk).1 (HCc.out h0 k hk).2 (fun q => q))
                    have HL10 := Lib.hid hHL10
                    have HLb10 : Hid (b10 < y5.heap.size) := Lib.hid hlt
                    have HEb10 : Hid (b10 = y4.heap.size) := Lib.hid hb10
                    have HZy5 : Hid (y4.heap.size ≤ y5.heap.size) := Lib.hid hfi.size
                    clear hHL10 hlt hb10 hfi
                    refine wpH_one (i := 13) (by kernel_rfl) rfl (fun K hK => ?_)
                    have HSc := Lib.hid hS
                    go_simp
                    have hfi : Fx No y5 (y5.alloc (.cells #[.slice oo O.length oc, .slice c1o C.length c1c] 23)) := (Fx.refl No _).alloc _
                    refine hK.out _ _ (hS.trans hfi) (fun hS' => ?_)
                    clear hK K hS
                    have hS := hS'
                    clear hS'
                    try simp only [Act.put, List.getElem_toArray, List.getElem_cons_zero, List.getElem_cons_succ, List.setIfInBounds_toArray, List.set_cons_zero, List.set_cons_succ]
                    refine wpAnyH_hold (fun W' => Fx No y5 W' ∧ Fx No w9 W' ∧ y5.heap.size < W'.heap.size ∧ RowsR W' (fun k => k < wb.heap.size ∨ k = y5.heap.size) (.slice (some ⟨y5.heap.size, 0, none⟩) 2 2) [O, C] (fun i => [Value.slice oo O.length oc, Value.slice c1o C.length c1c].getD i undef)) ⟨hfi, hS, by simp, RowsR.lit2 (HT9.out.no HSc.out).o (HT9.out.no HSc.out).c⟩ ?_
                    clear hfi hS
                    rintro y6 ⟨hfi, hS, hlt, hHL13⟩
                    obtain ⟨b13, hb13⟩ : ∃ q, q = y5.heap.size := ⟨_, rfl⟩
                    rw [← hb13] at hHL13 hlt ⊢
                    have HOf := Lib.hid (NumB.keep HOf.out hfi (fun q => q))
                    have HCq := Lib.hid (IntsV.no HCq.out hfi)
                    have HCc := Lib.hid (fun h0 k hk => hfi.cellF (HCc.out h0 k hk).1 (HCc.out h0 k hk).2 (fun q => q))
                    have HL10 := Lib.hid (RowsW.no HL10.out hfi)
                    have HL13 := Lib.hid hHL13
                    have HLb13 : Hid (b13 < y6.heap.size) := Lib.hid hlt
                    have HEb13 : Hid (b13 = y5.heap.size) := Lib.hid hb13
                    have HZy6 : Hid (y5.heap.size ≤ y6.heap.size) := Lib.hid hfi.size
                    clear hHL13 hlt hb13 hfi
                    refine wpH_one (i := 14) (by kernel_rfl) rfl (fun K hK => ?_)
                    go_simp
                    have zy1 := HZy1.out
                    have zy2 := HZy2.out
                    have zy3 := HZy3.out
                    have zy4 := HZy4.out
                    have zy5 := HZy5.out
                    have zy6 := HZy6.out
                    have zy0 := HZy0.out
                    have z9 := HZ9.out
                    have q1 := HOg.out
                    have q2 := HCa.out
                    have q3 := HEb10.out
                    have q4 := HEb13.out
                    have q5 := HLb10.out
                    have q6 := HLb13.out
                    refine (rows_eq HL10.out HL13.out (fun k hk hd => by rcases hd with (h1 | h1) | h1 <;> rcases hk with h2 | h2 <;> first | omega | (have h3 := h1.1; have h4 := h1.2; omega))).mono ?_
                    rintro e y7 ⟨rfl, hf0⟩
                    have HZy7 : Hid (y6.heap.size ≤ y7.heap.size) := Lib.hid hf0.size
                    refine hK.out _ _ (hS.trans' hf0 fun j e hl => by rcases e with (h1 | h1) | h1 <;> first | omega | (have h3 := h1.1; omega)) (fun hS' => ?_)
                    clear hK K hS hf0 q1 q2 q3 q4 q5 q6
                    have hS := hS'
                    clear hS'
                    try simp only [Act.put, List.getElem_toArray, List.getElem_cons_zero, List.getElem_cons_succ, List.setIfInBounds_toArray, List.set_cons_zero, List.set_cons_succ]
                    refine wpAnyH_take (i := 15) (v := ?_) rfl (by kernel_rfl) (by kernel_rfl) (by kernel_rfl) (fun _ _ _ h => h) (Or.inl ⟨by rfl, ?_⟩) hS ?_
                    rotate_left
                    · (intro W hs; go_simp; first | done | with_reducible rfl)
                    try simp only [Act.put, List.getElem_toArray, List.getElem_cons_zero, List.getElem_cons_succ, List.setIfInBounds_toArray, List.set_cons_zero, List.set_cons_succ]
                    refine wpAnyH_take (i := 16) (v := ?_) rfl (by kernel_rfl) (by kernel_rfl) (by kernel_rfl) (fun _ _ _ h => h) (Or.inl ⟨by rfl, ?_⟩) hS ?_
                    rotate_left
                    · (intro W hs; go_simp; first | done | with_reducible rfl)
                    try simp only [Act.put, List.getElem_toArray, List.getElem_cons_zero, List.getElem_cons_succ, List.setIfInBounds_toArray, List.set_cons_zero, List.set_cons_succ]
                    refine wpAnyH_take (i := 17) (v := ?_) rfl (by kernel_rfl) (by kernel_rfl) (by kernel_rfl) (fun _ _ _ h => h) (Or.inl ⟨by rfl, ?_⟩) hS ?_
                    rotate_left
                    · (intro W hs; go_simp; first | done | with_reducible rfl)
                    try simp only [Act.put, List.getElem_toArray, List.getElem_cons_zero, List.getElem_cons_succ, List.setIfInBounds_toArray, List.set_cons_zero, List.set_cons_succ]
                    refine wpAnyH_take (i := 18) (v := ?_) rfl (by kernel_rfl) (by kernel_rfl) (by kernel_rfl) (fun _ _ _ h => h) (Or.inl ⟨by rfl, ?_⟩) hS ?_
                    rotate_left
                    · (intro W hs; go_simp; first | done | with_reducible rfl)
                    try simp only [Act.put, List.getElem_toArray, List.getElem_cons_zero, List.getElem_cons_succ, List.setIfInBounds_toArray, List.set_cons_zero, List.set_cons_succ]
                    refine wpAnyH_take (i := 20) (v := ?_) rfl (by kernel_rfl) (by kernel_rfl) (by kernel_rfl) (fun _ _ _ h => h) (Or.inl ⟨by rfl, ?_⟩) hS ?_
                    rotate_left
                    · (intro W hs; go_simp; first | done | with_reducible rfl)
                    try simp only [Act.put, List.getElem_toArray, List.getElem_cons_zero, List.getElem_cons_succ, List.setIfInBounds_toArray, List.set_cons_zero, List.set_cons_succ]
                    refine wpH_one (i := 19) (by kernel_rfl) rfl (fun K hK => ?_)
                    go_simp
                    refine (docEdges_any (OwnT.row (OwnT.no HW9.out hS)) (by omega)).mono ?_
                    rintro e y8 ⟨de, rfl, hfi, hde⟩
                    have HDe := Lib.hid (OwnT.row hde)
                    have HZy8 : Hid (y7.heap.size ≤ y8.heap.size) := Lib.hid hfi.size
                    have HSy8 : Hid (Fx No y7 y8) := Lib.hid hfi
                    refine hK.out _ _ (hS.trans hfi) (fun hS' => ?_)
                    clear hK K hS hfi hde
                    have hS := hS'
                    clear hS'
                    try simp only [Act.put, List.getElem_toArray, List.getElem_cons_zero, List.getElem_cons_succ, List.setIfInBounds_toArray, List.set_cons_zero, List.set_cons_succ]
                    refine wpH_one (i := 21) (by kernel_rfl) rfl (fun K hK => ?_)
                    go_simp
                    refine (sameEdges_eq HDe.out (HT9.out.no hS).wn).mono ?_
                    rintro e y9 ⟨rfl, hfi⟩
                    have HZy9 : Hid (y8.heap.size ≤ y9.heap.size) := Lib.hid hfi.size
                    have HSy9 : Hid (Fx No y8 y9) := Lib.hid hfi
                    refine hK.out _ _ (hS.trans hfi) (fun hS' => ?_)
                    clear hK K hS hfi HDe
                    have hS := hS'
                    clear hS'
                    try simp only [Act.put, List.getElem_toArray, List.getElem_cons_zero, List.getElem_cons_succ, List.setIfInBounds_toArray, List.set_cons_zero, List.set_cons_succ]
                    refine wpAnyH_take (i := 22) (v := ?_) rfl (by kernel_rfl) (by kernel_rfl) (by kernel_rfl) (fun _ _ _ h => h) (Or.inl ⟨by rfl, ?_⟩) hS ?_
                    rotate_left
                    · (intro W hs; go_simp; first | done | with_reducible rfl)
                    try simp only [Act.put, List.getElem_toArray, List.getElem_cons_zero, List.getElem_cons_succ, List.setIfInBounds_toArray, List.set_cons_zero, List.set_cons_succ]
                    refine wpAnyH_take (i := 23) (v := ?_) rfl (by kernel_rfl) (by kernel_rfl) (by kernel_rfl) (fun _ _ _ h => h) (Or.inl ⟨by rfl, ?_⟩) hS ?_
                    rotate_left
                    · (intro W hs; go_simp; first | done | with_reducible rfl)
                    try simp only [Act.put, List.getElem_toArray, List.getElem_cons_zero, List.getElem_cons_succ, List.setIfInBounds_toArray, List.set_cons_zero, List.set_cons_succ]
                    refine wpAnyH_take (i := 24) (v := ?_) rfl (by kernel_rfl) (by kernel_rfl) (by kernel_rfl) (fun _ _ _ h => h) (Or.inl ⟨by rfl, ?_⟩) hS ?_
                    rotate_left
                    · (intro W hs; go_simp; first | done | with_reducible rfl)
                    try simp only [Act.put, List.getElem_toArray, List.getElem_cons_zero, List.getElem_cons_succ, List.setIfInBounds_toArray, List.set_cons_zero, List.set_cons_succ]
                    refine wpAnyH_take (i := 25) (v := ?_) rfl (by kernel_rfl) (by kernel_rfl) (by kernel_rfl) (fun _ _ _ h => h) (Or.inl ⟨by rfl, ?_⟩) hS ?_
                    rotate_left
                    · (intro W hs; go_simp; first | done | with_reducible rfl)
                    try simp only [Act.put, List.getElem_toArray, List.getElem_cons_zero, List.getElem_cons_succ, List.setIfInBounds_toArray, List.set_cons_zero, List.set_cons_succ]
                    refine wpAnyH_take (i := 26) (v := ?_) rfl (by kernel_rfl) (by kernel_rfl) (by kernel_rfl) (fun _ _ _ h => h) (Or.inl ⟨by rfl, ?_⟩) hS ?_
                    rotate_left
                    · (intro W hs; go_simp; first | done | with_reducible rfl)
                    try simp only [Act.put, List.getElem_toArray, List.getElem_cons_zero, List.getElem_cons_succ, List.setIfInBounds_toArray, List.set_cons_zero, List.set_cons_succ]
                    refine wpAnyH_take (i := 27) (v := ?_) rfl (by kernel_rfl) (by kernel_rfl) (by kernel_rfl) (fun _ _ _ h => h) (Or.inl ⟨by rfl, ?_⟩) hS ?_
                    rotate_left
                    · (intro W hs; go_simp; first | done | with_reducible rfl)
                    try simp only [Act.put, List.getElem_toArray, List.getElem_cons_zero, List.getElem_cons_succ, List.setIfInBounds_toArray, List.set_cons_zero, List.set_cons_succ]
                    refine wpAnyH_take (i := 28) (v := ?_) rfl (by kernel_rfl) (by kernel_rfl) (by kernel_rfl) (fun _ _ _ h => h) (Or.inl ⟨by rfl, ?_⟩) hS ?_
                    rotate_left
                    · (intro W hs; go_simp; first | done | with_reducible rfl)
                    try simp only [Act.put, List.getElem_toArray, List.getElem_cons_zero, List.getElem_cons_succ, List.setIfInBounds_toArray, List.set_cons_zero, List.set_cons_succ]
                    refine wpAnyH_take (i := 29) (v := ?_) rfl (by kernel_rfl) (by kernel_rfl) (by kernel_rfl) (fun _ _ _ h => h) (Or.inl ⟨by rfl, ?_⟩) hS ?_
                    rotate_left
                    · (intro W hs; go_simp; first | done | with_reducible rfl)
                    try simp only [Act.put, List.getElem_toArray, List.getElem_cons_zero, List.getElem_cons_succ, List.setIfInBounds_toArray, List.set_cons_zero, List.set_cons_succ]
                    refine wpAnyH_take (i := 31) (v := ?_) rfl (by kernel_rfl) (by kernel_rfl) (by kernel_rfl) (fun _ _ _ h => h) (Or.inl ⟨by rfl, ?_⟩) hS ?_
                    rotate_left
                    · (intro W hs; go_simp; first | done | with_reducible rfl)
                    try simp only [Act.put, List.getElem_toArray, List.getElem_cons_zero, List.getElem_cons_succ, List.setIfInBounds_toArray, List.set_cons_zero, List.set_cons_succ]
                    refine wpH_one (i := 30) (by kernel_rfl) rfl (fun K hK => ?_)
                    go_simp
                    refine (docGraph_any (HS9.out.no hS)).mono ?_
                    rintro e y10 ⟨dg, rfl, hfi, hdg⟩
                    have HDg := Lib.hid (OwnT.row hdg)
                    have HZy10 : Hid (y9.heap.size ≤ y10.heap.size) := Lib.hid hfi.size
                    have HSy10 : Hid (Fx No y9 y10) := Lib.hid hfi
                    refine hK.out _ _ (hS.trans hfi) (fun hS' => ?_)
                    clear hK K hS hfi hdg
                    have hS := hS'
                    clear hS'
                    try simp only [Act.put, List.getElem_toArray, List.getElem_cons_zero, List.getElem_cons_succ, List.setIfInBounds_toArray, List.set_cons_zero, List.set_cons_succ]
                    refine wpH_one (i := 32) (by kernel_rfl) rfl (fun K hK => ?_)
                    go_simp
                    refine (refSame_eq HDg.out (HT9.out.no hS).m _).mono ?_
                    rintro e y11 ⟨rfl, hfi⟩
                    have HZy11 : Hid (y10.heap.size ≤ y11.heap.size) := Lib.hid hfi.size
                    have HSy11 : Hid (Fx No y10 y11) := Lib.hid hfi
                    refine hK.out _ _ (hS.trans hfi) (fun hS' => ?_)
                    clear hK K hS hfi HDg
                    have hS := hS'
                    clear hS'
                    try simp only [Act.put, List.getElem_toArray, List.getElem_cons_zero, List.getElem_cons_succ, List.setIfInBounds_toArray, List.set_cons_zero, List.set_cons_succ]
                    refine wpAnyH_take (i := 33) (v := ?_) rfl (by kernel_rfl) (by kernel_rfl) (by kernel_rfl) (fun _ _ _ h => h) (Or.inl ⟨by rfl, ?_⟩) hS ?_
                    rotate_left
                    · (intro W hs; go_simp; first | done | with_reducible rfl)
                    try simp only [Act.put, List.getElem_toArray, List.getElem_cons_zero, List.getElem_cons_succ, List.setIfInBounds_toArray, List.set_cons_zero, List.set_cons_succ]
                    refine wpAnyH_take (i := 34) (v := ?_) rfl (by kernel_rfl) (by kernel_rfl) (by kernel_rfl) (fun _ _ _ h => h) (Or.inl ⟨by rfl, ?_⟩) hS ?_
                    rotate_left
                    · (intro W hs; go_simp; first | done | with_reducible rfl)
                    try simp only [Act.put, List.getElem_toArray, List.getElem_cons_zero, List.getElem_cons_succ, List.setIfInBounds_toArray, List.set_cons_zero, List.set_cons_succ]
                    refine wpAnyH_done (by kernel_rfl) ?_ _
                    have HFin := Lib.hid hS
                    clear hS hS0
                    go_wp2
                    go_meet
                    exact ⟨rfl, HFin.out⟩
                  · have HSc := Lib.hid hS
                    go_simp
                    have hfi : Fx No y4 (y4.alloc (.cells #[.slice oo O.length oc, .slice c1o C.length c1c] 23)) := (Fx.refl No _).alloc _
                    refine hK.out _ _ (hS.trans hfi) (fun hS' => ?_)
                    clear hK K hS
                    have hS := hS'
                    clear hS'
                    try simp only [Act.put, List.getElem_toArray, List.getElem_cons_zero, List.getElem_cons_succ, List.setIfInBounds_toArray, List.set_cons_zero, List.set_cons_succ]
                    refine wpAnyH_hold (fun W' => Fx No y4 W' ∧ Fx No w9 W' ∧ y4.heap.size < W'.heap.size ∧ RowsR W' (fun k => k < wb.heap.size ∨ k = y4.heap.size) (.slice (some ⟨y4.heap.size, 0, none⟩) 2 2) [O, C] (fun i => [Value.slice oo O.length oc, Value.slice c1o C.length c1c].getD i undef)) ⟨hfi, hS, by simp, RowsR.lit2 (HT9.out.no HSc.out).o (HT9.out.no HSc.out).c⟩ ?_
                    clear hfi hS
                    rintro y12 ⟨hfi, hS, hlt, hHL13⟩
                    obtain ⟨b13, hb13⟩ : ∃ q, q = y4.heap.size := ⟨_, rfl⟩
                    rw [← hb13] at hHL13 hlt ⊢
                    have HOf := Lib.hid (NumB.keep HOf.out hfi (fun q => q))
                    have HCq := Lib.hid (IntsV.no HCq.out hfi)
                    have HCc := Lib.hid (fun h0 k hk => hfi.cellF (HCc.out h0 k hk).1 (HCc.out h0 k hk).2 (fun q => q))
                    have HL13 := Lib.hid hHL13
                    have HLb13 : Hid (b13 < y12.heap.size) := Lib.hid hlt
                    have HEb13 : Hid (b13 = y4.heap.size) := Lib.hid hb13
                    have HZy12 : Hid (y4.heap.size ≤ y12.heap.size) := Lib.hid hfi.size
                    clear hHL13 hlt hb13 hfi
                    refine wpH_one (i := 10) (by kernel_rfl) rfl (fun K hK => ?_)
                    have zy1 := HZy1.out
                    have zy2 := HZy2.out
                    have zy3 := HZy3.out
                    have zy4 := HZy4.out
                    have zy12 := HZy12.out
                    have zy0 := HZy0.out
                    have z9 := HZ9.out
                    have HGc : Hid (0 < O.length → 0 < C.length → og ≠ cg) := Lib.hid fun h1 h2 => by have q1 := HOg.out; have q2 := HCg.out h2; have q3 := HCa.out; omega
                    go_simp
                    have hfi : Fx No y12 (y12.alloc (.cells #[.slice (some ⟨og, 0, none⟩) N N, .slice co C.length cc] 23)) := (Fx.refl No _).alloc _
                    refine hK.out _ _ (hS.trans hfi) (fun hS' => ?_)
                    clear hK K hS
                    have hS := hS'
                    clear hS'
                    try simp only [Act.put, List.getElem_toArray, List.getElem_cons_zero, List.getElem_cons_succ, List.setIfInBounds_toArray, List.set_cons_zero, List.set_cons_succ]
                    refine wpAnyH_hold (fun W' => Fx No y12 W' ∧ Fx No w9 W' ∧ y12.heap.size < W'.heap.size ∧ RowsW W' (fun k => (k = og ∨ Iv ca cb k) ∨ k = y12.heap.size) (.slice (some ⟨y12.heap.size, 0, none⟩) 2 2) [O, C] (fun i => if i = 0 then og else cg) (fun i => [Value.slice (some ⟨og, 0, none⟩) N N, Value.slice co C.length cc].getD i undef)) ⟨hfi, hS, by simp, RowsW.lit2 (D := fun k => k = og ∨ Iv ca cb k) (by rw [HO.out]; exact IntsV.mono (NumB.ints HOf.out (by omega)) fun k hk => .inl hk) (IntsV.mono HCq.out fun k hk => .inr hk) (fun _ => ⟨N, by rw [HO.out, cnoL_len]⟩) HCp.out (fun _ k hk => by rw [HO.out, cnoL_len] at hk; rw [HO.out, cnoL_at hk, Nat.zero_add]; exact HOf.out k hk) HCc.out HGc.out⟩ ?_
                    clear hfi hS
                    rintro y13 ⟨hfi, hS, hlt, hHL10⟩
                    obtain ⟨b10, hb10⟩ : ∃ q, q = y12.heap.size := ⟨_, rfl⟩
                    rw [← hb10] at hHL10 hlt ⊢
                    have HOf := Lib.hid (NumB.keep HOf.out hfi (fun q => q))
                    have HCq := Lib.hid (IntsV.no HCq.out hfi)
                    have HCc := Lib.hid (fun h0 k hk => hfi.cellF (HCc.out h0 k hk).1 (HCc.out h0 k hk).2 (fun q => q))
                    have HL13 := Lib.hid (RowsR.keep HL13.out hfi No.disj)
                    have HL10 := Lib.hid hHL10
                    have HLb10 : Hid (b10 < y13.heap.size) := Lib.hid hlt
                    have HEb10 : Hid (b10 = y12.heap.size) := Lib.hid hb10
                    have HZy13 : Hid (y12.heap.size ≤ y13.heap.size) := Lib.hid hfi.size
                    clear hHL10 hlt hb10 hfi
                    refine wpH_one (i := 14) (by kernel_rfl) rfl (fun K hK => ?_)
                    go_simp
                    have zy1 := HZy1.out
                    have zy2 := HZy2.out
                    have zy3 := HZy3.out
                    have zy4 := HZy4.out
                    have zy12 := HZy12.out
                    have zy13 := HZy13.out
                    have zy0 := HZy0.out
                    have z9 := HZ9.out
                    have q1 := HOg.out
                    have q2 := HCa.out
                    have q3 := HEb10.out
                    have q4 := HEb13.out
                    have q5 := HLb10.out
                    have q6 := HLb13.out
                    refine (rows_eq HL10.out HL13.out (fun k hk hd => by rcases hd with (h1 | h1) | h1 <;> rcases hk with h2 | h2 <;> first | omega | (have h3 := h1.1; have h4 := h1.2; omega))).mono ?_
                    rintro e y14 ⟨rfl, hf0⟩
                    have HZy14 : Hid (y13.heap.size ≤ y14.heap.size) := Lib.hid hf0.size
                    refine hK.out _ _ (hS.trans' hf0 fun j e hl => by rcases e with (h1 | h1) | h1 <;> first | omega | (have h3 := h1.1; omega)) (fun hS' => ?_)
                    clear hK K hS hf0 q1 q2 q3 q4 q5 q6
                    have hS := hS'
                    clear hS'
                    try simp only [Act.put, List.getElem_toArray, List.getElem_cons_zero, List.getElem_cons_succ, List.setIfInBounds_toArray, List.set_cons_zero, List.set_cons_succ]
                    refine wpAnyH_take (i := 15) (v := ?_) rfl (by kernel_rfl) (by kernel_rfl) (by kernel_rfl) (fun _ _ _ h => h) (Or.inl ⟨by rfl, ?_⟩) hS ?_
                    rotate_left
                    · (intro W hs; go_simp; first | done | with_reducible rfl)
                    try simp only [Act.put, List.getElem_toArray, List.getElem_cons_zero, List.getElem_cons_succ, List.setIfInBounds_toArray, List.set_cons_zero, List.set_cons_succ]
                    refine wpAnyH_take (i := 16) (v := ?_) rfl (by kernel_rfl) (by kernel_rfl) (by kernel_rfl) (fun _ _ _ h => h) (Or.inl ⟨by rfl, ?_⟩) hS ?_
                    rotate_left
                    · (intro W hs; go_simp; first | done | with_reducible rfl)
                    try simp only [Act.put, List.getElem_toArray, List.getElem_cons_zero, List.getElem_cons_succ, List.setIfInBounds_toArray, List.set_cons_zero, List.set_cons_succ]
                    refine wpAnyH_take (i := 17) (v := ?_) rfl (by kernel_rfl) (by kernel_rfl) (by kernel_rfl) (fun _ _ _ h => h) (Or.inl ⟨by rfl, ?_⟩) hS ?_
                    rotate_left
                    · (intro W hs; go_simp; first | done | with_reducible rfl)
                    try simp only [Act.put, List.getElem_toArray, List.getElem_cons_zero, List.getElem_cons_succ, List.setIfInBounds_toArray, List.set_cons_zero, List.set_cons_succ]
                    refine wpAnyH_take (i := 18) (v := ?_) rfl (by kernel_rfl) (by kernel_rfl) (by kernel_rfl) (fun _ _ _ h => h) (Or.inl ⟨by rfl, ?_⟩) hS ?_
                    rotate_left
                    · (intro W hs; go_simp; first | done | with_reducible rfl)
                    try simp only [Act.put, List.getElem_toArray, List.getElem_cons_zero, List.getElem_cons_succ, List.setIfInBounds_toArray, List.set_cons_zero, List.set_cons_succ]
                    refine wpAnyH_take (i := 20) (v := ?_) rfl (by kernel_rfl) (by kernel_rfl) (by kernel_rfl) (fun _ _ _ h => h) (Or.inl ⟨by rfl, ?_⟩) hS ?_
                    rotate_left
                    · (intro W hs; go_simp; first | done | with_reducible rfl)
                    try simp only [Act.put, List.getElem_toArray, List.getElem_cons_zero, List.getElem_cons_succ, List.setIfInBounds_toArray, List.set_cons_zero, List.set_cons_succ]
                    refine wpH_one (i := 19) (by kernel_rfl) rfl (fun K hK => ?_)
                    go_simp
                    refine (docEdges_any (OwnT.row (OwnT.no HW9.out hS)) (by omega)).mono ?_
                    rintro e y15 ⟨de, rfl, hfi, hde⟩
                    have HDe := Lib.hid (OwnT.row hde)
                    have HZy15 : Hid (y14.heap.size ≤ y15.heap.size) := Lib.hid hfi.size
                    have HSy15 : Hid (Fx No y14 y15) := Lib.hid hfi
                    refine hK.out _ _ (hS.trans hfi) (fun hS' => ?_)
                    clear hK K hS hfi hde
                    have hS := hS'
                    clear hS'
                    try simp only [Act.put, List.getElem_toArray, List.getElem_cons_zero, List.getElem_cons_succ, List.setIfInBounds_toArray, List.set_cons_zero, List.set_cons_succ]
                    refine wpH_one (i := 21) (by kernel_rfl) rfl (fun K hK => ?_)
                    go_simp
                    refine (sameEdges_eq HDe.out (HT9.out.no hS).wn).mono ?_
                    rintro e y16 ⟨rfl, hfi⟩
                    have HZy16 : Hid (y15.heap.size ≤ y16.heap.size) := Lib.hid hfi.size
                    have HSy16 : Hid (Fx No y15 y16) := Lib.hid hfi
                    refine hK.out _ _ (hS.trans hfi) (fun hS' => ?_)
                    clear hK K hS hfi HDe
                    have hS := hS'
                    clear hS'
                    try simp only [Act.put, List.getElem_toArray, List.getElem_cons_zero, List.getElem_cons_succ, List.setIfInBounds_toArray, List.set_cons_zero, List.set_cons_succ]
                    refine wpAnyH_take (i := 22) (v := ?_) rfl (by kernel_rfl) (by kernel_rfl) (by kernel_rfl) (fun _ _ _ h => h) (Or.inl ⟨by rfl, ?_⟩) hS ?_
                    rotate_left
                    · (intro W hs; go_simp; first | done | with_reducible rfl)
                    try simp only [Act.put, List.getElem_toArray, List.getElem_cons_zero, List.getElem_cons_succ, List.setIfInBounds_toArray, List.set_cons_zero, List.set_cons_succ]
                    refine wpAnyH_take (i := 23) (v := ?_) rfl (by kernel_rfl) (by kernel_rfl) (by kernel_rfl) (fun _ _ _ h => h) (Or.inl ⟨by rfl, ?_⟩) hS ?_
                    rotate_left
                    · (intro W hs; go_simp; first | done | with_reducible rfl)
                    try simp only [Act.put, List.getElem_toArray, List.getElem_cons_zero, List.getElem_cons_succ, List.setIfInBounds_toArray, List.set_cons_zero, List.set_cons_succ]
                    refine wpAnyH_take (i := 24) (v := ?_) rfl (by kernel_rfl) (by kernel_rfl) (by kernel_rfl) (fun _ _ _ h => h) (Or.inl ⟨by rfl, ?_⟩) hS ?_
                    rotate_left
                    · (intro W hs; go_simp; first | done | with_reducible rfl)
                    try simp only [Act.put, List.getElem_toArray, List.getElem_cons_zero, List.getElem_cons_succ, List.setIfInBounds_toArray, List.set_cons_zero, List.set_cons_succ]
                    refine wpAnyH_take (i := 25) (v := ?_) rfl (by kernel_rfl) (by kernel_rfl) (by kernel_rfl) (fun _ _ _ h => h) (Or.inl ⟨by rfl, ?_⟩) hS ?_
                    rotate_left
                    · (intro W hs; go_simp; first | done | with_reducible rfl)
                    try simp only [Act.put, List.getElem_toArray, List.getElem_cons_zero, List.getElem_cons_succ, List.setIfInBounds_toArray, List.set_cons_zero, List.set_cons_succ]
                    refine wpAnyH_take (i := 26) (v := ?_) rfl (by kernel_rfl) (by kernel_rfl) (by kernel_rfl) (fun _ _ _ h => h) (Or.inl ⟨by rfl, ?_⟩) hS ?_
                    rotate_left
                    · (intro W hs; go_simp; first | done | with_reducible rfl)
                    try simp only [Act.put, List.getElem_toArray, List.getElem_cons_zero, List.getElem_cons_succ, List.setIfInBounds_toArray, List.set_cons_zero, List.set_cons_succ]
                    refine wpAnyH_take (i := 27) (v := ?_) rfl (by kernel_rfl) (by kernel_rfl) (by kernel_rfl) (fun _ _ _ h => h) (Or.inl ⟨by rfl, ?_⟩) hS ?_
                    rotate_left
                    · (intro W hs; go_simp; first | done | with_reducible rfl)
                    try simp only [Act.put, List.getElem_toArray, List.getElem_cons_zero, List.getElem_cons_succ, List.setIfInBounds_toArray, List.set_cons_zero, List.set_cons_succ]
                    refine wpAnyH_take (i := 28) (v := ?_) rfl (by kernel_rfl) (by kernel_rfl) (by kernel_rfl) (fun _ _ _ h => h) (Or.inl ⟨by rfl, ?_⟩) hS ?_
                    rotate_left
                    · (intro W hs; go_simp; first | done | with_reducible rfl)
                    try simp only [Act.put, List.getElem_toArray, List.getElem_cons_zero, List.getElem_cons_succ, List.setIfInBounds_toArray, List.set_cons_zero, List.set_cons_succ]
                    refine wpAnyH_take (i := 29) (v := ?_) rfl (by kernel_rfl) (by kernel_rfl) (by kernel_rfl) (fun _ _ _ h => h) (Or.inl ⟨by rfl, ?_⟩) hS ?_
                    rotate_left
                    · (intro W hs; go_simp; first | done | with_reducible rfl)
                    try simp only [Act.put, List.getElem_toArray, List.getElem_cons_zero, List.getElem_cons_succ, List.setIfInBounds_toArray, List.set_cons_zero, List.set_cons_succ]
                    refine wpAnyH_take (i := 31) (v := ?_) rfl (by kernel_rfl) (by kernel_rfl) (by kernel_rfl) (fun _ _ _ h => h) (Or.inl ⟨by rfl, ?_⟩) hS ?_
                    rotate_left
                    · (intro W hs; go_simp; first | done | with_reducible rfl)
                    try simp only [Act.put, List.getElem_toArray, List.getElem_cons_zero, List.getElem_cons_succ, List.setIfInBounds_toArray, List.set_cons_zero, List.set_cons_succ]
                    refine wpH_one (i := 30) (by kernel_rfl) rfl (fun K hK => ?_)
                    go_simp
                    refine (docGraph_any (HS9.out.no hS)).mono ?_
                    rintro e y17 ⟨dg, rfl, hfi, hdg⟩
                    have HDg := Lib.hid (OwnT.row hdg)
                    have HZy17 : Hid (y16.heap.size ≤ y17.heap.size) := Lib.hid hfi.size
                    have HSy17 : Hid (Fx No y16 y17) := Lib.hid hfi
                    refine hK.out _ _ (hS.trans hfi) (fun hS' => ?_)
                    clear hK K hS hfi hdg
                    have hS := hS'
                    clear hS'
                    try simp only [Act.put, List.getElem_toArray, List.getElem_cons_zero, List.getElem_cons_succ, List.setIfInBounds_toArray, List.set_cons_zero, List.set_cons_succ]
                    refine wpH_one (i := 32) (by kernel_rfl) rfl (fun K hK => ?_)
                    go_simp
                    refine (refSame_eq HDg.out (HT9.out.no hS).m _).mono ?_
                    rintro e y18 ⟨rfl, hfi⟩
                    have HZy18 : Hid (y17.heap.size ≤ y18.heap.size) := Lib.hid hfi.size
                    have HSy18 : Hid (Fx No y17 y18) := Lib.hid hfi
                    refine hK.out _ _ (hS.trans hfi) (fun hS' => ?_)
                    clear hK K hS hfi HDg
                    have hS := hS'
                    clear hS'
                    try simp only [Act.put, List.getElem_toArray, List.getElem_cons_zero, List.getElem_cons_succ, List.setIfInBounds_toArray, List.set_cons_zero, List.set_cons_succ]
                    refine wpAnyH_take (i := 33) (v := ?_) rfl (by kernel_rfl) (by kernel_rfl) (by kernel_rfl) (fun _ _ _ h => h) (Or.inl ⟨by rfl, ?_⟩) hS ?_
                    rotate_left
                    · (intro W hs; go_simp; first | done | with_reducible rfl)
                    try simp only [Act.put, List.getElem_toArray, List.getElem_cons_zero, List.getElem_cons_succ, List.setIfInBounds_toArray, List.set_cons_zero, List.set_cons_succ]
                    refine wpAnyH_take (i := 34) (v := ?_) rfl (by kernel_rfl) (by kernel_rfl) (by kernel_rfl) (fun _ _ _ h => h) (Or.inl ⟨by rfl, ?_⟩) hS ?_
                    rotate_left
                    · (intro W hs; go_simp; first | done | with_reducible rfl)
                    try simp only [Act.put, List.getElem_toArray, List.getElem_cons_zero, List.getElem_cons_succ, List.setIfInBounds_toArray, List.set_cons_zero, List.set_cons_succ]
                    refine wpAnyH_done (by kernel_rfl) ?_ _
                    have HFin := Lib.hid hS
                    clear hS hS0
                    go_wp2
                    go_meet
                    exact ⟨rfl, HFin.out⟩
                · have HSc := Lib.hid hS
                  go_simp
                  have hfi : Fx No y3 (y3.alloc (.cells #[.slice oo O.length oc, .slice c1o C.length c1c] 23)) := (Fx.refl No _).alloc _
                  refine hK.out _ _ (hS.trans hfi) (fun hS' => ?_)
                  clear hK K hS
                  have hS := hS'
                  clear hS'
                  try simp only [Act.put, List.getElem_toArray, List.getElem_cons_zero, List.getElem_cons_succ, List.setIfInBounds_toArray, List.set_cons_zero, List.set_cons_succ]
                  refine wpAnyH_hold (fun W' => Fx No y3 W' ∧ Fx No w9 W' ∧ y3.heap.size < W'.heap.size ∧ RowsR W' (fun k => k < wb.heap.size ∨ k = y3.heap.size) (.slice (some ⟨y3.heap.size, 0, none⟩) 2 2) [O, C] (fun i => [Value.slice oo O.length oc, Value.slice c1o C.length c1c].getD i undef)) ⟨hfi, hS, by simp, RowsR.lit2 (HT9.out.no HSc.out).o (HT9.out.no HSc.out).c⟩ ?_
                  clear hfi hS
                  rintro y19 ⟨hfi, hS, hlt, hHL13⟩
                  obtain ⟨b13, hb13⟩ : ∃ q, q = y3.heap.size := ⟨_, rfl⟩
                  rw [← hb13] at hHL13 hlt ⊢
                  have HOf := Lib.hid (NumB.keep HOf.out hfi (fun q => q))
                  have HL13 := Lib.hid hHL13
                  have HLb13 : Hid (b13 < y19.heap.size) := Lib.hid hlt
                  have HEb13 : Hid (b13 = y3.heap.size) := Lib.hid hb13
                  have HZy19 : Hid (y3.heap.size ≤ y19.heap.size) := Lib.hid hfi.size
                  clear hHL13 hlt hb13 hfi
                  refine wpH_one (i := 9) (by kernel_rfl) rfl (fun K hK => ?_)
                  go_simp
                  refine (closedU_any (HT9.out.no hS).gs.g HEq.out HSm.out C HC.out).mono ?_
                  rintro e y20 ⟨cq, rfl, hfi, hcq⟩
                  have HOf := Lib.hid (NumB.keep HOf.out hfi (fun q => q))
                  have HL13 := Lib.hid (RowsR.keep HL13.out hfi No.disj)
                  obtain ⟨cg, cg1, cg2, cg3⟩ := own_pl hcq
                  obtain ⟨co, cc, rfl, _⟩ := SlV.ofOwns hcq
                  obtain ⟨ca, hca⟩ : ∃ x, x = y19.heap.size := ⟨_, rfl⟩
                  obtain ⟨cb, hcb⟩ : ∃ x, x = y20.heap.size := ⟨_, rfl⟩
                  have HCq : Hid (IntsV y20 (Iv ca cb) (.slice co C.length cc) C) := Lib.hid (by rw [hca, hcb]; exact SlV.ofOwns hcq)
                  have HCg : Hid (0 < C.length → ca ≤ cg ∧ cg < cb) := Lib.hid (by rw [hca, hcb]; exact cg1)
                  have HCp := Lib.hid cg2
                  have HCc := Lib.hid cg3
                  have HCa : Hid (ca = y19.heap.size ∧ cb = y20.heap.size) := Lib.hid ⟨hca, hcb⟩
                  have HZy20 : Hid (y19.heap.size ≤ y20.heap.size) := Lib.hid hfi.size
                  have HSy20 : Hid (Fx No y19 y20) := Lib.hid hfi
                  refine hK.out _ _ (hS.trans hfi) (fun hS' => ?_)
                  clear hK K hS hfi hcq cg1 cg2 cg3 hca hcb
                  have hS := hS'
                  clear hS'
                  try simp only [Act.put, List.getElem_toArray, List.getElem_cons_zero, List.getElem_cons_succ, List.setIfInBounds_toArray, List.set_cons_zero, List.set_cons_succ]
                  refine wpH_one (i := 10) (by kernel_rfl) rfl (fun K hK => ?_)
                  have zy1 := HZy1.out
                  have zy2 := HZy2.out
                  have zy3 := HZy3.out
                  have zy19 := HZy19.out
                  have zy20 := HZy20.out
                  have zy0 := HZy0.out
                  have z9 := HZ9.out
                  have HGc : Hid (0 < O.length → 0 < C.length → og ≠ cg) := Lib.hid fun h1 h2 => by have q1 := HOg.out; have q2 := HCg.out h2; have q3 := HCa.out; omega
                  go_simp
                  have hfi : Fx No y20 (y20.alloc (.cells #[.slice (some ⟨og, 0, none⟩) N N, .slice co C.length cc] 23)) := (Fx.refl No _).alloc _
                  refine hK.out _ _ (hS.trans hfi) (fun hS' => ?_)
                  clear hK K hS
                  have hS := hS'
                  clear hS'
                  try simp only [Act.put, List.getElem_toArray, List.getElem_cons_zero, List.getElem_cons_succ, List.setIfInBounds_toArray, List.set_cons_zero, List.set_cons_succ]
                  refine wpAnyH_hold (fun W' => Fx No y20 W' ∧ Fx No w9 W' ∧ y20.heap.size < W'.heap.size ∧ RowsW W' (fun k => (k = og ∨ Iv ca cb k) ∨ k = y20.heap.size) (.slice (some ⟨y20.heap.size, 0, none⟩) 2 2) [O, C] (fun i => if i = 0 then og else cg) (fun i => [Value.slice (some ⟨og, 0, none⟩) N N, Value.slice co C.length cc].getD i undef)) ⟨hfi, hS, by simp, RowsW.lit2 (D := fun k => k = og ∨ Iv ca cb k) (by rw [HO.out]; exact IntsV.mono (NumB.ints HOf.out (by omega)) fun k hk => .inl hk) (IntsV.mono HCq.out fun k hk => .inr hk) (fun _ => ⟨N, by rw [HO.out, cnoL_len]⟩) HCp.out (fun _ k hk => by rw [HO.out, cnoL_len] at hk; rw [HO.out, cnoL_at hk, Nat.zero_add]; exact HOf.out k hk) HCc.out HGc.out⟩ ?_
                  clear hfi hS
                  rintro y21 ⟨hfi, hS, hlt, hHL10⟩
                  obtain ⟨b10, hb10⟩ : ∃ q, q = y20.heap.size := ⟨_, rfl⟩
                  rw [← hb10] at hHL10 hlt ⊢
                  have HOf := Lib.hid (NumB.keep HOf.out hfi (fun q => q))
                  have HL13 := Lib.hid (RowsR.keep HL13.out hfi No.disj)
                  have HCq := Lib.hid (IntsV.no HCq.out hfi)
                  have HCc := Lib.hid (fun h0 k hk => hfi.cellF (HCc.out h0 k hk).1 (HCc.out h0 k hk).2 (fun q => q))
                  have HL10 := Lib.hid hHL10
                  have HLb10 : Hid (b10 < y21.heap.size) := Lib.hid hlt
                  have HEb10 : Hid (b10 = y20.heap.size) := Lib.hid hb10
                  have HZy21 : Hid (y20.heap.size ≤ y21.heap.size) := Lib.hid hfi.size
                  clear hHL10 hlt hb10 hfi
                  refine wpH_one (i := 14) (by kernel_rfl) rfl (fun K hK => ?_)
                  go_simp
                  have zy1 := HZy1.out
                  have zy2 := HZy2.out
                  have zy3 := HZy3.out
                  have zy19 := HZy19.out
                  have zy20 := HZy20.out
                  have zy21 := HZy21.out
                  have zy0 := HZy0.out
                  have z9 := HZ9.out
                  have q1 := HOg.out
                  have q2 := HCa.out
                  have q3 := HEb10.out
                  have q4 := HEb13.out
                  have q5 := HLb10.out
                  have q6 := HLb13.out
                  refine (rows_eq HL10.out HL13.out (fun k hk hd => by rcases hd with (h1 | h1) | h1 <;> rcases hk with h2 | h2 <;> first | omega | (have h3 := h1.1; have h4 := h1.2; omega))).mono ?_
                  rintro e y22 ⟨rfl, hf0⟩
                  have HZy22 : Hid (y21.heap.size ≤ y22.heap.size) := Lib.hid hf0.size
                  refine hK.out _ _ (hS.trans' hf0 fun j e hl => by rcases e with (h1 | h1) | h1 <;> first | omega | (have h3 := h1.1; omega)) (fun hS' => ?_)
                  clear hK K hS hf0 q1 q2 q3 q4 q5 q6
                  have hS := hS'
                  clear hS'
                  try simp only [Act.put, List.getElem_toArray, List.getElem_cons_zero, List.getElem_cons_succ, List.setIfInBounds_toArray, List.set_cons_zero, List.set_cons_succ]
                  refine wpAnyH_take (i := 15) (v := ?_) rfl (by kernel_rfl) (by kernel_rfl) (by kernel_rfl) (fun _ _ _ h => h) (Or.inl ⟨by rfl, ?_⟩) hS ?_
                  rotate_left
                  · (intro W hs; go_simp; first | done | with_reducible rfl)
                  try simp only [Act.put, List.getElem_toArray, List.getElem_cons_zero, List.getElem_cons_succ, List.setIfInBounds_toArray, List.set_cons_zero, List.set_cons_succ]
                  refine wpAnyH_take (i := 16) (v := ?_) rfl (by kernel_rfl) (by kernel_rfl) (by kernel_rfl) (fun _ _ _ h => h) (Or.inl ⟨by rfl, ?_⟩) hS ?_
                  rotate_left
                  · (intro W hs; go_simp; first | done | with_reducible rfl)
                  try simp only [Act.put, List.getElem_toArray, List.getElem_cons_zero, List.getElem_cons_succ, List.setIfInBounds_toArray, List.set_cons_zero, List.set_cons_succ]
                  refine wpAnyH_take (i := 17) (v := ?_) rfl (by kernel_rfl) (by kernel_rfl) (by kernel_rfl) (fun _ _ _ h => h) (Or.inl ⟨by rfl, ?_⟩) hS ?_
                  rotate_left
                  · (intro W hs; go_simp; first | done | with_reducible rfl)
                  try simp only [Act.put, List.getElem_toArray, List.getElem_cons_zero, List.getElem_cons_succ, List.setIfInBounds_toArray, List.set_cons_zero, List.set_cons_succ]
                  refine wpAnyH_take (i := 18) (v := ?_) rfl (by kernel_rfl) (by kernel_rfl) (by kernel_rfl) (fun _ _ _ h => h) (Or.inl ⟨by rfl, ?_⟩) hS ?_
                  rotate_left
                  · (intro W hs; go_simp; first | done | with_reducible rfl)
                  try simp only [Act.put, List.getElem_toArray, List.getElem_cons_zero, List.getElem_cons_succ, List.setIfInBounds_toArray, List.set_cons_zero, List.set_cons_succ]
                  refine wpAnyH_take (i := 20) (v := ?_) rfl (by kernel_rfl) (by kernel_rfl) (by kernel_rfl) (fun _ _ _ h => h) (Or.inl ⟨by rfl, ?_⟩) hS ?_
                  rotate_left
                  · (intro W hs; go_simp; first | done | with_reducible rfl)
                  try simp only [Act.put, List.getElem_toArray, List.getElem_cons_zero, List.getElem_cons_succ, List.setIfInBounds_toArray, List.set_cons_zero, List.set_cons_succ]
                  refine wpH_one (i := 19) (by kernel_rfl) rfl (fun K hK => ?_)
                  go_simp
                  refine (docEdges_any (OwnT.row (OwnT.no HW9.out hS)) (by omega)).mono ?_
                  rintro e y23 ⟨de, rfl, hfi, hde⟩
                  have HDe := Lib.hid (OwnT.row hde)
                  have HZy23 : Hid (y22.heap.size ≤ y23.heap.size) := Lib.hid hfi.size
                  have HSy23 : Hid (Fx No y22 y23) := Lib.hid hfi
                  refine hK.out _ _ (hS.trans hfi) (fun hS' => ?_)
                  clear hK K hS hfi hde
                  have hS := hS'
                  clear hS'
                  try simp only [Act.put, List.getElem_toArray, List.getElem_cons_zero, List.getElem_cons_succ, List.setIfInBounds_toArray, List.set_cons_zero, List.set_cons_succ]
                  refine wpH_one (i := 21) (by kernel_rfl) rfl (fun K hK => ?_)
                  go_simp
                  refine (sameEdges_eq HDe.out (HT9.out.no hS).wn).mono ?_
                  rintro e y24 ⟨rfl, hfi⟩
                  have HZy24 : Hid (y23.heap.size ≤ y24.heap.size) := Lib.hid hfi.size
                  have HSy24 : Hid (Fx No y23 y24) := Lib.hid hfi
                  refine hK.out _ _ (hS.trans hfi) (fun hS' => ?_)
                  clear hK K hS hfi HDe
                  have hS := hS'
                  clear hS'
                  try simp only [Act.put, List.getElem_toArray, List.getElem_cons_zero, List.getElem_cons_succ, List.setIfInBounds_toArray, List.set_cons_zero, List.set_cons_succ]
                  refine wpAnyH_take (i := 22) (v := ?_) rfl (by kernel_rfl) (by kernel_rfl) (by kernel_rfl) (fun _ _ _ h => h) (Or.inl ⟨by rfl, ?_⟩) hS ?_
                  rotate_left
                  · (intro W hs; go_simp; first | done | with_reducible rfl)
                  try simp only [Act.put, List.getElem_toArray, List.getElem_cons_zero, List.getElem_cons_succ, List.setIfInBounds_toArray, List.set_cons_zero, List.set_cons_succ]
                  refine wpAnyH_take (i := 23) (v := ?_) rfl (by kernel_rfl) (by kernel_rfl) (by kernel_rfl) (fun _ _ _ h => h) (Or.inl ⟨by rfl, ?_⟩) hS ?_
                  rotate_left
                  · (intro W hs; go_simp; first | done | with_reducible rfl)
                  try simp only [Act.put, List.getElem_toArray, List.getElem_cons_zero, List.getElem_cons_succ, List.setIfInBounds_toArray, List.set_cons_zero, List.set_cons_succ]
                  refine wpAnyH_take (i := 24) (v := ?_) rfl (by kernel_rfl) (by kernel_rfl) (by kernel_rfl) (fun _ _ _ h => h) (Or.inl ⟨by rfl, ?_⟩) hS ?_
                  rotate_left
                  · (intro W hs; go_simp; first | done | with_reducible rfl)
                  try simp only [Act.put, List.getElem_toArray, List.getElem_cons_zero, List.getElem_cons_succ, List.setIfInBounds_toArray, List.set_cons_zero, List.set_cons_succ]
                  refine wpAnyH_take (i := 25) (v := ?_) rfl (by kernel_rfl) (by kernel_rfl) (by kernel_rfl) (fun _ _ _ h => h) (Or.inl ⟨by rfl, ?_⟩) hS ?_
                  rotate_left
                  · (intro W hs; go_simp; first | done | with_reducible rfl)
                  try simp only [Act.put, List.getElem_toArray, List.getElem_cons_zero, List.getElem_cons_succ, List.setIfInBounds_toArray, List.set_cons_zero, List.set_cons_succ]
                  refine wpAnyH_take (i := 26) (v := ?_) rfl (by kernel_rfl) (by kernel_rfl) (by kernel_rfl) (fun _ _ _ h => h) (Or.inl ⟨by rfl, ?_⟩) hS ?_
                  rotate_left
                  · (intro W hs; go_simp; first | done | with_reducible rfl)
                  try simp only [Act.put, List.getElem_toArray, List.getElem_cons_zero, List.getElem_cons_succ, List.setIfInBounds_toArray, List.set_cons_zero, List.set_cons_succ]
                  refine wpAnyH_take (i := 27) (v := ?_) rfl (by kernel_rfl) (by kernel_rfl) (by kernel_rfl) (fun _ _ _ h => h) (Or.inl ⟨by rfl, ?_⟩) hS ?_
                  rotate_left
                  · (intro W hs; go_simp; first | done | with_reducible rfl)
                  try simp only [Act.put, List.getElem_toArray, List.getElem_cons_zero, List.getElem_cons_succ, List.setIfInBounds_toArray, List.set_cons_zero, List.set_cons_succ]
                  refine wpAnyH_take (i := 28) (v := ?_) rfl (by kernel_rfl) (by kernel_rfl) (by kernel_rfl) (fun _ _ _ h => h) (Or.inl ⟨by rfl, ?_⟩) hS ?_
                  rotate_left
                  · (intro W hs; go_simp; first | done | with_reducible rfl)
                  try simp only [Act.put, List.getElem_toArray, List.getElem_cons_zero, List.getElem_cons_succ, List.setIfInBounds_toArray, List.set_cons_zero, List.set_cons_succ]
                  refine wpAnyH_take (i := 29) (v := ?_) rfl (by kernel_rfl) (by kernel_rfl) (by kernel_rfl) (fun _ _ _ h => h) (Or.inl ⟨by rfl, ?_⟩) hS ?_
                  rotate_left
                  · (intro W hs; go_simp; first | done | with_reducible rfl)
                  try simp only [Act.put, List.getElem_toArray, List.getElem_cons_zero, List.getElem_cons_succ, List.setIfInBounds_toArray, List.set_cons_zero, List.set_cons_succ]
                  refine wpAnyH_take (i := 31) (v := ?_) rfl (by kernel_rfl) (by kernel_rfl) (by kernel_rfl) (fun _ _ _ h => h) (Or.inl ⟨by rfl, ?_⟩) hS ?_
                  rotate_left
                  · (intro W hs; go_simp; first | done | with_reducible rfl)
                  try simp only [Act.put, List.getElem_toArray, List.getElem_cons_zero, List.getElem_cons_succ, List.setIfInBounds_toArray, List.set_cons_zero, List.set_cons_succ]
                  refine wpH_one (i := 30) (by kernel_rfl) rfl (fun K hK => ?_)
                  go_simp
                  refine (docGraph_any (HS9.out.no hS)).mono ?_
                  rintro e y25 ⟨dg, rfl, hfi, hdg⟩
                  have HDg := Lib.hid (OwnT.row hdg)
                  have HZy25 : Hid (y24.heap.size ≤ y25.heap.size) := Lib.hid hfi.size
                  have HSy25 : Hid (Fx No y24 y25) := Lib.hid hfi
                  refine hK.out _ _ (hS.trans hfi) (fun hS' => ?_)
                  clear hK K hS hfi hdg
                  have hS := hS'
                  clear hS'
                  try simp only [Act.put, List.getElem_toArray, List.getElem_cons_zero, List.getElem_cons_succ, List.setIfInBounds_toArray, List.set_cons_zero, List.set_cons_succ]
                  refine wpH_one (i := 32) (by kernel_rfl) rfl (fun K hK => ?_)
                  go_simp
                  refine (refSame_eq HDg.out (HT9.out.no hS).m _).mono ?_
                  rintro e y26 ⟨rfl, hfi⟩
                  have HZy26 : Hid (y25.heap.size ≤ y26.heap.size) := Lib.hid hfi.size
                  have HSy26 : Hid (Fx No y25 y26) := Lib.hid hfi
                  refine hK.out _ _ (hS.trans hfi) (fun hS' => ?_)
                  clear hK K hS hfi HDg
                  have hS := hS'
                  clear hS'
                  try simp only [Act.put, List.getElem_toArray, List.getElem_cons_zero, List.getElem_cons_succ, List.setIfInBounds_toArray, List.set_cons_zero, List.set_cons_succ]
                  refine wpAnyH_take (i := 33) (v := ?_) rfl (by kernel_rfl) (by kernel_rfl) (by kernel_rfl) (fun _ _ _ h => h) (Or.inl ⟨by rfl, ?_⟩) hS ?_
                  rotate_left
                  · (intro W hs; go_simp; first | done | with_reducible rfl)
                  try simp only [Act.put, List.getElem_toArray, List.getElem_cons_zero, List.getElem_cons_succ, List.setIfInBounds_toArray, List.set_cons_zero, List.set_cons_succ]
                  refine wpAnyH_take (i := 34) (v := ?_) rfl (by kernel_rfl) (by kernel_rfl) (by kernel_rfl) (fun _ _ _ h => h) (Or.inl ⟨by rfl, ?_⟩) hS ?_
                  rotate_left
                  · (intro W hs; go_simp; first | done | with_reducible rfl)
                  try simp only [Act.put, List.getElem_toArray, List.getElem_cons_zero, List.getElem_cons_succ, List.setIfInBounds_toArray, List.set_cons_zero, List.set_cons_succ]
                  refine wpAnyH_done (by kernel_rfl) ?_ _
                  have HFin := Lib.hid hS
                  clear hS hS0
                  go_wp2
                  go_meet
                  exact ⟨rfl, HFin.out⟩
              · have HSc := Lib.hid hS
                go_simp
                have hfi : Fx No y2 (y2.alloc (.cells #[.slice oo O.length oc, .slice c1o C.length c1c] 23)) := (Fx.refl No _).alloc _
                refine hK.out _ _ (hS.trans hfi) (fun hS' => ?_)
                clear hK K hS
                have hS := hS'
                clear hS'
                try simp only [Act.put, List.getElem_toArray, List.getElem_cons_zero, List.getElem_cons_succ, List.setIfInBounds_toArray, List.set_cons_zero, List.set_cons_succ]
                refine wpAnyH_hold (fun W' => Fx No y2 W' ∧ Fx No w9 W' ∧ y2.heap.size < W'.heap.size ∧ RowsR W' (fun k => k < wb.heap.size ∨ k = y2.heap.size) (.slice (some ⟨y2.heap.size, 0, none⟩) 2 2) [O, C] (fun i => [Value.slice oo O.length oc, Value.slice c1o C.length c1c].getD i undef)) ⟨hfi, hS, by simp, RowsR.lit2 (HT9.out.no HSc.out).o (HT9.out.no HSc.out).c⟩ ?_
                clear hfi hS
                rintro y27 ⟨hfi, hS, hlt, hHL13⟩
                obtain ⟨b13, hb13⟩ : ∃ q, q = y2.heap.size := ⟨_, rfl⟩
                rw [← hb13] at hHL13 hlt ⊢
                have HL13 := Lib.hid hHL13
                have HLb13 : Hid (b13 < y27.heap.size) := Lib.hid hlt
                have HEb13 : Hid (b13 = y2.heap.size) := Lib.hid hb13
                have HZy27 : Hid (y2.heap.size ≤ y27.heap.size) := Lib.hid hfi.size
                clear hHL13 hlt hb13 hfi
                refine wpH_one (i := 7) (by kernel_rfl) rfl (fun K hK => ?_)
                go_simp
                refine (sof_any (HT9.out.no hS).gs.g HEq.out HSm.out).mono ?_
                rintro e y28 ⟨og, rfl, hfi, hg1, hg2, hnb⟩
                have HL13 := Lib.hid (RowsR.keep HL13.out hfi No.disj)
                have HOf := Lib.hid hnb
                have HOg : Hid (y27.heap.size ≤ og ∧ og < y28.heap.size) := Lib.hid ⟨hg1, hg2⟩
                have HZy28 : Hid (y27.heap.size ≤ y28.heap.size) := Lib.hid hfi.size
                have HSy28 : Hid (Fx No y27 y28) := Lib.hid hfi
                refine hK.out _ _ (hS.trans hfi) (fun hS' => ?_)
                clear hK K hS hfi hg1 hg2 hnb
                have hS := hS'
                clear hS'
                try simp only [Act.put, List.getElem_toArray, List.getElem_cons_zero, List.getElem_cons_succ, List.setIfInBounds_toArray, List.set_cons_zero, List.set_cons_succ]
                refine wpH_one (i := 9) (by kernel_rfl) rfl (fun K hK => ?_)
                go_simp
                refine (closedU_any (HT9.out.no hS).gs.g HEq.out HSm.out C HC.out).mono ?_
                rintro e y29 ⟨cq, rfl, hfi, hcq⟩
                have HL13 := Lib.hid (RowsR.keep HL13.out hfi No.disj)
                have HOf := Lib.hid (NumB.keep HOf.out hfi (fun q => q))
                obtain ⟨cg, cg1, cg2, cg3⟩ := own_pl hcq
                obtain ⟨co, cc, rfl, _⟩ := SlV.ofOwns hcq
                obtain ⟨ca, hca⟩ : ∃ x, x = y28.heap.size := ⟨_, rfl⟩
                obtain ⟨cb, hcb⟩ : ∃ x, x = y29.heap.size := ⟨_, rfl⟩
                have HCq : Hid (IntsV y29 (Iv ca cb) (.slice co C.length cc) C) := Lib.hid (by rw [hca, hcb]; exact SlV.ofOwns hcq)
                have HCg : Hid (0 < C.length → ca ≤ cg ∧ cg < cb) := Lib.hid (by rw [hca, hcb]; exact cg1)
                have HCp := Lib.hid cg2
                have HCc := Lib.hid cg3
                have HCa : Hid (ca = y28.heap.size ∧ cb = y29.heap.size) := Lib.hid ⟨hca, hcb⟩
                have HZy29 : Hid (y28.heap.size ≤ y29.heap.size) := Lib.hid hfi.size
                have HSy29 : Hid (Fx No y28 y29) := Lib.hid hfi
                refine hK.out _ _ (hS.trans hfi) (fun hS' => ?_)
                clear hK K hS hfi hcq cg1 cg2 cg3 hca hcb
                have hS := hS'
                clear hS'
                try simp only [Act.put, List.getElem_toArray, List.getElem_cons_zero, List.getElem_cons_succ, List.setIfInBounds_toArray, List.set_cons_zero, List.set_cons_succ]
                refine wpH_one (i := 10) (by kernel_rfl) rfl (fun K hK => ?_)
                have zy1 := HZy1.out
                have zy2 := HZy2.out
                have zy27 := HZy27.out
                have zy28 := HZy28.out
                have zy29 := HZy29.out
                have zy0 := HZy0.out
                have z9 := HZ9.out
                have HGc : Hid (0 < O.length → 0 < C.length → og ≠ cg) := Lib.hid fun h1 h2 => by have q1 := HOg.out; have q2 := HCg.out h2; have q3 := HCa.out; omega
                go_simp
                have hfi : Fx No y29 (y29.alloc (.cells #[.slice (some ⟨og, 0, none⟩) N N, .slice co C.length cc] 23)) := (Fx.refl No _).alloc _
                refine hK.out _ _ (hS.trans hfi) (fun hS' => ?_)
                clear hK K hS
                have hS := hS'
                clear hS'
                try simp only [Act.put, List.getElem_toArray, List.getElem_cons_zero, List.getElem_cons_succ, List.setIfInBounds_toArray, List.set_cons_zero, List.set_cons_succ]
                refine wpAnyH_hold (fun W' => Fx No y29 W' ∧ Fx No w9 W' ∧ y29.heap.size < W'.heap.size ∧ RowsW W' (fun k => (k = og ∨ Iv ca cb k) ∨ k = y29.heap.size) (.slice (some ⟨y29.heap.size, 0, none⟩) 2 2) [O, C] (fun i => if i = 0 then og else cg) (fun i => [Value.slice (some ⟨og, 0, none⟩) N N, Value.slice co C.length cc].getD i undef)) ⟨hfi, hS, by simp, RowsW.lit2 (D := fun k => k = og ∨ Iv ca cb k) (by rw [HO.out]; exact IntsV.mono (NumB.ints HOf.out (by omega)) fun k hk => .inl hk) (IntsV.mono HCq.out fun k hk => .inr hk) (fun _ => ⟨N, by rw [HO.out, cnoL_len]⟩) HCp.out (fun _ k hk => by rw [HO.out, cnoL_len] at hk; rw [HO.out, cnoL_at hk, Nat.zero_add]; exact HOf.out k hk) HCc.out HGc.out⟩ ?_
                clear hfi hS
                rintro y30 ⟨hfi, hS, hlt, hHL10⟩
                obtain ⟨b10, hb10⟩ : ∃ q, q = y29.heap.size := ⟨_, rfl⟩
                rw [← hb10] at hHL10 hlt ⊢
                have HL13 := Lib.hid (RowsR.keep HL13.out hfi No.disj)
                have HOf := Lib.hid (NumB.keep HOf.out hfi (fun q => q))
                have HCq := Lib.hid (IntsV.no HCq.out hfi)
                have HCc := Lib.hid (fun h0 k hk => hfi.cellF (HCc.out h0 k hk).1 (HCc.out h0 k hk).2 (fun q => q))
                have HL10 := Lib.hid hHL10
                have HLb10 : Hid (b10 < y30.heap.size) := Lib.hid hlt
                have HEb10 : Hid (b10 = y29.heap.size) := Lib.hid hb10
                have HZy30 : Hid (y29.heap.size ≤ y30.heap.size) := Lib.hid hfi.size
                clear hHL10 hlt hb10 hfi
                refine wpH_one (i := 14) (by kernel_rfl) rfl (fun K hK => ?_)
                go_simp
                have zy1 := HZy1.out
                have zy2 := HZy2.out
                have zy27 := HZy27.out
                have zy28 := HZy28.out
                have zy29 := HZy29.out
                have zy30 := HZy30.out
                have zy0 := HZy0.out
                have z9 := HZ9.out
                have q1 := HOg.out
                have q2 := HCa.out
                have q3 := HEb10.out
                have q4 := HEb13.out
                have q5 := HLb10.out
                have q6 := HLb13.out
                refine (rows_eq HL10.out HL13.out (fun k hk hd => by rcases hd with (h1 | h1) | h1 <;> rcases hk with h2 | h2 <;> first | omega | (have h3 := h1.1; have h4 := h1.2; omega))).mono ?_
                rintro e y31 ⟨rfl, hf0⟩
                have HZy31 : Hid (y30.heap.size ≤ y31.heap.size) := Lib.hid hf0.size
                refine hK.out _ _ (hS.trans' hf0 fun j e hl => by rcases e with (h1 | h1) | h1 <;> first | omega | (have h3 := h1.1; omega)) (fun hS' => ?_)
                clear hK K hS hf0 q1 q2 q3 q4 q5 q6
                have hS := hS'
                clear hS'
                try simp only [Act.put, List.getElem_toArray, List.getElem_cons_zero, List.getElem_cons_succ, List.setIfInBounds_toArray, List.set_cons_zero, List.set_cons_succ]
                refine wpAnyH_take (i := 15) (v := ?_) rfl (by kernel_rfl) (by kernel_rfl) (by kernel_rfl) (fun _ _ _ h => h) (Or.inl ⟨by rfl, ?_⟩) hS ?_
                rotate_left
                · (intro W hs; go_simp; first | done | with_reducible rfl)
                try simp only [Act.put, List.getElem_toArray, List.getElem_cons_zero, List.getElem_cons_succ, List.setIfInBounds_toArray, List.set_cons_zero, List.set_cons_succ]
                refine wpAnyH_take (i := 16) (v := ?_) rfl (by kernel_rfl) (by kernel_rfl) (by kernel_rfl) (fun _ _ _ h => h) (Or.inl ⟨by rfl, ?_⟩) hS ?_
                rotate_left
                · (intro W hs; go_simp; first | done | with_reducible rfl)
                try simp only [Act.put, List.getElem_toArray, List.getElem_cons_zero, List.getElem_cons_succ, List.setIfInBounds_toArray, List.set_cons_zero, List.set_cons_succ]
                refine wpAnyH_take (i := 17) (v := ?_) rfl (by kernel_rfl) (by kernel_rfl) (by kernel_rfl) (fun _ _ _ h => h) (Or.inl ⟨by rfl, ?_⟩) hS ?_
                rotate_left
                · (intro W hs; go_simp; first | done | with_reducible rfl)
                try simp only [Act.put, List.getElem_toArray, List.getElem_cons_zero, List.getElem_cons_succ, List.setIfInBounds_toArray, List.set_cons_zero, List.set_cons_succ]
                refine wpAnyH_take (i := 18) (v := ?_) rfl (by kernel_rfl) (by kernel_rfl) (by kernel_rfl) (fun _ _ _ h => h) (Or.inl ⟨by rfl, ?_⟩) hS ?_
                rotate_left
                · (intro W hs; go_simp; first | done | with_reducible rfl)
                try simp only [Act.put, List.getElem_toArray, List.getElem_cons_zero, List.getElem_cons_succ, List.setIfInBounds_toArray, List.set_cons_zero, List.set_cons_succ]
                refine wpAnyH_take (i := 20) (v := ?_) rfl (by kernel_rfl) (by kernel_rfl) (by kernel_rfl) (fun _ _ _ h => h) (Or.inl ⟨by rfl, ?_⟩) hS ?_
                rotate_left
                · (intro W hs; go_simp; first | done | with_reducible rfl)
                try simp only [Act.put, List.getElem_toArray, List.getElem_cons_zero, List.getElem_cons_succ, List.setIfInBounds_toArray, List.set_cons_zero, List.set_cons_succ]
                refine wpH_one (i := 19) (by kernel_rfl) rfl (fun K hK => ?_)
                go_simp
                refine (docEdges_any (OwnT.row (OwnT.no HW9.out hS)) (by omega)).mono ?_
                rintro e y32 ⟨de, rfl, hfi, hde⟩
                have HDe := Lib.hid (OwnT.row hde)
                have HZy32 : Hid (y31.heap.size ≤ y32.heap.size) := Lib.hid hfi.size
                have HSy32 : Hid (Fx No y31 y32) := Lib.hid hfi
                refine hK.out _ _ (hS.trans hfi) (fun hS' => ?_)
                clear hK K hS hfi hde
                have hS := hS'
                clear hS'
                try simp only [Act.put, List.getElem_toArray, List.getElem_cons_zero, List.getElem_cons_succ, List.setIfInBounds_toArray, List.set_cons_zero, List.set_cons_succ]
                refine wpH_one (i := 21) (by kernel_rfl) rfl (fun K hK => ?_)
                go_simp
                refine (sameEdges_eq HDe.out (HT9.out.no hS).wn).mono ?_
                rintro e y33 ⟨rfl, hfi⟩
                have HZy33 : Hid (y32.heap.size ≤ y33.heap.size) := Lib.hid hfi.size
                have HSy33 : Hid (Fx No y32 y33) := Lib.hid hfi
                refine hK.out _ _ (hS.trans hfi) (fun hS' => ?_)
                clear hK K hS hfi HDe
                have hS := hS'
                clear hS'
                try simp only [Act.put, List.getElem_toArray, List.getElem_cons_zero, List.getElem_cons_succ, List.setIfInBounds_toArray, List.set_cons_zero, List.set_cons_succ]
                refine wpAnyH_take (i := 22) (v := ?_) rfl (by kernel_rfl) (by kernel_rfl) (by kernel_rfl) (fun _ _ _ h => h) (Or.inl ⟨by rfl, ?_⟩) hS ?_
                rotate_left
                · (intro W hs; go_simp; first | done | with_reducible rfl)
                try simp only [Act.put, List.getElem_toArray, List.getElem_cons_zero, List.getElem_cons_succ, List.setIfInBounds_toArray, List.set_cons_zero, List.set_cons_succ]
                refine wpAnyH_take (i := 23) (v := ?_) rfl (by kernel_rfl) (by kernel_rfl) (by kernel_rfl) (fun _ _ _ h => h) (Or.inl ⟨by rfl, ?_⟩) hS ?_
                rotate_left
                · (intro W hs; go_simp; first | done | with_reducible rfl)
                try simp only [Act.put, List.getElem_toArray, List.getElem_cons_zero, List.getElem_cons_succ, List.setIfInBounds_toArray, List.set_cons_zero, List.set_cons_succ]
                refine wpAnyH_take (i := 24) (v := ?_) rfl (by kernel_rfl) (by kernel_rfl) (by kernel_rfl) (fun _ _ _ h => h) (Or.inl ⟨by rfl, ?_⟩) hS ?_
                rotate_left
                · (intro W hs; go_simp; first | done | with_reducible rfl)
                try simp only [Act.put, List.getElem_toArray, List.getElem_cons_zero, List.getElem_cons_succ, List.setIfInBounds_toArray, List.set_cons_zero, List.set_cons_succ]
                refine wpAnyH_take (i := 25) (v := ?_) rfl (by kernel_rfl) (by kernel_rfl) (by kernel_rfl) (fun _ _ _ h => h) (Or.inl ⟨by rfl, ?_⟩) hS ?_
                rotate_left
                · (intro W hs; go_simp; first | done | with_reducible rfl)
                try simp only [Act.put, List.getElem_toArray, List.getElem_cons_zero, List.getElem_cons_succ, List.setIfInBounds_toArray, List.set_cons_zero, List.set_cons_succ]
                refine wpAnyH_take (i := 26) (v := ?_) rfl (by kernel_rfl) (by kernel_rfl) (by kernel_rfl) (fun _ _ _ h => h) (Or.inl ⟨by rfl, ?_⟩) hS ?_
                rotate_left
                · (intro W hs; go_simp; first | done | with_reducible rfl)
                try simp only [Act.put, List.getElem_toArray, List.getElem_cons_zero, List.getElem_cons_succ, List.setIfInBounds_toArray, List.set_cons_zero, List.set_cons_succ]
                refine wpAnyH_take (i := 27) (v := ?_) rfl (by kernel_rfl) (by kernel_rfl) (by kernel_rfl) (fun _ _ _ h => h) (Or.inl ⟨by rfl, ?_⟩) hS ?_
                rotate_left
                · (intro W hs; go_simp; first | done | with_reducible rfl)
                try simp only [Act.put, List.getElem_toArray, List.getElem_cons_zero, List.getElem_cons_succ, List.setIfInBounds_toArray, List.set_cons_zero, List.set_cons_succ]
                refine wpAnyH_take (i := 28) (v := ?_) rfl (by kernel_rfl) (by kernel_rfl) (by kernel_rfl) (fun _ _ _ h => h) (Or.inl ⟨by rfl, ?_⟩) hS ?_
                rotate_left
                · (intro W hs; go_simp; first | done | with_reducible rfl)
                try simp only [Act.put, List.getElem_toArray, List.getElem_cons_zero, List.getElem_cons_succ, List.setIfInBounds_toArray, List.set_cons_zero, List.set_cons_succ]
                refine wpAnyH_take (i := 29) (v := ?_) rfl (by kernel_rfl) (by kernel_rfl) (by kernel_rfl) (fun _ _ _ h => h) (Or.inl ⟨by rfl, ?_⟩) hS ?_
                rotate_left
                · (intro W hs; go_simp; first | done | with_reducible rfl)
                try simp only [Act.put, List.getElem_toArray, List.getElem_cons_zero, List.getElem_cons_succ, List.setIfInBounds_toArray, List.set_cons_zero, List.set_cons_succ]
                refine wpAnyH_take (i := 31) (v := ?_) rfl (by kernel_rfl) (by kernel_rfl) (by kernel_rfl) (fun _ _ _ h => h) (Or.inl ⟨by rfl, ?_⟩) hS ?_
                rotate_left
                · (intro W hs; go_simp; first | done | with_reducible rfl)
                try simp only [Act.put, List.getElem_toArray, List.getElem_cons_zero, List.getElem_cons_succ, List.setIfInBounds_toArray, List.set_cons_zero, List.set_cons_succ]
                refine wpH_one (i := 30) (by kernel_rfl) rfl (fun K hK => ?_)
                go_simp
                refine (docGraph_any (HS9.out.no hS)).mono ?_
                rintro e y34 ⟨dg, rfl, hfi, hdg⟩
                have HDg := Lib.hid (OwnT.row hdg)
                have HZy34 : Hid (y33.heap.size ≤ y34.heap.size) := Lib.hid hfi.size
                have HSy34 : Hid (Fx No y33 y34) := Lib.hid hfi
                refine hK.out _ _ (hS.trans hfi) (fun hS' => ?_)
                clear hK K hS hfi hdg
                have hS := hS'
                clear hS'
                try simp only [Act.put, List.getElem_toArray, List.getElem_cons_zero, List.getElem_cons_succ, List.setIfInBounds_toArray, List.set_cons_zero, List.set_cons_succ]
                refine wpH_one (i := 32) (by kernel_rfl) rfl (fun K hK => ?_)
                go_simp
                refine (refSame_eq HDg.out (HT9.out.no hS).m _).mono ?_
                rintro e y35 ⟨rfl, hfi⟩
                have HZy35 : Hid (y34.heap.size ≤ y35.heap.size) := Lib.hid hfi.size
                have HSy35 : Hid (Fx No y34 y35) := Lib.hid hfi
                refine hK.out _ _ (hS.trans hfi) (fun hS' => ?_)
                clear hK K hS hfi HDg
                have hS := hS'
                clear hS'
                try simp only [Act.put, List.getElem_toArray, List.getElem_cons_zero, List.getElem_cons_succ, List.setIfInBounds_toArray, List.set_cons_zero, List.set_cons_succ]
                refine wpAnyH_take (i := 33) (v := ?_) rfl (by kernel_rfl) (by kernel_rfl) (by kernel_rfl) (fun _ _ _ h => h) (Or.inl ⟨by rfl, ?_⟩) hS ?_
                rotate_left
                · (intro W hs; go_simp; first | done | with_reducible rfl)
                try simp only [Act.put, List.getElem_toArray, List.getElem_cons_zero, List.getElem_cons_succ, List.setIfInBounds_toArray, List.set_cons_zero, List.set_cons_succ]
                refine wpAnyH_take (i := 34) (v := ?_) rfl (by kernel_rfl) (by kernel_rfl) (by kernel_rfl) (fun _ _ _ h => h) (Or.inl ⟨by rfl, ?_⟩) hS ?_
                rotate_left
                · (intro W hs; go_simp; first | done | with_reducible rfl)
                try simp only [Act.put, List.getElem_toArray, List.getElem_cons_zero, List.getElem_cons_succ, List.setIfInBounds_toArray, List.set_cons_zero, List.set_cons_succ]
                refine wpAnyH_done (by kernel_rfl) ?_ _
                have HFin := Lib.hid hS
                clear hS hS0
                go_wp2
                go_meet
                exact ⟨rfl, HFin.out⟩
            case rest =>
              obtain ⟨wf, hwf⟩ : ∃ x, x = wc := ⟨_, rfl⟩
              subst hwf
              obtain ⟨rfl, hfc⟩ := hcut
              obtain ⟨mw, hmw⟩ : ∃ x, x = Wn.length := ⟨_, rfl⟩
              have hwf := OwnT.no HW9.out hfc
              have HFf := Lib.hid (HF9.out.trans hfc)
              have HSf := Lib.hid (HS9.out.no hfc)
              have HWf : Hid (∃ cs, wf.ownsRow wo_.heap.size 46 3 (.slice wo mw wc2) mw cs) := Lib.hid ⟨_, by rw [hmw]; exact hwf⟩
              rw [← hmw] at hwl HW8b ⊢
              clear hfc hwf hmw s0 s1
              go_wp2
              go_loopw [17] (fun i ws => ∃ y : Nat, i = .int .i64 y ∧ y ≤ mw ∧ Fx No wb ws ∧ GraphV ws Ds s9 K M ∧ ∃ cs, ws.ownsRow wo_.heap.size 46 3 (.slice wo mw wc2) mw cs) (fun i _ => mw - (intOf i).toNat)
              case atStart => exact ⟨0, rfl, by omega, HFf.out, HSf.out, HWf.out⟩
              case round =>
                obtain ⟨y, rfl, hy, hf, hgs, cs, hcs⟩ := hrel
                have HFy := Lib.hid hf
                have HGy := Lib.hid hgs
                have HCy := Lib.hid hcs
                clear hf hgs
                by_cases hym : y < mw
                · obtain ⟨wg, wgc, e1, hwg, _⟩ := ownsRow_pos hcs (by omega)
                  simp only [Value.slice.injEq] at e1
                  obtain ⟨rfl, -, rfl⟩ := e1
                  have hll : cs.length = mw * 3 := hcs.1
                  have kc := World.ownsRow.cellAt hcs (y * 3 + 2) (by omega)
                  rw [List.getElem?_eq_getElem (by omega : y * 3 + 2 < cs.length)] at kc
                  have kf := World.ownsRow.frozenAt hcs (y * 3 + 2)
                  obtain ⟨z, hz⟩ : ∃ z, z = cs[y * 3 + 2]'(by omega) := ⟨_, rfl⟩
                  rw [← hz] at kc
                  have y0 : (0 : Int) ≤ (y : Int) := by omega
                  have y1 : (y : Int) < (mw : Int) := by omega
                  have HWg := Lib.hid hwg
                  clear hz hcs hll
                  have HN : Hid (Fx No wb (wr.setCell ⟨wg, y * 3 + 2, none⟩ (.int .i64 77)) ∧ GraphV (wr.setCell ⟨wg, y * 3 + 2, none⟩ (.int .i64 77)) Ds s9 K M ∧ ∃ cs, (wr.setCell ⟨wg, y * 3 + 2, none⟩ (.int .i64 77)).ownsRow wo_.heap.size 46 3 (.slice (some ⟨wg, 0, none⟩) mw wc2) mw cs) := Lib.hid ⟨HFy.out.setCell (.inl (by have := HWg.out; have := HLo.out; show wb.heap.size ≤ wg; omega)) _, HGy.out.keep (Fx.put wr wg (y * 3 + 2) (.int .i64 77)) (fun x hx e => by have h1 := HD8.out x hx; have h2 := HW8b.out wg rfl; have e : x = wg := e; omega), _, (World.ownsRow.stored HCy.out (y * 3 + 2) (.int .i64 77)).1⟩
                  go_wp2
                  go_roundw
                  case rel => exact ⟨y + 1, by go_num, by omega, HN.out⟩
                  case measure => simp [intOf]; omega
                · obtain rfl : y = mw := by omega
                  clear hcs
                  go_wp2_with fail
                  refine (gLen_any HGy.out).mono ?_
                  rintro e wq ⟨rfl, rfl⟩
                  by_cases hK1 : 1 < K
                  · have dK : (1 : Int) < (K : Int) := by omega
                    have HX : Hid (EdsV (wr.alloc (.cells #[.int .i64 0, .int .i64 1, .int .i64 77] 46)) (Iv wr.heap.size (wr.heap.size + 1)) (.slice (some ⟨wr.heap.size, 0, none⟩) 1 1) [⟨0, 1, 77⟩]) := Lib.hid (EdsV.lit [⟨0, 1, 77⟩] (by simp))
                    have hml := HMl.out
                    go_wp2_with fail
                    refine (gAdd_any (HGy.out.no ((Fx.refl No wr).alloc _)) HX.out (fun k hk hd => by have h1 := HGy.out.lt k hd; have h2 := hk.1; omega) (fun x hx => by rw [List.mem_singleton] at hx; subst hx; exact ⟨by unfold Ok64; decide, by unfold Ok64; decide, by unfold Ok64; decide⟩) (good_mk fun x hx => by rw [List.mem_singleton] at hx; subst hx; exact ⟨⟨by simp only; omega, by simp only; omega⟩, by simp only; omega, by simp only; omega⟩) (by simp only [List.length_singleton]; omega)).mono ?_
                    rintro e w10 ⟨rfl, hf10, _⟩
                    have HF10 : Hid (Fx No wb w10) := Lib.hid ((HFy.out.trans ((Fx.refl No wr).alloc _)).trans' hf10 fun j h1 h2 => by have := HD9.out j h1; omega)
                    clear hf10 HX
                    go_wp2
                    go_roundw
                    case rel => exact ⟨k + 1, by go_num, by omega, HF10.out⟩
                    case measure => simp [intOf]; omega
                  · have dK : ¬ (1 : Int) < (K : Int) := by omega
                    go_wp2
                    go_roundw
                    case rel => exact ⟨k + 1, by go_num, by omega, HFy.out⟩
                    case measure => simp [intOf]; omega
          · obtain rfl : k = 2 := by omega
            have HTl := Lib.hid (HT.out.no HF.out)
            have HZl : Hid (IntsV wo_ E2 (.slice zo zs.length zc) zs) := Lib.hid (IntsV.no HZs.out HTl.out.gs.fx)
            have HNd' := HNd
            obtain ⟨tj, htj⟩ : ∃ t, t = !zs.any (jBad N (cno sm) (gi zs 0)) := ⟨_, rfl⟩
            have CJ : Hid (∀ W, Fx No wo_ W → Calls Tryz.prog 24 #[.pointer (some ⟨gb, 0, none⟩), .slice zo zs.length zc] W fun e w' => e = .returned (.bool tj) ∧ Fx No W w') := Lib.hid fun W hW => by rw [htj]; exact joined_any (HTl.out.no hW).gs.g HEq.out HSm.out (IntsV.no HZl.out hW)
            have CR : Hid (∀ W, Fx No wo_ W → Calls Tryz.prog 25 #[.agg #[.int .i64 (N : Nat), .slice ro L.length rc], .slice zo zs.length zc] W fun e w' => e = .returned (.bool tj) ∧ Fx No W w') := Lib.hid fun W hW => by rw [htj]; exact refJoined_any (HTl.out.no hW).gs.row (by omega) HNd.out HEq.out HSm.out (IntsV.no HZl.out hW)
            have e2 : (tj == tj) = true := by simp
            have r0 : ∀ W, Fx No wo_ W → W.cell? ⟨rb, 0, none⟩ = some (.int .i64 (N : Nat)) := fun W q => q.cell' HTl.out.gs.r0 (fun q => q)
            have r1 : ∀ W, Fx No wo_ W → W.cell? ⟨rb, 1, none⟩ = some (.slice ro L.length rc) := fun W q => q.cell' HTl.out.gs.r1 (fun q => q)
            clear htj
            go_upto_region 17 with fail
            refine wp_region_H (fun W => Fx No wo_ W) (by kernel_rfl) ((Fx.refl _ _).drew) ?_
            intro hS
            refine wpAnyH_hold (fun W' => Fx No wo_ W') hS ?_
            clear hS
            rintro y0 hS
            have hS0 := hS
            refine wpAnyH_take (i := 0) (v := ?_) rfl (by kernel_rfl) (by kernel_rfl) (by kernel_rfl) (fun _ _ _ h => h) (Or.inl ⟨by rfl, ?_⟩) hS ?_
            rotate_left
            · (intro W hs; go_simp; first | done | with_reducible rfl)
            try simp only [Act.put, List.getElem_toArray, List.getElem_cons_zero, List.getElem_cons_succ, List.setIfInBounds_toArray, List.set_cons_zero, List.set_cons_succ]
            refine wpAnyH_take (i := 1) (v := ?_) rfl (by kernel_rfl) (by kernel_rfl) (by kernel_rfl) (fun _ _ _ h => h) (Or.inl ⟨by rfl, ?_⟩) hS ?_
            rotate_left
            · (intro W hs; go_simp; first | done | with_reducible rfl)
            try simp only [Act.put, List.getElem_toArray, List.getElem_cons_zero, List.getElem_cons_succ, List.setIfInBounds_toArray, List.set_cons_zero, List.set_cons_succ]
            refine wpAnyH_take (i := 3) (v := ?_) rfl (by kernel_rfl) (by kernel_rfl) (by kernel_rfl) (fun _ _ _ h => h) (Or.inl ⟨by rfl, ?_⟩) hS ?_
            rotate_left
            · (intro W hs; go_simp; first | done | with_reducible rfl)
            try simp only [Act.put, List.getElem_toArray, List.getElem_cons_zero, List.getElem_cons_succ, List.setIfInBounds_toArray, List.set_cons_zero, List.set_cons_succ]
            refine wpAnyH_take (i := 4) (v := ?_) rfl (by kernel_rfl) (by kernel_rfl) (by kernel_rfl) (fun _ _ _ h => h) (Or.inl ⟨by rfl, ?_⟩) hS ?_
            rotate_left
            · (intro W hs; go_simp; first | done | with_reducible rfl)
            try simp only [Act.put, List.getElem_toArray, List.getElem_cons_zero, List.getElem_cons_succ, List.setIfInBounds_toArray, List.set_cons_zero, List.set_cons_succ]
            refine wpH_one (i := 2) (by kernel_rfl) rfl (fun K hK => ?_)
            go_simp
            refine (CJ.out _ hS).mono ?_
            rintro e y1 ⟨rfl, hfi⟩
            have HZy1 : Hid (y0.heap.size ≤ y1.heap.size) := Lib.hid hfi.size
            have HSy1 : Hid (Fx No y0 y1) := Lib.hid hfi
            refine hK.out _ _ (hS.trans hfi) (fun hS' => ?_)
            clear hK K hS hfi 
            have hS := hS'
            clear hS'
            try simp only [Act.put, List.getElem_toArray, List.getElem_cons_zero, List.getElem_cons_succ, List.setIfInBounds_toArray, List.set_cons_zero, List.set_cons_succ]
            refine wpH_one (i := 5) (by kernel_rfl) rfl (fun K hK => ?_)
            go_simp
            refine (CR.out _ hS).mono ?_
            rintro e y2 ⟨rfl, hfi⟩
            have HZy2 : Hid (y1.heap.size ≤ y2.heap.size) := Lib.hid hfi.size
            have HSy2 : Hid (Fx No y1 y2) := Lib.hid hfi
            refine hK.out _ _ (hS.trans hfi) (fun hS' => ?_)
            clear hK K hS hfi 
            have hS := hS'
            clear hS'
            try simp only [Act.put, List.getElem_toArray, List.getElem_cons_zero, List.getElem_cons_succ, List.setIfInBounds_toArray, List.set_cons_zero, List.set_cons_succ]
            refine wpAnyH_take (i := 6) (v := ?_) rfl (by kernel_rfl) (by kernel_rfl) (by kernel_rfl) (fun _ _ _ h => h) (Or.inl ⟨by rfl, ?_⟩) hS ?_
            rotate_left
            · (intro W hs; go_simp; first | done | with_reducible rfl)
            try simp only [Act.put, List.getElem_toArray, List.getElem_cons_zero, List.getElem_cons_succ, List.setIfInBounds_toArray, List.set_cons_zero, List.set_cons_succ]
            refine wpAnyH_take (i := 7) (v := ?_) rfl (by kernel_rfl) (by kernel_rfl) (by kernel_rfl) (fun _ _ _ h => h) (Or.inl ⟨by rfl, ?_⟩) hS ?_
            rotate_left
            · (intro W hs; go_simp; first | done | with_reducible rfl)
            try simp only [Act.put, List.getElem_toArray, List.getElem_cons_zero, List.getElem_cons_succ, List.setIfInBounds_toArray, List.set_cons_zero, List.set_cons_succ]
            refine wpAnyH_take (i := 8) (v := ?_) rfl (by kernel_rfl) (by kernel_rfl) (by kernel_rfl) (fun _ _ _ h => h) (Or.inl ⟨by rfl, ?_⟩) hS ?_
            rotate_left
            · (intro W hs; go_simp; first | done | with_reducible rfl)
            try simp only [Act.put, List.getElem_toArray, List.getElem_cons_zero, List.getElem_cons_succ, List.setIfInBounds_toArray, List.set_cons_zero, List.set_cons_succ]
            refine wpAnyH_take (i := 10) (v := ?_) rfl (by kernel_rfl) (by kernel_rfl) (by kernel_rfl) (fun _ _ _ h => h) (Or.inl ⟨by rfl, ?_⟩) hS ?_
            rotate_left
            · (intro W hs; go_simp; first | done | with_reducible rfl)
            try simp only [Act.put, List.getElem_toArray, List.getElem_cons_zero, List.getElem_cons_succ, List.setIfInBounds_toArray, List.set_cons_zero, List.set_cons_succ]
            refine wpH_one (i := 9) (by kernel_rfl) rfl (fun K hK => ?_)
            go_simp
            refine (docGraph_any (HTl.out.no hS).gs.g).mono ?_
            rintro e y3 ⟨dg, rfl, hfi, hdg⟩
            have HDg := Lib.hid (OwnT.row hdg)
            have HZy3 : Hid (y2.heap.size ≤ y3.heap.size) := Lib.hid hfi.size
            have HSy3 : Hid (Fx No y2 y3) := Lib.hid hfi
            refine hK.out _ _ (hS.trans hfi) (fun hS' => ?_)
            clear hK K hS hfi hdg
            have hS := hS'
            clear hS'
            try simp only [Act.put, List.getElem_toArray, List.getElem_cons_zero, List.getElem_cons_succ, List.setIfInBounds_toArray, List.set_cons_zero, List.set_cons_succ]
            refine wpH_one (i := 11) (by kernel_rfl) rfl (fun K hK => ?_)
            go_simp
            refine (refSame_eq HDg.out (HTl.out.no hS).gs.row _).mono ?_
            rintro e y4 ⟨rfl, hfi⟩
            have HZy4 : Hid (y3.heap.size ≤ y4.heap.size) := Lib.hid hfi.size
            have HSy4 : Hid (Fx No y3 y4) := Lib.hid hfi
            refine hK.out _ _ (hS.trans hfi) (fun hS' => ?_)
            clear hK K hS hfi HDg
            have hS := hS'
            clear hS'
            try simp only [Act.put, List.getElem_toArray, List.getElem_cons_zero, List.getElem_cons_succ, List.setIfInBounds_toArray, List.set_cons_zero, List.set_cons_succ]
            refine wpAnyH_take (i := 12) (v := ?_) rfl (by kernel_rfl) (by kernel_rfl) (by kernel_rfl) (fun _ _ _ h => h) (Or.inl ⟨by rfl, ?_⟩) hS ?_
            rotate_left
            · (intro W hs; go_simp; first | done | with_reducible rfl)
            try simp only [Act.put, List.getElem_toArray, List.getElem_cons_zero, List.getElem_cons_succ, List.setIfInBounds_toArray, List.set_cons_zero, List.set_cons_succ]
            refine wpAnyH_take (i := 13) (v := ?_) rfl (by kernel_rfl) (by kernel_rfl) (by kernel_rfl) (fun _ _ _ h => h) (Or.inl ⟨by rfl, ?_⟩) hS ?_
            rotate_left
            · (intro W hs; go_simp; first | done | with_reducible rfl)
            try simp only [Act.put, List.getElem_toArray, List.getElem_cons_zero, List.getElem_cons_succ, List.setIfInBounds_toArray, List.set_cons_zero, List.set_cons_succ]
            refine wpH_one (i := 14) (by kernel_rfl) rfl (fun K hK => ?_)
            go_simp
            refine (works_any _).mono ?_
            rintro e y5 ⟨rfl, hfi⟩
            have HZy5 : Hid (y4.heap.size ≤ y5.heap.size) := Lib.hid hfi.size
            have HSy5 : Hid (Fx No y4 y5) := Lib.hid hfi
            refine hK.out _ _ (hS.trans hfi) (fun hS' => ?_)
            clear hK K hS hfi 
            have hS := hS'
            clear hS'
            try simp only [Act.put, List.getElem_toArray, List.getElem_cons_zero, List.getElem_cons_succ, List.setIfInBounds_toArray, List.set_cons_zero, List.set_cons_succ]
            refine wpAnyH_take (i := 15) (v := ?_) rfl (by kernel_rfl) (by kernel_rfl) (by kernel_rfl) (fun _ _ _ h => h) (Or.inl ⟨by rfl, ?_⟩) hS ?_
            rotate_left
            · (intro W hs; go_simp; first | done | with_reducible rfl)
            try simp only [Act.put, List.getElem_toArray, List.getElem_cons_zero, List.getElem_cons_succ, List.setIfInBounds_toArray, List.set_cons_zero, List.set_cons_succ]
            refine wpAnyH_take (i := 16) (v := ?_) rfl (by kernel_rfl) (by kernel_rfl) (by kernel_rfl) (fun _ _ _ h => h) (Or.inl ⟨by rfl, ?_⟩) hS ?_
            rotate_left
            · (intro W hs; go_simp; first | done | with_reducible rfl)
            try simp only [Act.put, List.getElem_toArray, List.getElem_cons_zero, List.getElem_cons_succ, List.setIfInBounds_toArray, List.set_cons_zero, List.set_cons_succ]
            refine wpAnyH_done (by kernel_rfl) ?_ _
            have HFin := Lib.hid (HTl.out.gs.fx.trans hS)
            clear hS hS0 r0 r1
            go_wp2
            go_ret
            exact ⟨rfl, HFin.out⟩
end
#print axioms tells_any
end Go.Proofs.YtdoplaijgocboaaGreat
