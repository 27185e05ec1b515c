/- The law TopoRest. -/
import Derived.Test.YteafkafkbipcmaaS6
import Derived.Deep.DeepCutAuto
import Derived.Deep.CutBlock

namespace Go.Proofs.Yteafkafkbipcmaa
open Go.RowKit
set_option linter.unusedVariables false

section
variable {w w' : World} {E : Nat → Prop} {l : List Ed} {v : Value}
set_option maxRecDepth 100000 in
set_option maxHeartbeats 16000000 in
theorem restlaw_any (n : Int) (h : EdsV w E v l) (hok : ∀ x ∈ l, x.ok) : Calls Try.prog 3 #[.int .i64 n, v] w fun e w' => e = .returned (.bool true) ∧ Fx No w w' := by
  have HE := Lib.hid h
  have HOk := Lib.hid hok
  obtain ⟨ao, cap, rfl, hcl, hcm, _⟩ := EdsV.facts h
  clear h hok
  by_cases h1 : 80 < l.length
  · have d1 : decide ((80 : Int) < (l.length : Int)) = true := decide_eq_true (by omega)
    go_enter Try.func3, Try.ntmps3
    go_wp2_with fail
    refine (works_any _).mono ?_
    rintro e w1 ⟨rfl, hf⟩
    have HF := Lib.hid hf
    clear hf
    go_wp2
    go_ret
    exact ⟨rfl, HF.out⟩
  · have d1 : decide ((80 : Int) < (l.length : Int)) = false := decide_eq_false (by omega)
    have hl80 : l.length ≤ 80 := by omega
    clear h1
    go_enter Try.func3, Try.ntmps3
    go_wp2_with fail
    refine (drawn_any HE.out HOk.out (by omega) n 30 (by omega)).mono ?_
    rintro e w1 ⟨gb, N, L, rv, D, R, rfl, hD, hN, hL⟩
    obtain ⟨ro, rc, rfl, _⟩ := EdsV.facts hD.row
    have HD1 := Lib.hid hD
    have hL80 : L.length ≤ 80 := by omega
    clear hD hL
    go_wp2_with fail
    refine calls_hold (fun W => GS w W w1.heap.size gb N L ro rc D R) (GS.start HD1.out) ?_
    rintro w2 hg2
    obtain ⟨rb, hrb⟩ : ∃ q, q = w1.heap.size := ⟨_, rfl⟩
    rw [← hrb] at hg2 ⊢
    have HG2 := Lib.hid hg2
    have HNd : Hid (NdE L N) := Lib.hid hg2.g.nodes
    clear hg2 hrb HD1
    refine (roundsK_any HG2.out.g).mono ?_
    rintro e w3 ⟨pv, V, rfl, hf3, hr3, ord, rd, hk3⟩
    obtain ⟨B, hrw⟩ := hr3.rowsW
    have HR3 := Lib.hid hrw.toRowsR
    have HK := Lib.hid hk3
    have HG3 := Lib.hid (HG2.out.no hf3)
    obtain ⟨pa, pc, rfl, _⟩ := hrw.toRowsR.facts
    have hkr := hk3.rounds HNd.out
    have hKN := rnds_len L N
    obtain ⟨K, hK⟩ : ∃ K, K = (rnds L N).length := ⟨_, rfl⟩
    have HRow : Hid (rnds L N = (List.range K).map (rowR N rd)) := Lib.hid (by rw [hK]; exact hkr.1)
    have HLt : Hid (∀ v, v < N → rd v < (K : Int)) := Lib.hid (by rw [hK]; exact hkr.2)
    rw [← hK] at hKN
    have hKe : ((rnds L N).map nI).length = K := by rw [List.length_map, ← hK]
    rw [hKe]
    have HKe := Lib.hid hKe
    clear hf3 hr3 hk3 hrw hkr hK hKe HG2
    go_wp2_with fail
    refine (rest_any HG3.out.g).mono ?_
    rintro e w4 ⟨tv, rfl, hf4, ho4⟩
    have HR4 := Lib.hid (HR3.out.keep hf4 No.disj)
    have HG4 := Lib.hid (HG3.out.no hf4)
    have HT4 : Hid (IntsV w4 (Iv w3.heap.size w4.heap.size) tv (nI (rstL L N))) := Lib.hid (by unfold IntsV; rw [nI_len]; exact SlV.ofOwns ho4)
    have HZ4 : Hid (w3.heap.size ≤ w4.heap.size) := Lib.hid hf4.size
    obtain ⟨ta, tc, rfl, _⟩ := SlV.ofOwns ho4
    have HTe : Hid (rstL L N = (List.range N).filter fun v => decide (rd v < 0)) := Lib.hid HK.out.rest
    obtain ⟨rs, hrs⟩ : ∃ rs, rs = rstL L N := ⟨_, rfl⟩
    rw [← hrs] at HT4 HTe ⊢
    have hrl : rs.length ≤ N := by rw [HTe.out]; exact Nat.le_trans (List.length_filter_le _ _) (by simp)
    clear hf4 ho4 hrs HR3 HG3
    have p0 := HG4.out.r0
    have hm1 := run_make_row' (P := Try.prog) 32 3 (.int .i64 0) 8 Try.underlying32 (by kernel_rfl) rfl .i64 .i64 N (by omega) (by omega)
    go_upto_region 6 with fail
    refine wp_hold (fun W => Fx No w4 W ∧ IntB W w4.heap.size N (fun _ => 0)) ⟨(Fx.refl No w4).alloc _, fun i hi => new_cells rfl (by simp [madeCells, hi, Nat.mod_one])⟩ ?_
    rintro w5 ⟨hf5, hi5⟩
    obtain ⟨qb, hqb⟩ : ∃ q, q = w4.heap.size := ⟨_, rfl⟩
    rw [← hqb] at hi5 ⊢
    have HQB := Lib.hid hqb
    have HI5 := Lib.hid hi5
    -- what stays, whatever is written to the row
    have HGq : Hid (∀ W, Fx (fun y => y = qb) w4 W → GS w W rb gb N L ro rc D R) := Lib.hid fun W hW => HG4.out.own (by rw [HQB.out]; exact Nat.le_refl _) hW
    have HRq : Hid (∀ W, Fx (fun y => y = qb) w4 W → RowsR W (Iv w2.heap.size w3.heap.size) (.slice pa K pc) ((rnds L N).map nI) V) := Lib.hid fun W hW => by
      have := HR4.out.keep hW (fun k hk e => by have := hk.2; have := HQB.out; have := HZ4.out; have e : k = qb := e; omega)
      rw [HKe.out] at this; exact this
    have HTq : Hid (∀ W, Fx (fun y => y = qb) w4 W → IntsV W (Iv w3.heap.size w4.heap.size) (.slice ta rs.length tc) (nI rs)) := Lib.hid fun W hW => HT4.out.keep hW (fun k hk e => by have := hk.2; have := HQB.out; have e : k = qb := e; omega)
    have HF5 : Hid (Fx (fun y => y = qb) w4 w5) := Lib.hid hf5.no
    clear hf5 hi5 hqb p0 hm1 HR4 HG4 HT4
    go_wp2
    go_loopw [11] (fun i ws => ∃ (k : Nat), i = .int .i64 (k : Nat) ∧ k ≤ N ∧ Fx (fun y => y = qb) w4 ws ∧ IntB ws qb N (fun j => if j < k then -2 else 0)) (fun i _ => N - (intOf i).toNat)
    case atStart => exact ⟨0, rfl, by omega, HF5.out, HI5.out.congr fun i hi => by simp⟩
    case round =>
      obtain ⟨k, rfl, hk, hf, hi⟩ := hrel
      have HF := Lib.hid hf
      have HI := Lib.hid hi
      have p0 := (HGq.out _ hf).r0
      by_cases hkN : k < N
      · obtain ⟨c0, z0⟩ := hi k hkN
        have k0 : (0 : Int) ≤ (k : Int) := by omega
        have k1 : (k : Int) < (N : Int) := by omega
        clear hf hi
        go_wp2
        go_roundw
        case rel => exact ⟨k + 1, by go_num, by omega, HF.out.trans' (Fx.put _ _ _ _) (fun j e _ => e), (HI.out.put hkN (-2)).congr fun i hi => by
          by_cases e : i = k
          · rw [if_pos e, if_pos (by omega)]
          · rw [if_neg e]
            by_cases e2 : i < k
            · rw [if_pos e2, if_pos (by omega)]
            · rw [if_neg e2, if_neg (by omega)]⟩
        case measure => simp [intOf]; omega
      · have k1 : ¬ (k : Int) < (N : Int) := by omega
        have HI2 : Hid (IntB wr qb N (fun j => if j ∈ rs.take 0 then -1 else -2)) := Lib.hid (hi.congr fun i hi => by rw [if_pos (by omega)]; simp)
        clear hf hi hk hkN HI HF5 HI5
        go_wp2
        go_loopw [10, 12] (fun s i ws => ∃ (k : Nat), s = .int .i64 (k : Nat) ∧ i = .int .i64 (k : Nat) ∧ k ≤ rs.length ∧ Fx (fun y => y = qb) w4 ws ∧ IntB ws qb N (fun j => if j ∈ rs.take k then -1 else -2)) (fun _ i _ => rs.length - (intOf i).toNat)
        case atStart => exact ⟨0, rfl, rfl, by omega, HF.out, HI2.out⟩
        case round =>
          clear HF HI2
          obtain ⟨k, rfl, rfl, hk, hf, hi⟩ := hrel
          have HF := Lib.hid hf
          have HI := Lib.hid hi
          have p0 := (HGq.out _ hf).r0
          by_cases hkN : k < rs.length
          · obtain ⟨_, _, e1, _, hcc⟩ := IntsV.facts (HTq.out _ hf)
            obtain ⟨b, o, e2, hb, c1⟩ := hcc k (by rw [nI_len]; exact hkN)
            simp only [Value.slice.injEq] at e1
            obtain ⟨rfl, -, rfl⟩ := e1
            subst e2
            have hrsN : ∀ x ∈ rs, x < N := fun x hx => by rw [HTe.out] at hx; exact List.mem_range.1 (List.mem_filter.1 hx).1
            have hrsD : rs.Nodup := by rw [HTe.out]; exact (List.nodup_range (n := N)).filter _
            have hnt := not_take hrsD hkN
            obtain ⟨v, hv⟩ : ∃ v, v = hx rs k := ⟨_, rfl⟩
            have hvN : v < N := by rw [hv]; exact hrsN _ (hx_mem hkN)
            rw [show gi (nI rs) k = (v : Int) by rw [hv]; simp [gi, nI, hx, hkN]] at c1
            rw [← hv] at hnt
            obtain ⟨c2, z2⟩ := hi v hvN
            simp only [if_neg hnt] at c2
            have HV := Lib.hid hv
            have HB := Lib.hid hb
            have k0 : (0 : Int) ≤ (k : Int) := by omega
            have k1 : (k : Int) < (rs.length : Int) := by omega
            have v0 : (0 : Int) ≤ (v : Int) := by omega
            have v1 : (v : Int) < (N : Int) := by omega
            have v2 : ¬ (v : Int) < 0 := by omega
            have v3 : ¬ (v : Int) ≥ (N : Int) := by omega
            clear hf hi hcc hv hb hrsN hrsD hnt
            go_wp2
            go_quiet (fail)
            refine q_hold (fun W => Fx No wr W) ((Fx.refl No wr).drewN _) ?_
            rintro w6 hf6
            have HF6 : Hid (Fx (fun y => y = qb) w4 w6) := Lib.hid (HF.out.trans' hf6 fun j e _ => e.elim)
            have HI6 := Lib.hid (HI.out.no hf6)
            have c3 := hf6.cell' c1 (fun q => q)
            obtain ⟨c4, z4⟩ := hf6.cellF c2 z2 (fun q => q)
            clear hf6 c1 c2 z2 HI HF p0
            go_wp2
            go_roundw
            case rel => exact ⟨k + 1, by go_num, by go_num, by omega, HF6.out.trans' (Fx.put _ _ _ _) (fun j e _ => e), (HI6.out.put hvN (-1)).congr fun i hi => by
              by_cases e : i = v
              · rw [if_pos e, if_pos (by rw [take_hx hkN, e, HV.out]; simp)]
              · rw [if_neg e]
                have : i ∈ rs.take (k + 1) ↔ i ∈ rs.take k := by rw [take_hx hkN, List.mem_append, List.mem_singleton, ← HV.out]; simp [e]
                simp only [this]⟩
            case measure => simp [intOf]; omega
          · have k1 : ¬ (k : Int) < (rs.length : Int) := by omega
            have hke : k = rs.length := by omega
            have HI2 : Hid (IntB wr qb N (fD N rd 0 0)) := Lib.hid (hi.congr fun i hi => by rw [hke]; exact fD_zero HTe.out hi)
            clear hf hi hk hkN HI
            go_wp2
            go_loopw [10, 13] (fun s i ws => ∃ (q : Nat), s = .int .i64 (rs.length + cntF N rd q : Nat) ∧ i = .int .i64 (q : Nat) ∧ q ≤ K ∧ Fx (fun y => y = qb) w4 ws ∧ IntB ws qb N (fD N rd q 0)) (fun _ i _ => K - (intOf i).toNat)
            case atStart => exact ⟨0, by rw [cntF_zero]; rfl, rfl, by omega, HF.out, HI2.out⟩
            case round =>
              clear HF HI2 hke
              obtain ⟨q, rfl, rfl, hq, hf, hi⟩ := hrel
              have HF := Lib.hid hf
              have HI := Lib.hid hi
              have hrr := HRq.out _ hf
              have hcq := cntF_le N rd q
              obtain ⟨cq, hcqe⟩ : ∃ cq, cq = rs.length + cntF N rd q := ⟨_, rfl⟩
              have HCq := Lib.hid hcqe
              have hcq2 : cq ≤ 70 := by omega
              rw [← hcqe]
              clear hcqe hcq
              by_cases hqK : q < K
              · obtain ⟨_, _, e1, _, hcc⟩ := hrr.facts
                obtain ⟨b, o, e2, hb, c1⟩ := hcc q (by rw [HKe.out]; exact hqK)
                simp only [Value.slice.injEq] at e1
                obtain ⟨rfl, -, rfl⟩ := e1
                subst e2
                have hel := hrr.el q (by rw [HKe.out]; exact hqK)
                rw [show rg ((rnds L N).map nI) q = nI (rowR N rd q) by rw [HRow.out]; simp [rg, hqK]] at hel
                obtain ⟨va, vc, ev, _, _⟩ := IntsV.facts hel
                rw [ev] at c1 hel
                rw [nI_len] at c1 hel
                obtain ⟨m, hm⟩ : ∃ m, m = (rowR N rd q).length := ⟨_, rfl⟩
                have HM := Lib.hid hm
                rw [← hm] at c1 hel
                have hmN : m ≤ N := by rw [hm]; unfold rowR; exact Nat.le_trans (List.length_filter_le _ _) (by simp)
                have HEl := Lib.hid hel
                have HC1 := Lib.hid c1
                have HBb : Hid (b < qb) := Lib.hid (by have := hb.2; have := HZ4.out; have := HQB.out; omega)
                have q0 : (0 : Int) ≤ (q : Int) := by omega
                have q1 : (q : Int) < (K : Int) := by omega
                have HqK := Lib.hid hqK
                clear hf hi hrr hcc hb hel ev hm c1
                go_wp2
                go_loopw [10, 14] (fun s j ws => ∃ (k : Nat), s = .int .i64 (cq + k : Nat) ∧ j = .int .i64 (k : Nat) ∧ k ≤ m ∧ Fx (fun y => y = qb) wr ws ∧ IntB ws qb N (fD N rd q k)) (fun _ j _ => m - (intOf j).toNat)
                case atStart => exact ⟨0, rfl, rfl, by omega, Fx.refl _ _, HI.out⟩
                case round =>
                  clear HI
                  obtain ⟨k, rfl, rfl, hk, hf, hi⟩ := hrel
                  have HF2 := Lib.hid hf
                  have HI := Lib.hid hi
                  have c1 := hf.cell' HC1.out (fun e => by have := HBb.out; have e : b = qb := e; omega)
                  by_cases hkm : k < m
                  · have hfq := HF.out.trans' hf fun j e _ => e
                    have p0 := (HGq.out _ hfq).r0
                    have hel := HEl.out.keep hf (fun y hy e => by have := hy.2; have := HZ4.out; have := HQB.out; have e : y = qb := e; omega)
                    have hkm2 : k < (rowR N rd q).length := by rw [← HM.out]; exact hkm
                    have hel2 : IntsV wr (Iv w2.heap.size w3.heap.size) (.slice va m vc) (nI (rowR N rd q)) := hel
                    obtain ⟨_, _, e1, _, hcc⟩ := IntsV.facts hel2
                    obtain ⟨b2, o2, e2, hb2, c3⟩ := hcc k (by rw [nI_len]; exact hkm2)
                    simp only [Value.slice.injEq] at e1
                    obtain ⟨rfl, -, rfl⟩ := e1
                    subst e2
                    have hnt := not_take (l := rowR N rd q) ((List.nodup_range (n := N)).filter _) hkm2
                    have hvm := mem_rowR.1 (hx_mem hkm2)
                    obtain ⟨v, hv⟩ : ∃ v, v = hx (rowR N rd q) k := ⟨_, rfl⟩
                    rw [show gi (nI (rowR N rd q)) k = (v : Int) by rw [hv]; simp [gi, nI, hx, hkm2]] at c3
                    rw [← hv] at hnt hvm
                    obtain ⟨hvN, hvq⟩ := hvm
                    obtain ⟨c2, z2⟩ := hi v hvN
                    have hfd : fD N rd q k v = -2 := by unfold fD; rw [if_neg (by omega), if_neg (by rintro (e | ⟨_, e⟩) <;> first | omega | exact hnt e)]
                    rw [hfd] at c2
                    have HV := Lib.hid hv
                    have k0 : (0 : Int) ≤ (k : Int) := by omega
                    have k1 : (k : Int) < (m : Int) := by omega
                    have v0 : (0 : Int) ≤ (v : Int) := by omega
                    have v1 : (v : Int) < (N : Int) := by omega
                    have v2 : ¬ (v : Int) < 0 := by omega
                    have v3 : ¬ (v : Int) ≥ (N : Int) := by omega
                    have HH := Lib.hid (And.intro hkm2 hvq)
                    clear hf hi hcc hv hnt hfd hel hel2 hfq hb2 hkm2 hvq
                    go_wp2
                    go_roundw
                    case rel => exact ⟨k + 1, by go_num, by go_num, by omega, HF2.out.trans' (Fx.put _ _ _ _) (fun j e _ => e), (HI.out.put hvN (q : Int)).congr fun i hi => by rw [HV.out]; exact fD_step HH.out.1 i⟩
                    case measure => simp [intOf]; omega
                  · have hkm3 : k = m := by omega
                    have k1 : ¬ (k : Int) < (m : Int) := by omega
                    have HI2 : Hid (IntB wr qb N (fD N rd (q + 1) 0)) := Lib.hid (hi.congr fun i hi => by rw [hkm3, HM.out]; exact fD_next hi)
                    have HFn : Hid (Fx (fun y => y = qb) w4 wr) := Lib.hid (HF.out.trans' hf fun j e _ => e)
                    have HSn : Hid (cq + k = rs.length + cntF N rd (q + 1)) := Lib.hid (by rw [cntF_succ, ← HM.out, HCq.out, hkm3, Nat.add_assoc])
                    clear hf hi hkm hk hkm3 HI HF2
                    go_wp2
                    go_roundw
                    case rel => exact ⟨q + 1, by rw [← HSn.out], by go_num, by omega, HFn.out, HI2.out⟩
                    case measure => simp [intOf]; omega
              · have hqe : q = K := by omega
                have q1 : ¬ (q : Int) < (K : Int) := by omega
                have HI2 : Hid (IntB wr qb N rd) := Lib.hid (hi.congr fun i hi => by rw [hqe]; exact fD_end HK.out (HLt.out i hi) hi)
                have hcN : cq = N := by rw [HCq.out, hqe, HTe.out]; exact cntF_all HLt.out
                have p0 := (HGq.out _ hf).r0
                have hne : ((N : Int) != (N : Int)) = false := by simp
                rw [hcN]
                clear hf hi hq hqK HI hrr hqe hcN
                go_wp2
                go_loopw [16] (fun i ws => ∃ (k : Nat), i = .int .i64 (k : Nat) ∧ k ≤ N ∧ Fx (fun y => y = qb) w4 ws ∧ IntB ws qb N rd) (fun i _ => N - (intOf i).toNat)
                case atStart => exact ⟨0, rfl, by omega, HF.out, HI2.out⟩
                case round =>
                  clear HF HI2
                  obtain ⟨k, rfl, hk, hf, hi⟩ := hrel
                  have HF := Lib.hid hf
                  have HI := Lib.hid hi
                  have p0 := (HGq.out _ hf).r0
                  have p1 := (HGq.out _ hf).r1
                  by_cases hkN : k < N
                  · have k0 : (0 : Int) ≤ (k : Int) := by omega
                    have k1 : (k : Int) < (N : Int) := by omega
                    clear hf hi
                    go_wp2_with fail
                    refine (refSome_any (HGq.out _ HF.out).row (N : Int) (-1) (k : Int) (by omega)).mono ?_
                    rintro e w7 ⟨sv, rfl, hf7, ho7⟩
                    obtain ⟨es, hes⟩ : ∃ es, es = L.filter (someE (-1) (k : Int)) := ⟨_, rfl⟩
                    rw [← hes] at ho7
                    have hel : es.length ≤ 80 := by rw [hes]; exact Nat.le_trans (List.length_filter_le _ _) hL80
                    have HMem : Hid (∀ x ∈ es, x ∈ L ∧ x.t = (k : Int)) := Lib.hid fun x hx => by
                      rw [hes] at hx
                      obtain ⟨h1, h2⟩ := List.mem_filter.1 hx
                      refine ⟨h1, ?_⟩
                      have hk1 : ¬ (k : Int) = -1 := by omega
                      simpa [someE, hk1] using h2
                    obtain ⟨ea, ec, rfl, _, _, hcc⟩ := EdsV.facts (OwnT.row ho7)
                    have HCc := Lib.hid hcc
                    have HI7 := Lib.hid (HI.out.no hf7)
                    have HF7 : Hid (Fx (fun y => y = qb) w4 w7) := Lib.hid (HF.out.trans' hf7 fun j e _ => e.elim)
                    obtain ⟨c0, z0⟩ := HI7.out k hkN
                    obtain ⟨z, hz⟩ : ∃ z, z = rd k := ⟨_, rfl⟩
                    rw [← hz] at c0
                    have HZ := Lib.hid hz
                    have HNr : Hid (((z == 0) || es.any (nearB rd z)) = true) := Lib.hid (by rw [hz, hes]; exact HK.out.near HNd.out hkN)
                    have HBf : Hid (∀ x ∈ es, 0 ≤ z → 0 ≤ rd x.f.toNat ∧ rd x.f.toNat < z) := Lib.hid fun x hx h0 => by rw [hz] at h0 ⊢; exact HK.out.before HNd.out (HMem.out x hx).1 (HMem.out x hx).2 h0
                    have HZb : Hid (-1 ≤ z ∧ z < (K : Int)) := Lib.hid ⟨by
                      rw [hz]
                      by_cases ho : k ∈ ord
                      · have := HK.out.rd0 k ho; omega
                      · rw [HK.out.rdN k hkN ho]; exact Int.le_refl _, by rw [hz]; exact HLt.out k hkN⟩
                    clear hf7 ho7 hcc hz hes HI HF p0 p1
                    go_wp2
                    go_loopw [18, 19] (fun nr j ws => ∃ (q : Nat), nr = .bool ((z == 0) || (es.take q).any (nearB rd z)) ∧ j = .int .i64 (q : Nat) ∧ q ≤ es.length ∧ Fx No w7 ws) (fun _ j _ => es.length - (intOf j).toNat)
                    case atStart => exact ⟨0, by simp, rfl, by omega, Fx.refl _ _⟩
                    case round =>
                      obtain ⟨q, rfl, rfl, hq, hf⟩ := hrel
                      have HF := Lib.hid hf
                      by_cases hqE : q < es.length
                      · obtain ⟨b, o, rfl, hb, c1, _, _⟩ := HCc.out q hqE
                        have c1 := hf.cell' c1 (fun q => q)
                        obtain ⟨x, hx⟩ : ∃ x, x = gt es q := ⟨_, rfl⟩
                        rw [← hx] at c1
                        have hxe : x ∈ es := by rw [hx]; exact gt_mem hqE
                        obtain ⟨hxL, _⟩ := HMem.out x hxe
                        obtain ⟨⟨hx0, hx1⟩, _⟩ := HNd.out x hxL
                        have HTk : Hid ((es.take (q + 1)).any (nearB rd z) = ((es.take q).any (nearB rd z) || nearB rd z x)) := Lib.hid (by rw [take_gt hqE, ← hx]; simp)
                        have hbf := HBf.out x hxe
                        have HNb : Hid (nearB rd z x = ((decide (z < 0) && decide (rd x.f.toNat < 0)) || (decide (0 < z) && decide (rd x.f.toNat = z - 1)))) := Lib.hid rfl
                        obtain ⟨u, hu⟩ := Int.eq_ofNat_of_zero_le hx0
                        rw [hu] at c1 hbf
                        have HNb : Hid (nearB rd z x = ((decide (z < 0) && decide (rd u < 0)) || (decide (0 < z) && decide (rd u = z - 1)))) := Lib.hid (by rw [HNb.out, hu]; rfl)
                        have huN : u < N := by omega
                        rw [Int.toNat_natCast] at hbf
                        obtain ⟨c2, z2⟩ := HI7.out.no hf u huN
                        have c0 := hf.cell' c0 (fun q => q)
                        obtain ⟨fz, hfz⟩ : ∃ fz, fz = rd u := ⟨_, rfl⟩
                        rw [← hfz] at c2 hbf HNb
                        obtain ⟨B, hB⟩ : ∃ B, B = ((z == 0) || (es.take q).any (nearB rd z)) := ⟨_, rfl⟩
                        rw [← hB]
                        have HNx : Hid (∀ B' : Bool, B' = (B || ((decide (z < 0) && decide (fz < 0)) || (decide (0 < z) && decide (fz = z - 1)))) → (Value.bool B') = .bool ((z == 0) || (es.take (q + 1)).any (nearB rd z))) := Lib.hid fun B' h => by rw [h, HTk.out, HNb.out, hB, Bool.or_assoc]
                        have hBz : z = 0 → B = true := fun e => by rw [hB, e]; rfl
                        have q0 : (0 : Int) ≤ (q : Int) := by omega
                        have q1 : (q : Int) < (es.length : Int) := by omega
                        have u0 : (0 : Int) ≤ (u : Int) := by omega
                        have u1 : (u : Int) < (N : Int) := by omega
                        have zl := HZb.out.1
                        have zu := HZb.out.2
                        have zw : IntKind.i64.wrap (z - 1) = z - 1 := by rw [IntKind.wrap_i64]; omega
                        clear hf hB hfz hu hx hxe hxL hx0 hx1 hb HTk HNb
                        cases B with
                        | true =>
                          by_cases hz0 : z < 0
                          · have hz1 : ¬ z ≥ 0 := by omega
                            go_wp2
                            go_roundw
                            case rel => exact ⟨q + 1, HNx.out _ (by first | (simp []; done) | (simp []; omega)), by go_num, by omega, HF.out⟩
                            case measure => simp [intOf]; omega
                          · have hz1 : z ≥ 0 := by omega
                            have hf1 : ¬ fz < 0 := by have := hbf hz1; omega
                            have hf2 : ¬ fz ≥ z := by have := hbf hz1; omega
                            go_wp2
                            go_roundw
                            case rel => exact ⟨q + 1, HNx.out _ (by first | (simp []; done) | (simp []; omega)), by go_num, by omega, HF.out⟩
                            case measure => simp [intOf]; omega
                        | false =>
                          have hzn : ¬ z = 0 := fun e => by have := hBz e; simp at this
                          by_cases hz0 : z < 0
                          · have hz1 : ¬ z ≥ 0 := by omega
                            have hz2 : ¬ 0 < z := by omega
                            have hz3 : ¬ z > 0 := by omega
                            by_cases hf0 : fz < 0
                            · skip
                              go_wp2
                              go_roundw
                              case rel => exact ⟨q + 1, HNx.out _ (by first | (simp [hz0, hf0]; done) | (simp [hz0, hf0]; omega)), by go_num, by omega, HF.out⟩
                              case measure => simp [intOf]; omega
                            · skip
                              go_wp2
                              go_roundw
                              case rel => exact ⟨q + 1, HNx.out _ (by first | (simp [hf0, hz2]; done) | (simp [hf0, hz2]; omega)), by go_num, by omega, HF.out⟩
                              case measure => simp [intOf]; omega
                          · have hz1 : z ≥ 0 := by omega
                            have hf1 : ¬ fz < 0 := by have := hbf hz1; omega
                            have hf2 : ¬ fz ≥ z := by have := hbf hz1; omega
                            have hz2 : z > 0 := by omega
                            have hz3 : 0 < z := by omega
                            by_cases hfz : fz = z - 1
                            · have hd : (fz == z - 1) = true := by simp [hfz]
                              go_wp2
                              go_roundw
                              case rel => exact ⟨q + 1, HNx.out _ (by first | (simp [hz3, hfz]; done) | (simp [hz3, hfz]; omega)), by go_num, by omega, HF.out⟩
                              case measure => simp [intOf]; omega
                            · have hd : (fz == z - 1) = false := by simp [hfz]
                              go_wp2
                              go_roundw
                              case rel => exact ⟨q + 1, HNx.out _ (by first | (simp [hz0, hfz]; done) | (simp [hz0, hfz]; omega)), by go_num, by omega, HF.out⟩
                              case measure => simp [intOf]; omega
                      · have hqe : q = es.length := by omega
                        have q1 : ¬ (q : Int) < (es.length : Int) := by omega
                        have hnr := HNr.out
                        have htk : es.take q = es := by rw [hqe]; exact List.take_length
                        rw [htk, hnr]
                        have HFn : Hid (Fx (fun y => y = qb) w4 wr) := Lib.hid (HF7.out.trans' hf fun j e _ => e.elim)
                        have HIn := Lib.hid (HI7.out.no hf)
                        clear hf hq hqE hqe htk hnr c0 z0
                        go_wp2
                        go_roundw
                        case rel => exact ⟨k + 1, by go_num, by omega, HFn.out, HIn.out⟩
                        case measure => simp [intOf]; omega
                  · have k1 : ¬ (k : Int) < (N : Int) := by omega
                    have HFE : Hid (Fx No w wr) := Lib.hid (HGq.out _ hf).fx
                    clear hf hi HF HI
                    go_wp2_with fail
                    refine (works_any _).mono ?_
                    rintro e w8 ⟨rfl, hf8⟩
                    have HF8 := Lib.hid (HFE.out.trans hf8)
                    clear hf8
                    go_wp2
                    go_ret
                    exact ⟨rfl, HF8.out⟩
end
#print axioms restlaw_any
end Go.Proofs.Yteafkafkbipcmaa
