/- The law InternPlays: its walk. -/
import Derived.Test.YtpegloapdkfgiaaNO
namespace Go.Proofs.Ytpegloapdkfgiaa
open Go.RowKit
set_option linter.unusedVariables false

set_option maxRecDepth 100000 in
set_option maxHeartbeats 6000000 in
theorem plays_any {w : World} {v : Value} {ls : List (List Int)} (h : RowsU w (fun j => j < w.heap.size) v ls) (nm : Int) (hnm : OkU nm) (nn : Int) : Calls Try.prog 4 #[v, .int .u64 nm, .int .i64 nn] w fun e w' => e = .returned (.bool true) ∧ Fx No w w' := by
  have HR := Lib.hid h
  have HNm := Lib.hid hnm
  obtain ⟨ii, hi, hz, hs, hby⟩ := info_parts info_u64
  obtain ⟨ao, cap, rfl, hcm, hcl, hc⟩ := id h
  have HC := Lib.hid hc
  clear h hc hnm
  go_enter Try.func4, Try.ntmps4
  go_wp2_with fail
  refine (few_any HR.out).mono ?_
  rintro e w1 ⟨B, rfl, hB, hf⟩
  have HF1 := Lib.hid hf
  have HB := Lib.hid hB
  clear hf hB
  cases B with
  | false =>
    go_wp2_with fail
    refine (works_any _).mono ?_
    rintro e w2 ⟨rfl, hf⟩
    have HF2 := Lib.hid (HF1.out.trans hf)
    clear hf
    go_wp2
    go_ret
    exact ⟨rfl, HF2.out⟩
  | true =>
    obtain ⟨h12, h30⟩ := HB.out rfl
    have H30 := Lib.hid h30
    clear h30
    go_wp2
    go_loopw [8, 9, 10, 11, 12, 13, 14, 15, 16, 17, 18, 19, 20, 21, 22, 23, 24, 25, 26, 27] (fun rv ii _ _ _ _ _ _ _ _ _ _ _ _ _ _ _ _ _ _ ws => ∃ (κ : Nat) (L : List Int) (Dt Er : Nat → Prop), ii = .int .i64 κ ∧ κ ≤ ls.length ∧ L.length ≤ 30 * κ ∧ PlayS w ws w1.heap.size L rv Dt Er) (fun _ ii _ _ _ _ _ _ _ _ _ _ _ _ _ _ _ _ _ _ _ => ls.length - (intOf ii).toNat)
    case atStart =>
      have hsz := HF1.out.size
      exact ⟨0, [], fun j => j = w1.heap.size, No, rfl, by omega, by simp, HF1.out.alloc _, TabV.new w1 _, fun j e => by omega, SlV.nil _ _ _, fun j e => e.elim⟩
    case round =>
      obtain ⟨κ, L, Dt, Er, rfl, hκ, hLl, hB⟩ := hrel
      have HB := Lib.hid hB
      obtain ⟨wa, hwa⟩ : ∃ x, x = wr := ⟨_, rfl⟩
      subst hwa
      have hszw := hB.fx.size
      obtain ⟨rao, rcap, hrv, _, _, _⟩ := PaV.facts hB.r
      rw [up_length] at hrv
      subst hrv
      clear hB
      by_cases hl : κ < ls.length
      · have d1 : decide ((κ : Int) < (ls.length : Int)) = true := decide_eq_true (by omega)
        have d1' : decide (κ < ls.length) = true := decide_eq_true hl
        obtain ⟨l, hl2⟩ : ∃ l, ls[κ]? = some l := ⟨_, List.getElem?_eq_getElem hl⟩
        obtain ⟨g, o, rv, rfl, hgl, hcc, hv, hok⟩ := HC.out κ l hl2
        have hl30 := H30.out κ l hl2
        obtain ⟨ra, rc, rfl, _, _, _⟩ := NumV.facts hv
        have HCr : Hid (w.cell? ⟨g, o + κ, none⟩ = some (.slice ra l.length rc)) := Lib.hid hcc
        have HV := Lib.hid hv
        have HOk := Lib.hid hok
        have i0 : (0 : Int) ≤ (κ : Int) := by omega
        have i1 : (κ : Int) < (ls.length : Int) := by omega
        clear hcc hv hok hl2
        go_wp2_with fail
        refine (copy_any HB.out.t).mono ?_
        rintro e w2 ⟨cb, rfl, hcb, hf, Dc, hTc, hDc⟩
        have HF2 := Lib.hid hf
        have HTc := Lib.hid hTc
        have HDc := Lib.hid hDc
        have hcr2 := (HB.out.fx.trans hf).cell' HCr.out (fun h => h)
        have HV2 := Lib.hid (HV.out.keep (HB.out.fx.trans hf) No.disj)
        clear hf hTc hDc
        go_wp2_with (at_builtin; refine wpList_append_sl rfl _ _ 27 rfl w2.heap.size 23 Try.underlying27 hi hz hs hby rfl (by decide) rfl (World.ownsRow_nil _ _ _ _) rfl HV2.out (ncells_one fitU _) (by unfold maxLen; omega) (by omega) (Nat.le_refl _) ?_)
        intro ov w3 ho hf _
        have HO3 : Hid (OwnU w3 w2.heap.size ov l) := Lib.hid (by simpa using ho)
        have HF3 : Hid (Fx No w2 w3) := Lib.hid (hf.mono fun k _ e => by cases e)
        obtain ⟨oao, ocap, rfl, _⟩ := SlV.ofOwns HO3.out
        have hcr3 := HF3.out.cell' hcr2 (fun h => h)
        clear ho hf hcr2
        go_wp2_with fail
        refine (refNames_any (HV2.out.keep HF3.out No.disj) (by omega)).mono ?_
        rintro e w4 ⟨nv, rfl, hf, hn⟩
        have HF4 := Lib.hid hf
        have HN4 := Lib.hid hn
        have hcr4 := hf.cell' hcr3 (fun h => h)
        clear hf hn hcr3
        obtain ⟨L1, hL1⟩ : ∃ q, q = addN L l := ⟨_, rfl⟩
        have hlen1 := (length_addN L l).2
        rw [← hL1] at hlen1
        have HL1 := Lib.hid hL1
        clear hL1
        have HFa4 := Lib.hid (HF2.out.trans (HF3.out.trans HF4.out))
        go_wp2_with fail
        refine (refAdd_any (NamV.no HB.out.r HFa4.out) HN4.out.row (by rw [up_length, up_length]; omega)).mono ?_
        rintro e w5 ⟨sv, rfl, hf, hs5⟩
        rw [addN_up, ← HL1.out] at hs5
        rw [numN_up]
        obtain ⟨sao, scap, hsv, _⟩ := SlV.ofOwns hs5
        rw [up_length] at hsv
        subst hsv
        have HF5 := Lib.hid hf
        have HS5 := Lib.hid hs5
        clear hf hs5 hcr4
        have hz2 := HF2.out.size
        have hz3 := HF3.out.size
        have hz4 := HF4.out.size
        have hz5 := HF5.out.size
        have HFa5 := Lib.hid (HFa4.out.trans HF5.out)
        have HO5 : Hid (OwnU w5 w2.heap.size (.slice oao l.length ocap) l) := Lib.hid (ownsRow_fx HO3.out (HF4.out.trans HF5.out) fun _ _ h => h)
        have HOb : Hid (∀ j, (Value.slice oao l.length ocap).ownBlock = some j → w2.heap.size ≤ j ∧ j < w3.heap.size) := Lib.hid fun j e => World.ownsRow.lt HO3.out j e
        have HVo : Hid (NumV w5 (fun j => w2.heap.size ≤ j ∧ j < w5.heap.size) (.slice oao l.length ocap) l) := Lib.hid (SlV.ofOwns HO5.out)
        have HEo : Hid (∀ j, (w2.heap.size ≤ j ∧ j < w5.heap.size) → ¬ Dt j) := Lib.hid fun j e r => by have := HB.out.t.lt j r; omega
        have HSl : Hid (L.length + l.length ≤ 100000) := Lib.hid (by omega)
        go_wp2_with fail
        refine (add_any (HB.out.t.no HFa5.out) HVo.out HOk.out HEo.out HSl.out).mono ?_
        rintro e w6 ⟨rfl, hft, Dt2, hT2, hD2⟩
        rw [← HL1.out] at hT2
        have HT6 := Lib.hid hT2
        have HD6 : Hid (∀ j, Dt2 j → Dt j ∨ w5.heap.size ≤ j) := Lib.hid hD2
        have HDt := Lib.hid HB.out.t.lt
        have HC6 : Hid (TabU w6 Dc cb L) := Lib.hid ((HTc.out.no (HF3.out.trans (HF4.out.trans HF5.out))).keep hft fun j e r => by have h1 := HDc.out j e; have h2 := HDt.out j r; omega)
        have HW6 : Hid (PaV w6 Er (.slice rao L.length rcap) (up L)) := Lib.hid ((NamV.no HB.out.r HFa5.out).keep hft fun j e r => (HB.out.el j e).2.2 r)
        have HR6 : Hid (PaV w6 (Iv w4.heap.size w5.heap.size) (.slice sao L1.length scap) (up L1)) := Lib.hid (HS5.out.row.keep hft fun j e r => by have h1 := e.1; have h2 := HDt.out j r; omega)
        have HO6 : Hid (OwnU w6 w2.heap.size (.slice oao l.length ocap) l) := Lib.hid (ownsRow_fx HO5.out hft fun j e r => by have h1 := HOb.out j e; have h2 := HDt.out j r; omega)
        have HF6 : Hid (Fx No w w6) := Lib.hid ((HB.out.fx.trans HFa5.out).trans' hft fun j r q => by have := HB.out.tl j r; omega)
        have hz6 := hft.size
        have HDcl := Lib.hid HTc.out.lt
        have HEr : Hid (∀ j, Er j → w.heap.size ≤ j ∧ j < wa.heap.size) := Lib.hid fun j e => ⟨(HB.out.el j e).1, (HB.out.el j e).2.1⟩
        have HTl := Lib.hid HB.out.tl
        have HW0 : Hid (Wr w6 oao l.length w2.heap.size) := Lib.hid (Wr.own HO6.out (by rw [ncells_length fitU]; simp [kU]))
        have HNb : Hid (∀ ga oa, oao = some ⟨ga, oa, none⟩ → (w2.heap.size ≤ ga ∧ ga < w3.heap.size)) := Lib.hid fun ga oa e => HOb.out ga (by rw [e]; rfl)
        clear hft hT2 hD2 HB HO5 HVo HEo HSl HO3 HV2 HFa4 HFa5
        go_wp2
        go_loopw [15] (fun kk ws => ∃ k : Nat, kk = .int .i64 k ∧ k ≤ l.length ∧ Fx (fun j => ∃ oa, oao = some ⟨j, oa, none⟩) w6 ws ∧ Wr ws oao l.length w2.heap.size) (fun kk _ => l.length - (intOf kk).toNat)
        case atStart => exact ⟨0, rfl, by omega, Fx.refl _ _, HW0.out⟩
        case round =>
          obtain ⟨k, rfl, hk, hf, hW⟩ := hrel
          have HFk := Lib.hid hf
          have HWk := Lib.hid hW
          obtain ⟨wk, hwk⟩ : ∃ x, x = wr := ⟨_, rfl⟩
          subst hwk
          clear hf hW HW0
          by_cases hkl : k < l.length
          · have d2 : decide ((k : Int) < (l.length : Int)) = true := decide_eq_true (by omega)
            have d2' : decide (k < l.length) = true := decide_eq_true hkl
            have k0 : (0 : Int) ≤ (k : Int) := by omega
            have k1 : (k : Int) < (l.length : Int) := by omega
            obtain ⟨ga, oa, y, rfl, _, hcy, hfy⟩ := HWk.out k hkl
            have HFk2 := Lib.hid (HFk.out.setCell (a := ⟨ga, oa + k, none⟩) (.inr ⟨oa, rfl⟩) (.int .u64 77))
            have HWk2 := Lib.hid (HWk.out.put ⟨ga, oa + k, none⟩ (.int .u64 77))
            go_wp2
            go_roundw
            case rel => exact ⟨k + 1, by first | rfl | go_num, by omega, HFk2.out, HWk2.out⟩
            case measure => simp [intOf]; omega
          · obtain rfl : k = l.length := by omega
            have d2 : decide ((l.length : Int) < (l.length : Int)) = false := decide_eq_false (by omega)
            have d2' : decide (l.length < l.length) = false := decide_eq_false (by omega)
            have HT7 : Hid (TabU wk Dt2 w1.heap.size L1) := Lib.hid (HT6.out.keep HFk.out fun j e ⟨oa, r⟩ => by
              have h1 := HNb.out j oa r
              rcases HD6.out j e with h2 | h2
              · have := HDt.out j h2; omega
              · omega)
            have HC7 : Hid (TabU wk Dc cb L) := Lib.hid (HC6.out.keep HFk.out fun j e ⟨oa, r⟩ => by
              have h1 := HNb.out j oa r
              have h2 := HDcl.out j e
              omega)
            have HW7 : Hid (PaV wk Er (.slice rao L.length rcap) (up L)) := Lib.hid (HW6.out.keep HFk.out fun j e ⟨oa, r⟩ => by
              have h1 := HNb.out j oa r
              have h2 := (HEr.out j e).2
              omega)
            have HR7 : Hid (PaV wk (Iv w4.heap.size w5.heap.size) (.slice sao L1.length scap) (up L1)) := Lib.hid (HR6.out.keep HFk.out fun j e ⟨oa, r⟩ => by
              have h1 := HNb.out j oa r
              have h2 := e.1
              omega)
            have HF7 : Hid (Fx No w wk) := Lib.hid (HF6.out.trans' HFk.out fun j ⟨oa, r⟩ q => by
              have h1 := HNb.out j oa r
              omega)
            have hz7 := HFk.out.size
            clear HFk HWk HT6 HC6 HW6 HR6 HF6 HO6
            go_wp2
            go_loopw [16, 17, 18, 19] (fun mm _ _ _ ws => ∃ m : Nat, mm = .int .i64 m ∧ m ≤ 2 ∧ Fx No wk ws) (fun mm _ _ _ _ => 2 - (intOf mm).toNat)
            case atStart => exact ⟨0, rfl, by omega, Fx.refl _ _⟩
            case round =>
              obtain ⟨m, rfl, hm, hf⟩ := hrel
              have HFm := Lib.hid hf
              obtain ⟨wm, hwm⟩ : ∃ x, x = wr := ⟨_, rfl⟩
              subst hwm
              clear hf
              by_cases hml : m < 2
              · have d3 : decide ((m : Int) < 2) = true := decide_eq_true (by omega)
                have d3' : decide (m < 2) = true := decide_eq_true hml
                go_wp2_with fail
                refine (names_any (HT7.out.no HFm.out)).mono ?_
                rintro e x1 ⟨nv2, rfl, hf, ho⟩
                have HX1 := Lib.hid (HFm.out.trans hf)
                have HO1 := Lib.hid ho
                have hx1 := hf.size
                clear hf ho
                go_wp2_with fail
                refine (rising_any (HT7.out.no HX1.out)).mono ?_
                rintro e x2 ⟨rv2, R, rfl, hf, hR, hr⟩
                have HX2 := Lib.hid (HX1.out.trans hf)
                have HO2 : Hid (OwnU x2 wm.heap.size nv2 L1) := Lib.hid (ownsRow_fx HO1.out hf fun _ _ h => h)
                have HRi := Lib.hid hR
                have HRr := Lib.hid hr
                obtain ⟨nao2, ncap2, rfl, _⟩ := SlV.ofOwns HO2.out
                obtain ⟨ro2, rc2, hrv2, _⟩ := IntsV.facts hr.1
                rw [natsI_length, hR.1] at hrv2
                subst hrv2
                have hx2 := hf.size
                have HWn : Hid (Wr x2 nao2 L1.length wm.heap.size) := Lib.hid (Wr.own HO2.out (by rw [ncells_length fitU]; simp [kU]))
                have HWo : Hid (Wr x2 ro2 L1.length x1.heap.size) := Lib.hid (Wr.row hr hR.1)
                clear hf hR hr HO1
                go_wp2_with fail
                refine (same_any (SlV.ofOwns HO2.out : NumV x2 _ _ L1) (NamV.no HR7.out HX2.out)).mono ?_
                rintro e x3 ⟨rfl, hf⟩
                have HX3 := Lib.hid hf
                clear hf
                go_wp2_with fail
                refine (refRising_any (NamV.no HR7.out (HX2.out.trans HX3.out)) (up_nodup HT7.out.nd) (by rw [up_length]; exact HT7.out.small)).mono ?_
                rintro e x4 ⟨zv, Z, rfl, hf, hZ, hzv⟩
                have hRZ := risen_ints (risen_up HRi.out) hZ
                have HX4 := Lib.hid (HX3.out.trans hf)
                have HZv := Lib.hid hzv
                clear hf hZ hzv
                go_wp2_with fail
                refine (sameInts_any (IntsV.no HRr.out.1 HX4.out) HZv.out).mono ?_
                rintro e x5 ⟨rfl, hf⟩
                rw [show (natsI R == Z) = true from by rw [hRZ]; simp]
                have HX5 := Lib.hid (HX4.out.trans hf)
                clear hf hRZ
                go_wp2_with fail
                refine (len_any (HT7.out.no (HX2.out.trans HX5.out))).mono ?_
                rintro e x6 ⟨rfl, hf⟩
                have HX6 := Lib.hid (HX5.out.trans hf)
                clear hf
                go_wp2_with fail
                refine (names_any (HC7.out.no (HX2.out.trans HX6.out))).mono ?_
                rintro e x7 ⟨cv, rfl, hf, hcv⟩
                have HX7 := Lib.hid (HX6.out.trans hf)
                have HCv : Hid (NumV x7 _ cv L) := Lib.hid (SlV.ofOwns hcv)
                clear hf hcv
                go_wp2_with fail
                refine (same_any HCv.out (NamV.no HW7.out (HX2.out.trans HX7.out))).mono ?_
                rintro e x8 ⟨rfl, hf⟩
                have HX8 := Lib.hid (HX7.out.trans hf)
                clear hf
                go_wp2_with fail
                refine (len_any (HC7.out.no (HX2.out.trans HX8.out))).mono ?_
                rintro e x9 ⟨rfl, hf⟩
                have HX9 := Lib.hid (HX8.out.trans hf)
                have HFx9 := Lib.hid (HX2.out.trans HX9.out)
                have HWn9 := Lib.hid (HWn.out.no HX9.out)
                have HWo9 := Lib.hid (HWo.out.no HX9.out)
                clear hf
                have hm7 := HFm.out.size
                go_wp2
                go_loopw [19] (fun kk ws => ∃ k : Nat, kk = .int .i64 k ∧ k ≤ L1.length ∧ Fx No wk ws ∧ Wr ws nao2 L1.length wm.heap.size ∧ Wr ws ro2 L1.length x1.heap.size) (fun kk _ => L1.length - (intOf kk).toNat)
                case atStart => exact ⟨0, rfl, by omega, HFx9.out, HWn9.out, HWo9.out⟩
                case round =>
                  obtain ⟨k, rfl, hk, hf, hW1, hW2⟩ := hrel
                  have HFk := Lib.hid hf
                  have HWk1 := Lib.hid hW1
                  have HWk2 := Lib.hid hW2
                  obtain ⟨wq, hwq⟩ : ∃ x, x = wr := ⟨_, rfl⟩
                  subst hwq
                  clear hf hW1 hW2
                  by_cases hkl : k < L1.length
                  · have d4 : decide ((k : Int) < (L1.length : Int)) = true := decide_eq_true (by omega)
                    have d4' : decide (k < L1.length) = true := decide_eq_true hkl
                    have k0 : (0 : Int) ≤ (k : Int) := by omega
                    have k1 : (k : Int) < (L1.length : Int) := by omega
                    obtain ⟨ga, oa, y, rfl, hga, hcy, hfy⟩ := HWk1.out k hkl
                    have HFk3 := Lib.hid (HFk.out.setCell (a := ⟨ga, oa + k, none⟩) (.inl (by simp only; omega)) (.int .u64 77))
                    have HWk3 := Lib.hid (HWk1.out.put ⟨ga, oa + k, none⟩ (.int .u64 77))
                    have HWk4 := Lib.hid (HWk2.out.put ⟨ga, oa + k, none⟩ (.int .u64 77))
                    obtain ⟨gb, ob, y2, rfl, hgb, hcy2, hfy2⟩ := HWk4.out k hkl
                    have HFk5 := Lib.hid (HFk3.out.setCell (a := ⟨gb, ob + k, none⟩) (.inl (by simp only; omega)) (.int .i64 77))
                    have HWk5 := Lib.hid (HWk3.out.put ⟨gb, ob + k, none⟩ (.int .i64 77))
                    have HWk6 := Lib.hid (HWk4.out.put ⟨gb, ob + k, none⟩ (.int .i64 77))
                    go_wp2
                    go_roundw
                    case rel => exact ⟨k + 1, by first | rfl | go_num, by omega, HFk5.out, HWk5.out, HWk6.out⟩
                    case measure => simp [intOf]; omega
                  · obtain rfl : k = L1.length := by omega
                    have d4 : decide ((L1.length : Int) < (L1.length : Int)) = false := decide_eq_false (by omega)
                    have d4' : decide (L1.length < L1.length) = false := decide_eq_false (by omega)
                    go_wp2
                    go_roundw
                    case rel => exact ⟨m + 1, by first | rfl | go_num, by omega, HFk.out⟩
                    case measure => simp [intOf]; omega
              · obtain rfl : m = 2 := by omega
                have HTm := Lib.hid (HT7.out.no HFm.out)
                have HRm : Hid (PaV wm (Iv w4.heap.size w5.heap.size) (.slice sao L1.length scap) (up L1)) := Lib.hid (NamV.no HR7.out HFm.out)
                have HFw := Lib.hid (HF7.out.trans HFm.out)
                have hmz := HFm.out.size
                have hnp := namP_up L1 nn
                have HNp := Lib.hid hnp
                clear hnp hml
                go_wp2_with fail
                refine (find_any HTm.out HNm.out).mono ?_
                rintro e y1 ⟨rfl, hf⟩
                have HY1 := Lib.hid hf
                clear hf
                go_wp2_with fail
                refine (refFind_any (x := (nm, 0)) (NamV.no HRm.out HY1.out)).mono ?_
                rintro e y2 ⟨rfl, hf⟩
                rw [fnd_up, isIn_up]
                have HY2 := Lib.hid (HY1.out.trans hf)
                clear hf
                go_wp2_with fail
                refine (name_any (HTm.out.no HY2.out) nn).mono ?_
                rintro e y3 ⟨rfl, hf⟩
                have HY3 := Lib.hid (HY2.out.trans hf)
                clear hf
                go_wp2_with fail
                refine (refName_any (NamV.no HRm.out HY3.out) nn).mono ?_
                rintro e y4 ⟨rfl, hf⟩
                rw [HNp.out.1, HNp.out.2]
                have HY4 := Lib.hid (HY3.out.trans hf)
                clear hf
                obtain ⟨q1, hq1⟩ : ∃ q, q = fnd L1 nm := ⟨_, rfl⟩
                obtain ⟨q2, hq2⟩ : ∃ q, q = isIn L1 nm := ⟨_, rfl⟩
                obtain ⟨q3, hq3⟩ : ∃ q, q = nam L1 nn := ⟨_, rfl⟩
                obtain ⟨q4, hq4⟩ : ∃ q, q = namE L1 nn := ⟨_, rfl⟩
                rw [← hq1, ← hq2, ← hq3, ← hq4]
                clear hq1 hq2 hq3 hq4
                have HS9 : Hid (∀ W, Fx No wm W → PlayS w W w1.heap.size L1 (.slice sao L1.length scap) Dt2 (Iv w4.heap.size w5.heap.size)) := Lib.hid fun W q => ⟨HFw.out.trans q, HTm.out.no q, fun j e => by
                  rcases HD6.out j e with h2 | h2
                  · exact HTl.out j h2
                  · omega, NamV.no HRm.out q, fun j e => ⟨by have := e.1; omega, by have h1 := e.2; have h2 := q.size; omega, fun r => by
                  have h1 := e.1
                  have h2 := e.2
                  rcases HD6.out j r with h3 | h3
                  · have := HDt.out j h3; omega
                  · omega⟩⟩
                have n1 : (q1 != q1) = false := by simp
                have n2 : (q2 != q2) = false := by cases q2 <;> rfl
                have n3 : (q3 != q3) = false := by simp
                have n4 : (q4 != q4) = false := by simp
                go_wp2
                go_roundw
                case rel => exact ⟨κ + 1, L1, Dt2, Iv w4.heap.size w5.heap.size, by first | rfl | go_num, by omega, by omega, HS9.out _ (by first | exact HY4.out.alloc _ | exact (HY4.out.alloc _).setCell (.inl (Nat.le_refl _)) _)⟩
                case measure => simp [intOf]; omega
      · obtain rfl : κ = ls.length := by omega
        have d1 : decide ((ls.length : Int) < (ls.length : Int)) = false := decide_eq_false (by omega)
        have d1' : decide (ls.length < ls.length) = false := decide_eq_false (by omega)
        rcases Nat.eq_zero_or_pos ls.length with h0 | h0
        · have d2 : decide ((0 : Int) < (ls.length : Int)) = false := decide_eq_false (by omega)
          have d2' : decide (0 < ls.length) = false := decide_eq_false (by omega)
          have H0 := Lib.hid h0
          clear h0 hl hLl
          go_wp2_with fail
          refine (works_any _).mono ?_
          rintro e w2 ⟨rfl, hf⟩
          have HF9 := Lib.hid (HB.out.fx.trans hf)
          clear hf
          go_wp2
          go_ret
          exact ⟨rfl, HF9.out⟩
        · have d2 : decide ((0 : Int) < (ls.length : Int)) = true := decide_eq_true (by omega)
          have d2' : decide (0 < ls.length) = true := decide_eq_true h0
          obtain ⟨l, hl2⟩ : ∃ l, ls[0]? = some l := ⟨_, List.getElem?_eq_getElem h0⟩
          obtain ⟨g, o, rv, rfl, hgl, hcc, hv, hok⟩ := HC.out 0 l hl2
          have hl30 := H30.out 0 l hl2
          obtain ⟨ra, rc, rfl, _, _, _⟩ := NumV.facts hv
          have HCr : Hid (wa.cell? ⟨g, o, none⟩ = some (.slice ra l.length rc)) := Lib.hid (HB.out.fx.cell' hcc (fun h => h))
          have HV : Hid (NumV wa (fun j => j < w.heap.size) (.slice ra l.length rc) l) := Lib.hid (hv.keep HB.out.fx No.disj)
          have HOk := Lib.hid hok
          have hcr := HCr.out
          have HFw := Lib.hid HB.out.fx
          clear hcc hv hok hl2 HB hl
          go_wp2_with fail
          refine (from_any HV.out HOk.out (by omega) (fun j e => by omega)).mono ?_
          rintro e w2 ⟨rfl, hf, Du, hTu, hDu⟩
          have HF2 := Lib.hid hf
          have HTu := Lib.hid hTu
          have hcr2 := hf.cell' HCr.out (fun h => h)
          clear hf hTu hDu hcr
          go_wp2_with fail
          refine (refNames_any (HV.out.keep HF2.out No.disj) (by omega)).mono ?_
          rintro e w3 ⟨nv, rfl, hf, hn⟩
          have HF3 := Lib.hid (HF2.out.trans hf)
          have HG3 := Lib.hid hf
          have HN3 := Lib.hid hn
          clear hf hn hcr2
          go_wp2_with fail
          refine (refAdd_any (L := []) (SlV.nil w3 No 2) HN3.out.row (by rw [up_length]; simp; omega)).mono ?_
          rintro e w4 ⟨sv, rfl, hf, hs4⟩
          rw [show addN ([] : List (Int × Int)) (up l) = up (addN [] l) from addN_up [] l] at hs4
          have HF4 := Lib.hid (HF3.out.trans hf)
          have HF34 := Lib.hid hf
          have HS4 := Lib.hid hs4
          obtain ⟨sao, scap, hsv, _⟩ := SlV.ofOwns hs4
          rw [up_length] at hsv
          subst hsv
          clear hf hs4
          go_wp2_with fail
          refine (names_any (HTu.out.no (HG3.out.trans HF34.out))).mono ?_
          rintro e w5 ⟨nv5, rfl, hf, ho⟩
          have HF5 := Lib.hid (HF4.out.trans hf)
          have HS5 : Hid (PaV w5 _ (.slice sao (addN [] l).length scap) (up (addN [] l))) := Lib.hid (NamV.no HS4.out.row hf)
          have HO5 : Hid (NumV w5 _ nv5 (addN [] l)) := Lib.hid (SlV.ofOwns ho)
          clear hf ho
          go_wp2_with fail
          refine (same_any HO5.out HS5.out).mono ?_
          rintro e w6 ⟨rfl, hf⟩
          have HF6 := Lib.hid (HF5.out.trans hf)
          clear hf
          go_wp2_with fail
          refine (works_any _).mono ?_
          rintro e w7 ⟨rfl, hf⟩
          have HF7 := Lib.hid (HFw.out.trans (HF6.out.trans hf))
          clear hf
          go_wp2
          go_ret
          exact ⟨rfl, HF7.out⟩
theorem plays_said {w : World} {v : Value} {ls : List (List Int)} (h : RowsU w (fun j => j < w.heap.size) v ls) (a : Int) (ha : (Lit.int .u64 a).wf = true) (n : Int) : Calls Try.prog 4 #[v, .int .u64 a, .int .i64 n] w fun e w' => e = .returned (.bool true) ∧ Fx No w w' := plays_any h a (ok_wfU ha) n
#print axioms plays_any
end Go.Proofs.Ytpegloapdkfgiaa
