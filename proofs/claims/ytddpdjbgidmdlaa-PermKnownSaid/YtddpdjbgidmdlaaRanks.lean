/- The law PermRanks. -/
import Derived.Test.YtddpdjbgidmdlaaRankLaw
namespace Go.Proofs.Ytddpdjbgidmdlaa
open Go.RowKit
set_option linter.unusedVariables false

set_option maxHeartbeats 4000000 in
theorem ranks_core {w : World} {D : Nat → Prop} {v : Value} {p : List Int} (h : IntsV w D v p) (n : Int) (k : Nat) (hk : k < 18446744073709551616) :
    Calls Try.prog 4 #[v, .int .i64 n, .int .u64 (k : Int)] w fun e w' => e = .returned (.bool true) ∧ Fx No w w' := by
  have H := Lib.hid h
  obtain ⟨ao, cap, rfl, hl, _⟩ := h.facts
  clear h
  obtain ⟨len, hlen⟩ : ∃ k, k = p.length := ⟨_, rfl⟩
  rw [← hlen] at hl H ⊢
  have HLen := Lib.hid hlen
  clear hlen
  by_cases h1 : 30 < len
  · have d1 : decide ((30 : Int) < (len : Int)) = true := decide_eq_true (by omega)
    go_enter Try.func4, Try.ntmps4
    go_wp2_with fail
    refine (works_any _).mono ?_
    rintro e w1 ⟨rfl, hf⟩
    have HF := Lib.hid hf
    clear hf
    go_wp2
    go_ret
    exact ⟨rfl, (Fx.refl No _).trans HF.out⟩
  · have d1 : decide ((30 : Int) < (len : Int)) = false := decide_eq_false (by omega)
    have hlen30 : len ≤ 30 := by omega
    have HP6 : Hid (p.length ≤ 1000000) := by show _ ≤ _; rw [← HLen.out]; omega
    have HK := Lib.hid hk
    clear h1 hk
    go_enter Try.func4, Try.ntmps4
    go_wp2_with fail
    refine (rank_any H.out HP6.out).mono ?_
    rintro e w1 ⟨rfl, hf⟩
    have HF1 := Lib.hid hf
    obtain ⟨r, hr⟩ : ∃ r, r = rankN p := ⟨_, rfl⟩
    obtain ⟨ro, hro⟩ : ∃ r, r = rankOk p := ⟨_, rfl⟩
    rw [← hr, ← hro]
    have HR := Lib.hid hr
    have HRo := Lib.hid hro
    clear hf hr hro
    go_wp2_with fail
    refine (refRank_any (H.out.no HF1.out)).mono ?_
    rintro e w2 ⟨rfl, hf⟩
    have HF2 : Hid (Fx No w w2) := HF1.out.trans hf
    rw [← HR.out, ← HRo.out]
    clear hf HF1
    go_wp2_with fail
    refine (unrank_any n k w2 HK.out).mono ?_
    rintro e w3 ⟨u, rfl, hf, hu⟩
    have HF3 : Hid (Fx No w w3) := HF2.out.trans hf
    have HU3 := Lib.hid hu
    obtain ⟨so, hso⟩ : ∃ r, r = unrOk n k := ⟨_, rfl⟩
    rw [← hso]
    have HSo := Lib.hid hso
    clear hf hu hso HF2
    go_wp2_with fail
    refine (refUnrank_any n k w3 HK.out).mono ?_
    rintro e w4 ⟨u2, rfl, hf, hu⟩
    have HF4 : Hid (Fx No w w4) := HF3.out.trans hf
    have HU4 := Lib.hid (HU3.out.no hf)
    have HV4 := Lib.hid hu
    rw [← HSo.out]
    clear hf hu HF3 HU3
    go_wp2_with fail
    refine (sameInts_any HU4.out HV4.out).mono ?_
    rintro e w5 ⟨rfl, hf⟩
    have HF : Hid (Fx No w w5) := HF4.out.trans hf
    have HU := Lib.hid (HU4.out.no hf)
    have e1 : (unrL n k == unrL n k) = true := by simp
    rw [e1]
    clear hf e1 HF4 HU4 HV4
    rcases Bool.eq_false_or_eq_true so with rfl | rfl
    · obtain ⟨m1, m2, m3, m4⟩ := unr_rank HSo.out.symm
      obtain ⟨m5, m6⟩ := invR_twice m3
      have m7 : okB (unrL n k) = true := (okB_iff _).2 m3
      have M1 := Lib.hid m1
      have M2 := Lib.hid m2
      have M4 : Hid ((unrL n k).length ≤ 1000000) := by show _ ≤ _; omega
      have M5 := Lib.hid m5
      have M6 := Lib.hid m6
      have M7 := Lib.hid m7
      have M8 : Hid ((invR (unrL n k)).length ≤ 1000000) := by
        show _ ≤ _
        rw [show invR (unrL n k) = invL (unrL n k) from if_pos m3, invL_length]; omega
      clear m1 m2 m3 m4 m5 m6 m7
      go_wp2_with fail
      refine (rank_any HU.out M4.out).mono ?_
      rintro e w6 ⟨rfl, hf⟩
      have HF6 : Hid (Fx No w w6) := HF.out.trans hf
      have HU6 := Lib.hid (HU.out.no hf)
      rw [M1.out, M2.out]
      clear hf HF HU
      go_wp2_with fail
      refine (inverse_any HU6.out M4.out).mono ?_
      rintro e w7 ⟨z1, rfl, hf, hz⟩
      have HF7 : Hid (Fx No w w7) := HF6.out.trans hf
      have HU7 := Lib.hid (HU6.out.no hf)
      have HZ7 := Lib.hid hz.ints
      rw [M7.out]
      clear hf hz HF6 HU6
      go_wp2_with fail
      refine (inverse_any HZ7.out M8.out).mono ?_
      rintro e w8 ⟨z2, rfl, hf, hz⟩
      have HF8 : Hid (Fx No w w8) := HF7.out.trans hf
      have HU8 := Lib.hid (HU7.out.no hf)
      have HZ8 := Lib.hid hz.ints
      rw [M6.out]
      clear hf hz HF7 HU7 HZ7
      go_wp2_with fail
      refine (sameInts_any HZ8.out HU8.out).mono ?_
      rintro e w9 ⟨rfl, hf⟩
      have HF : Hid (Fx No w w9) := HF8.out.trans hf
      have e1 : (invR (invR (unrL n k)) == unrL n k) = true := by rw [M5.out]; simp
      rw [e1]
      clear hf e1 HF8 HU8 HZ8 M1 M2 M4 M5 M6 M7 M8
      go_wp2_with fail
      refine (after_any (H.out.no HF.out) HP6.out).mono ?_
      rintro e wA ⟨qv, q, b, rfl, hf, hq, hA⟩
      have HFA : Hid (Fx No w wA) := HF.out.trans hf
      have HQ := Lib.hid hq
      have HA := Lib.hid hA
      clear hf hq hA HF
      rcases Bool.eq_false_or_eq_true ro with rfl | rfl
      · obtain ⟨n1, n2⟩ := after_next HRo.out.symm HA.out
        rw [← HR.out] at n1 n2
        obtain ⟨r1, hr1⟩ : ∃ r1, r1 = r + 1 := ⟨_, rfl⟩
        rw [← hr1, ← HLen.out] at n1 n2
        have hr2 : r < 2432902008176640000 := by
          rw [HR.out]
          unfold rankN
          rw [if_pos HRo.out.symm]
          have := HRo.out
          unfold rankOk at this
          simp only [Bool.true_eq, Bool.and_eq_true, decide_eq_true_eq] at this
          exact rk_bound this.1
        have hw : IntKind.u64.wrap ((r : Int) + 1) = (r1 : Int) := by rw [IntKind.wrap_u64]; omega
        have HR1 : Hid (r1 < 18446744073709551616) := by show _ < _; omega
        have N1 := Lib.hid n1
        have N2 := Lib.hid n2
        clear n1 n2 hr1 hr2
        go_wp2_with fail
        refine (refUnrank_any (len : Int) r1 wA HR1.out).mono ?_
        rintro e wB ⟨u3, rfl, hf, hu⟩
        have HFB : Hid (Fx No w wB) := HFA.out.trans hf
        have HQB := Lib.hid (HQ.out.no hf)
        have HUB := Lib.hid hu
        rw [← N1.out]
        have hbb : (b == b) = true := by simp
        clear hf hu HFA HQ
        go_wp2_with fail
        refine (sameInts_any HQB.out HUB.out).mono ?_
        rintro e wC ⟨rfl, hf⟩
        have HFC : Hid (Fx No w wC) := HFB.out.trans hf
        have e1 : (q == unrL (len : Int) r1) = true := by rw [← N2.out]; simp
        rw [e1]
        clear hf e1 HFB HQB HUB
        go_wp2_with fail
        refine (works_any _).mono ?_
        rintro e wD ⟨rfl, hf⟩
        have HFD : Hid (Fx No w wD) := HFC.out.trans hf
        clear hf HFC
        go_wp2
        go_ret
        exact ⟨rfl, HFD.out⟩
      · obtain ⟨n1, n2⟩ := after_not HRo.out.symm HA.out
        rw [← HLen.out] at n1
        obtain ⟨qo, qc, hqv, _⟩ := HQ.out.facts
        obtain ⟨ql, hql⟩ : ∃ l, l = q.length := ⟨_, rfl⟩
        rw [← hql] at hqv
        subst hqv
        have hq0 : b = true ∨ ql = 0 := by
          rcases n2 with h | h
          · exact .inl h
          · rw [hql, h]; exact .inr rfl
        have HQ0 := Lib.hid hq0
        have N1 := Lib.hid n1
        clear n1 n2 hql hq0
        by_cases h20 : 20 < len
        · have d20 : decide ((20 : Int) < (len : Int)) = true := decide_eq_true (by omega)
          have e20 : decide (20 < len) = true := decide_eq_true h20
          go_wp2_with fail
          refine (refRight_any (H.out.no HFA.out) (len : Int)).mono ?_
          rintro e wB ⟨rfl, rfl⟩
          obtain ⟨R, hR⟩ : ∃ R, R = rightB p (len : Int) := ⟨_, rfl⟩
          have n1 := N1.out
          rw [← hR, e20] at n1
          rw [← hR]
          clear hR e20 N1 h20
          rcases Bool.eq_false_or_eq_true R with rfl | rfl
          · have N1 := Lib.hid n1
            clear n1
            go_wp2_with fail
            refine (falling_any (H.out.no HFA.out)).mono ?_
            rintro e wB ⟨rfl, hf⟩
            have HFB : Hid (Fx No w wB) := HFA.out.trans hf
            obtain ⟨F, hF⟩ : ∃ F, F = fallB p := ⟨_, rfl⟩
            have n1 := N1.out
            rw [← hF] at n1
            rw [← hF]
            clear hF N1 hf HFA
            rcases Bool.eq_false_or_eq_true F with rfl | rfl
            · obtain rfl : b = false := by simpa using n1
              obtain rfl : ql = 0 := by simpa using HQ0.out
              clear n1
              go_wp2_with fail
              refine (works_any _).mono ?_
              rintro e wD ⟨rfl, hf⟩
              have HFD : Hid (Fx No w wD) := HFB.out.trans hf
              clear hf HFB
              go_wp2
              go_ret
              exact ⟨rfl, HFD.out⟩
            · obtain rfl : b = true := by simpa using n1
              clear n1
              go_wp2_with fail
              refine (works_any _).mono ?_
              rintro e wD ⟨rfl, hf⟩
              have HFD : Hid (Fx No w wD) := HFB.out.trans hf
              clear hf HFB
              go_wp2
              go_ret
              exact ⟨rfl, HFD.out⟩
          · obtain rfl : b = false := by simpa using n1
            obtain rfl : ql = 0 := by simpa using HQ0.out
            clear n1
            go_wp2_with fail
            refine (works_any _).mono ?_
            rintro e wD ⟨rfl, hf⟩
            have HFD : Hid (Fx No w wD) := HFA.out.trans hf
            clear hf HFA
            go_wp2
            go_ret
            exact ⟨rfl, HFD.out⟩
        · have d20 : decide ((20 : Int) < (len : Int)) = false := decide_eq_false (by omega)
          obtain rfl : b = false := by
            have n1 := N1.out
            rw [decide_eq_false h20] at n1
            simpa using n1
          obtain rfl : ql = 0 := by simpa using HQ0.out
          clear N1 h20
          go_wp2_with fail
          refine (works_any _).mono ?_
          rintro e wD ⟨rfl, hf⟩
          have HFD : Hid (Fx No w wD) := HFA.out.trans hf
          clear hf HFA
          go_wp2
          go_ret
          exact ⟨rfl, HFD.out⟩
    · clear HU
      go_wp2_with fail
      refine (after_any (H.out.no HF.out) HP6.out).mono ?_
      rintro e wA ⟨qv, q, b, rfl, hf, hq, hA⟩
      have HFA : Hid (Fx No w wA) := HF.out.trans hf
      have HQ := Lib.hid hq
      have HA := Lib.hid hA
      clear hf hq hA HF
      rcases Bool.eq_false_or_eq_true ro with rfl | rfl
      · obtain ⟨n1, n2⟩ := after_next HRo.out.symm HA.out
        rw [← HR.out] at n1 n2
        obtain ⟨r1, hr1⟩ : ∃ r1, r1 = r + 1 := ⟨_, rfl⟩
        rw [← hr1, ← HLen.out] at n1 n2
        have hr2 : r < 2432902008176640000 := by
          rw [HR.out]
          unfold rankN
          rw [if_pos HRo.out.symm]
          have := HRo.out
          unfold rankOk at this
          simp only [Bool.true_eq, Bool.and_eq_true, decide_eq_true_eq] at this
          exact rk_bound this.1
        have hw : IntKind.u64.wrap ((r : Int) + 1) = (r1 : Int) := by rw [IntKind.wrap_u64]; omega
        have HR1 : Hid (r1 < 18446744073709551616) := by show _ < _; omega
        have N1 := Lib.hid n1
        have N2 := Lib.hid n2
        clear n1 n2 hr1 hr2
        go_wp2_with fail
        refine (refUnrank_any (len : Int) r1 wA HR1.out).mono ?_
        rintro e wB ⟨u3, rfl, hf, hu⟩
        have HFB : Hid (Fx No w wB) := HFA.out.trans hf
        have HQB := Lib.hid (HQ.out.no hf)
        have HUB := Lib.hid hu
        rw [← N1.out]
        have hbb : (b == b) = true := by simp
        clear hf hu HFA HQ
        go_wp2_with fail
        refine (sameInts_any HQB.out HUB.out).mono ?_
        rintro e wC ⟨rfl, hf⟩
        have HFC : Hid (Fx No w wC) := HFB.out.trans hf
        have e1 : (q == unrL (len : Int) r1) = true := by rw [← N2.out]; simp
        rw [e1]
        clear hf e1 HFB HQB HUB
        go_wp2_with fail
        refine (works_any _).mono ?_
        rintro e wD ⟨rfl, hf⟩
        have HFD : Hid (Fx No w wD) := HFC.out.trans hf
        clear hf HFC
        go_wp2
        go_ret
        exact ⟨rfl, HFD.out⟩
      · obtain ⟨n1, n2⟩ := after_not HRo.out.symm HA.out
        rw [← HLen.out] at n1
        obtain ⟨qo, qc, hqv, _⟩ := HQ.out.facts
        obtain ⟨ql, hql⟩ : ∃ l, l = q.length := ⟨_, rfl⟩
        rw [← hql] at hqv
        subst hqv
        have hq0 : b = true ∨ ql = 0 := by
          rcases n2 with h | h
          · exact .inl h
          · rw [hql, h]; exact .inr rfl
        have HQ0 := Lib.hid hq0
        have N1 := Lib.hid n1
        clear n1 n2 hql hq0
        by_cases h20 : 20 < len
        · have d20 : decide ((20 : Int) < (len : Int)) = true := decide_eq_true (by omega)
          have e20 : decide (20 < len) = true := decide_eq_true h20
          go_wp2_with fail
          refine (refRight_any (H.out.no HFA.out) (len : Int)).mono ?_
          rintro e wB ⟨rfl, rfl⟩
          obtain ⟨R, hR⟩ : ∃ R, R = rightB p (len : Int) := ⟨_, rfl⟩
          have n1 := N1.out
          rw [← hR, e20] at n1
          rw [← hR]
          clear hR e20 N1 h20
          rcases Bool.eq_false_or_eq_true R with rfl | rfl
          · have N1 := Lib.hid n1
            clear n1
            go_wp2_with fail
            refine (falling_any (H.out.no HFA.out)).mono ?_
            rintro e wB ⟨rfl, hf⟩
            have HFB : Hid (Fx No w wB) := HFA.out.trans hf
            obtain ⟨F, hF⟩ : ∃ F, F = fallB p := ⟨_, rfl⟩
            have n1 := N1.out
            rw [← hF] at n1
            rw [← hF]
            clear hF N1 hf HFA
            rcases Bool.eq_false_or_eq_true F with rfl | rfl
            · obtain rfl : b = false := by simpa using n1
              obtain rfl : ql = 0 := by simpa using HQ0.out
              clear n1
              go_wp2_with fail
              refine (works_any _).mono ?_
              rintro e wD ⟨rfl, hf⟩
              have HFD : Hid (Fx No w wD) := HFB.out.trans hf
              clear hf HFB
              go_wp2
              go_ret
              exact ⟨rfl, HFD.out⟩
            · obtain rfl : b = true := by simpa using n1
              clear n1
              go_wp2_with fail
              refine (works_any _).mono ?_
              rintro e wD ⟨rfl, hf⟩
              have HFD : Hid (Fx No w wD) := HFB.out.trans hf
              clear hf HFB
              go_wp2
              go_ret
              exact ⟨rfl, HFD.out⟩
          · obtain rfl : b = false := by simpa using n1
            obtain rfl : ql = 0 := by simpa using HQ0.out
            clear n1
            go_wp2_with fail
            refine (works_any _).mono ?_
            rintro e wD ⟨rfl, hf⟩
            have HFD : Hid (Fx No w wD) := HFA.out.trans hf
            clear hf HFA
            go_wp2
            go_ret
            exact ⟨rfl, HFD.out⟩
        · have d20 : decide ((20 : Int) < (len : Int)) = false := decide_eq_false (by omega)
          obtain rfl : b = false := by
            have n1 := N1.out
            rw [decide_eq_false h20] at n1
            simpa using n1
          obtain rfl : ql = 0 := by simpa using HQ0.out
          clear N1 h20
          go_wp2_with fail
          refine (works_any _).mono ?_
          rintro e wD ⟨rfl, hf⟩
          have HFD : Hid (Fx No w wD) := HFA.out.trans hf
          clear hf HFA
          go_wp2
          go_ret
          exact ⟨rfl, HFD.out⟩
#print axioms ranks_core
theorem ranks_any {w : World} {D : Nat → Prop} {v : Value} {p : List Int} (h : IntsV w D v p) (n : Int) (k : Int) (hk : (Lit.int .u64 k).wf = true) :
    Calls Try.prog 4 #[v, .int .i64 n, .int .u64 k] w fun e w' => e = .returned (.bool true) ∧ Fx No w w' := by
  have hb : 0 ≤ k ∧ k ≤ 18446744073709551615 := by
    simp [Lit.wf, IntKind.min, IntKind.max, IntKind.signed, IntKind.bits] at hk
    omega
  obtain ⟨K, rfl⟩ := Int.eq_ofNat_of_zero_le hb.1
  exact ranks_core h n K (by omega)
end Go.Proofs.Ytddpdjbgidmdlaa
