/- The law BitsSets. -/
import Derived.Test.YthbfpcheljaeaaaDoorLawC
namespace Go.Proofs.YthbfpcheljaeaaaDoor
open Go.RowKit
set_option linter.unusedVariables false

set_option maxRecDepth 100000 in
set_option maxHeartbeats 4000000 in
theorem sets_any {w : World} {D E : Nat → Prop} {u v : Value} {k l : List Int} (n i : Int) (hk : IntsV w D u k) (hl : IntsV w E v l) (hT : TabOk w) :
    Calls Tryd.prog 6 #[.int .i64 n, u, v, .int .i64 i] w fun e w' => e = .returned (.bool true) ∧ Fx No w w' := by
  have HT := Lib.hid hT
  have HK := Lib.hid hk
  have HL := Lib.hid hl
  obtain ⟨ao, acap, rfl, hal, _⟩ := hk.facts
  obtain ⟨bo, bcap, rfl, hbl, _⟩ := hl.facts
  clear hT hk hl
  by_cases hw : 400 < n ∨ 40 < k.length ∨ 40 < l.length
  · have HW := Lib.hid (works_any HT.out)
    have hw4 : (400 < n) ∨ (n ≤ 400 ∧ 40 < k.length) ∨ (n ≤ 400 ∧ k.length ≤ 40 ∧ 40 < l.length) := by omega
    rcases hw4 with h1 | ⟨h1, h2⟩ | ⟨h1, h2, h3⟩
    all_goals
      clear hw
      go_enter Tryd.func6, Tryd.ntmps6
      go_wp2_with fail
      refine HW.out.mono ?_
      rintro e w' ⟨rfl, hf⟩
      go_wp2
      go_ret
      exact ⟨rfl, hf⟩
  · have h1 : n ≤ 400 := by omega
    have h2 : k.length ≤ 40 := by omega
    have h3 : l.length ≤ 40 := by omega
    obtain ⟨N, hN⟩ : ∃ N, N = newN n := ⟨_, rfl⟩
    obtain ⟨X, hX⟩ : ∃ X, X = ofX N k := ⟨_, rfl⟩
    obtain ⟨Y, hY⟩ : ∃ Y, Y = ofX N l := ⟨_, rfl⟩
    have HX : Hid (X < 2 ^ N) := by rw [hX]; exact ofX_lt _ _
    have HY : Hid (Y < 2 ^ N) := by rw [hY]; exact ofX_lt _ _
    have hNle : N ≤ 65536 := by rw [hN]; exact newN_le n
    have HN := Lib.hid hN
    have HXe := Lib.hid hX
    have HYe := Lib.hid hY
    obtain ⟨ca, hca⟩ : ∃ c, c = cntX N X := ⟨_, rfl⟩
    obtain ⟨cb, hcb⟩ : ∃ c, c = cntX N Y := ⟨_, rfl⟩
    obtain ⟨cj, hcj⟩ : ∃ c, c = cntX N (X ||| Y) := ⟨_, rfl⟩
    obtain ⟨cm, hcm⟩ : ∃ c, c = cntX N (X &&& Y) := ⟨_, rfl⟩
    obtain ⟨mo, hmo⟩ : ∃ c, c = cntX N (X ^^^ (X ||| Y)) := ⟨_, rfl⟩
    obtain ⟨gn, hgn⟩ : ∃ c, c = cntX N (X ^^^ (X &&& Y)) := ⟨_, rfl⟩
    obtain ⟨lf, hlf⟩ : ∃ c, c = cntX N (X ^^^ diff X Y) := ⟨_, rfl⟩
    have q1 := cnt_or X Y N
    have q2 := cnt_and X Y N
    have q3 := cnt_diff X Y N
    have q4 := cnt_parts X Y N
    have q5 := cnt_both X Y N
    rw [← hcj, ← hca, ← hmo] at q1
    rw [← hcm, ← hca, ← hgn] at q2
    rw [← hca, ← hlf] at q3
    rw [← hca, ← hgn, ← hlf] at q4
    rw [← hca, ← hcb, ← hcj, ← hcm] at q5
    have b1 : cj ≤ 65536 := by rw [hcj]; exact Nat.le_trans (cntX_le _ _) hNle
    have b2 : cb ≤ 65536 := by rw [hcb]; exact Nat.le_trans (cntX_le _ _) hNle
    have VA : Hid ((cntX N X : Int) = (ca : Int)) := by rw [← hca]; exact rfl
    have VA2 : Hid ((cntX N X : Int) = (gn : Int) + (lf : Int)) := by rw [← hca]; show _ = _; omega
    have VB : Hid ((cntX N Y : Int) = (cb : Int)) := by rw [← hcb]; exact rfl
    have VJ : Hid ((cntX N (X ||| Y) : Int) = (ca : Int) + (mo : Int)) := by rw [← hcj]; show _ = _; omega
    have VJ2 : Hid ((cntX N (X ||| Y) : Int) = (cj : Int)) := by rw [← hcj]; exact rfl
    have VM : Hid ((cntX N (X &&& Y) : Int) = (ca : Int) - (gn : Int)) := by rw [← hcm]; show _ = _; omega
    have VM2 : Hid ((cntX N (X &&& Y) : Int) = (cm : Int)) := by rw [← hcm]; exact rfl
    have VL : Hid ((cntX N (diff X Y) : Int) = (ca : Int) - (lf : Int)) := by show _ = _; omega
    have VX : Hid ((cntX N (diff X Y ^^^ X) : Int) = (cm : Int)) := by rw [diff_xor, ← hcm]; exact rfl
    have Vmo : Hid ((cntX N (X ^^^ (X ||| Y)) : Int) = (mo : Int)) := by rw [← hmo]; exact rfl
    have Vgn : Hid ((cntX N (X ^^^ (X &&& Y)) : Int) = (gn : Int)) := by rw [← hgn]; exact rfl
    have Vlf : Hid ((cntX N (X ^^^ diff X Y) : Int) = (lf : Int)) := by rw [← hlf]; exact rfl
    have q6 : (cj : Int) + (cm : Int) = (ca : Int) + (cb : Int) := by omega
    have q7 : ca ≤ 65536 := by omega
    have q8 : gn ≤ 65536 := by omega
    have q9 : lf ≤ 65536 := by omega
    have q10 : mo ≤ 65536 := by omega
    have Q6 := Lib.hid q6
    obtain ⟨xb, hxb⟩ : ∃ b, hasB X i = b := ⟨_, rfl⟩
    obtain ⟨yb, hyb⟩ : ∃ b, hasB Y i = b := ⟨_, rfl⟩
    have HXB := Lib.hid hxb
    have HYB := Lib.hid hyb
    have HJB : Hid (hasB (X ||| Y) i = (xb || yb)) := by rw [has_or, hxb, hyb]; exact rfl
    have HMB : Hid (hasB (X &&& Y) i = (xb && yb)) := by rw [has_and, hxb, hyb]; exact rfl
    have HLB : Hid (hasB (diff X Y) i = (xb && !yb)) := by rw [has_diff, hxb, hyb]; exact rfl
    clear hw hN hX hY hca hcb hcj hcm hmo hgn hlf hxb hyb q1 q2 q3 q4 q5 q6
    go_enter Tryd.func6, Tryd.ntmps6
    go_wp2_with fail
    refine (of_any n HK.out).mono ?_
    rintro e w1 ⟨a, rfl, hf, hs⟩
    rw [← HN.out, ← HXe.out] at hs
    have L1 := hf.size
    have HF1 : Hid (Fx No w w1) := hf
    have HA1 : Hid (SetIn w1 (Iv w.heap.size w1.heap.size) a N X) := hs
    clear hf hs
    go_wp2_with fail
    refine (of_any n (HL.out.keep HF1.out No.disj)).mono ?_
    rintro e w2 ⟨b, rfl, hf, hs⟩
    rw [← HN.out, ← HYe.out] at hs
    have L2 := hf.size
    have HF2 : Hid (Fx No w w2) := HF1.out.transNo hf
    have HB2 : Hid (SetIn w2 (Iv w1.heap.size w2.heap.size) b N Y) := hs
    have HA2 : Hid (SetIn w2 (Iv w.heap.size w1.heap.size) a N X) := HA1.out.no hf
    clear hf hs HA1 HF1 HK HL
    go_wp2_with fail
    refine (copy_any HA2.out).mono ?_
    rintro e w3 ⟨j, rfl, hf, hs⟩
    have L3 := hf.size
    have HF3 : Hid (Fx No w w3) := HF2.out.transNo hf
    have HB3 : Hid (SetIn w3 (Iv w1.heap.size w2.heap.size) b N Y) := HB2.out.no hf
    have HA3 : Hid (SetIn w3 (Iv w.heap.size w1.heap.size) a N X) := HA2.out.no hf
    have HJ3 : Hid (SetIn w3 (Iv w2.heap.size w3.heap.size) j N X) := hs
    clear hf hs HA2 HF2 HB2
    go_wp2_with fail
    refine (copy_any HA3.out).mono ?_
    rintro e w4 ⟨m, rfl, hf, hs⟩
    have L4 := hf.size
    have HF4 : Hid (Fx No w w4) := HF3.out.transNo hf
    have HB4 : Hid (SetIn w4 (Iv w1.heap.size w2.heap.size) b N Y) := HB3.out.no hf
    have HA4 : Hid (SetIn w4 (Iv w.heap.size w1.heap.size) a N X) := HA3.out.no hf
    have HJ4 : Hid (SetIn w4 (Iv w2.heap.size w3.heap.size) j N X) := HJ3.out.no hf
    have HM4 : Hid (SetIn w4 (Iv w3.heap.size w4.heap.size) m N X) := hs
    clear hf hs HA3 HF3 HB3 HJ3
    go_wp2_with fail
    refine (copy_any HA4.out).mono ?_
    rintro e w5 ⟨q, rfl, hf, hs⟩
    have L5 := hf.size
    have HF5 : Hid (Fx No w w5) := HF4.out.transNo hf
    have HB5 : Hid (SetIn w5 (Iv w1.heap.size w2.heap.size) b N Y) := HB4.out.no hf
    have HA5 : Hid (SetIn w5 (Iv w.heap.size w1.heap.size) a N X) := HA4.out.no hf
    have HJ5 : Hid (SetIn w5 (Iv w2.heap.size w3.heap.size) j N X) := HJ4.out.no hf
    have HM5 : Hid (SetIn w5 (Iv w3.heap.size w4.heap.size) m N X) := HM4.out.no hf
    have HL5 : Hid (SetIn w5 (Iv w4.heap.size w5.heap.size) q N X) := hs
    clear hf hs HA4 HF4 HB4 HJ4 HM4
    generalize hs0 : w.heap.size = s0 at *
    generalize w1.heap.size = s1 at *
    generalize w2.heap.size = s2 at *
    generalize w3.heap.size = s3 at *
    generalize w4.heap.size = s4 at *
    obtain ⟨s5, hs5⟩ : ∃ s5, s5 = w5.heap.size := ⟨_, rfl⟩
    rw [← hs5] at L5
    have HL5' : Hid (SetIn w5 (Iv s4 s5) q N X) := by rw [hs5]; exact HL5.out
    have HS0 := Lib.hid hs0
    have HS5 := Lib.hid hs5
    clear hs0 hs5 HL5
    go_wp2_with fail
    refine (joinOne HJ5.out (fun k hk => by have := HS5.out; have := hk.2; omega) HB5.out.p (Iv.disj (by omega)) (raw_or HX.out HY.out) Vmo.out).mono ?_
    rintro e w6 ⟨rfl, hf, hs⟩
    have L6 := hf.size
    have HF6 : Hid (Fx No w w6) := HF5.out.trans' hf (fun x hx hl => by have := HS0.out; have := hx.1; omega)
    have HB6 : Hid (SetIn w6 (Iv s1 s2) b N Y) := HB5.out.iv hf (by omega)
    have HA6 : Hid (SetIn w6 (Iv s0 s1) a N X) := HA5.out.iv hf (by omega)
    have HJ6 : Hid (SetIn w6 (Iv s2 s3) j N (X ||| Y)) := hs
    have HM6 : Hid (SetIn w6 (Iv s3 s4) m N X) := HM5.out.iv hf (by omega)
    have HL6 : Hid (SetIn w6 (Iv s4 s5) q N X) := HL5'.out.iv hf (by omega)
    have L6' : s5 ≤ w6.heap.size := by rw [HS5.out]; exact L6
    clear hf hs L6 HF5 HB5 HA5 HJ5 HM5 HL5' HS5
    go_wp2_with fail
    refine (meetOne HM6.out (fun k hk => by have := hk.2; omega) HB6.out.p (Iv.disj (by omega)) (raw_and HX.out) Vgn.out).mono ?_
    rintro e w7 ⟨rfl, hf, hs⟩
    have L7 := hf.size
    have HF7 : Hid (Fx No w w7) := HF6.out.trans' hf (fun x hx hl => by have := HS0.out; have := hx.1; omega)
    have HB7 : Hid (SetIn w7 (Iv s1 s2) b N Y) := HB6.out.iv hf (by omega)
    have HA7 : Hid (SetIn w7 (Iv s0 s1) a N X) := HA6.out.iv hf (by omega)
    have HJ7 : Hid (SetIn w7 (Iv s2 s3) j N (X ||| Y)) := HJ6.out.iv hf (by omega)
    have HM7 : Hid (SetIn w7 (Iv s3 s4) m N (X &&& Y)) := hs
    have HL7 : Hid (SetIn w7 (Iv s4 s5) q N X) := HL6.out.iv hf (by omega)
    clear hf hs HF6 HB6 HA6 HJ6 HM6 HL6
    go_wp2_with fail
    refine (lessOne HL7.out (fun k hk => by have := hk.2; omega) HB7.out.p (Iv.disj (by omega)) (raw_diff HX.out) Vlf.out).mono ?_
    rintro e w8 ⟨rfl, hf, hs⟩
    have L8 := hf.size
    have HF8 : Hid (Fx No w w8) := HF7.out.trans' hf (fun x hx hl => by have := HS0.out; have := hx.1; omega)
    have HB8 : Hid (SetIn w8 (Iv s1 s2) b N Y) := HB7.out.iv hf (by omega)
    have HA8 : Hid (SetIn w8 (Iv s0 s1) a N X) := HA7.out.iv hf (by omega)
    have HJ8 : Hid (SetIn w8 (Iv s2 s3) j N (X ||| Y)) := HJ7.out.iv hf (by omega)
    have HM8 : Hid (SetIn w8 (Iv s3 s4) m N (X &&& Y)) := HM7.out.iv hf (by omega)
    have HL8 : Hid (SetIn w8 (Iv s4 s5) q N (diff X Y)) := hs
    clear hf hs HF7 HB7 HA7 HJ7 HM7 HL7
    go_wp2_with fail
    refine (withinV HA8.out.p HJ8.out.p (within_or_left X Y)).mono ?_
    rintro e w' ⟨rfl, rfl⟩
    go_wp2_with fail
    refine (withinV HB8.out.p HJ8.out.p (within_or_right X Y)).mono ?_
    rintro e w' ⟨rfl, rfl⟩
    go_wp2_with fail
    refine (withinV HM8.out.p HA8.out.p (within_and_left X Y)).mono ?_
    rintro e w' ⟨rfl, rfl⟩
    go_wp2_with fail
    refine (withinV HM8.out.p HB8.out.p (within_and_right X Y)).mono ?_
    rintro e w' ⟨rfl, rfl⟩
    go_wp2_with fail
    refine (lenV HJ8.out.p VJ.out).mono ?_
    rintro e w' ⟨rfl, rfl⟩
    go_wp2_with fail
    refine (lenV HA8.out.p VA.out).mono ?_
    rintro e w' ⟨rfl, rfl⟩
    go_wp2_with fail
    refine (lenV HM8.out.p VM.out).mono ?_
    rintro e w' ⟨rfl, rfl⟩
    go_wp2_with fail
    refine (lenV HA8.out.p VA.out).mono ?_
    rintro e w' ⟨rfl, rfl⟩
    go_wp2_with fail
    refine (lenV HL8.out.p VL.out).mono ?_
    rintro e w' ⟨rfl, rfl⟩
    go_wp2_with fail
    refine (lenV HA8.out.p VA.out).mono ?_
    rintro e w' ⟨rfl, rfl⟩
    go_wp2_with fail
    refine (lenV HA8.out.p VA2.out).mono ?_
    rintro e w' ⟨rfl, rfl⟩
    cases xb
    · cases yb
      all_goals
        go_wp2_with fail
        refine (hasV HJ8.out.p HJB.out).mono ?_
        rintro e w' ⟨rfl, rfl⟩
        go_wp2_with fail
        refine (hasV HA8.out.p HXB.out).mono ?_
        rintro e w' ⟨rfl, rfl⟩
        go_wp2_with fail
        refine (hasV HB8.out.p HYB.out).mono ?_
        rintro e w' ⟨rfl, rfl⟩
        go_wp2_with fail
        refine (hasV HM8.out.p HMB.out).mono ?_
        rintro e w' ⟨rfl, rfl⟩
        go_wp2_with fail
        refine (hasV HA8.out.p HXB.out).mono ?_
        rintro e w' ⟨rfl, rfl⟩
        go_wp2_with fail
        refine (hasV HL8.out.p HLB.out).mono ?_
        rintro e w' ⟨rfl, rfl⟩
        go_wp2_with fail
        refine (hasV HA8.out.p HXB.out).mono ?_
        rintro e w' ⟨rfl, rfl⟩
        go_wp2_with fail
        refine (joinOne HL8.out (fun k hk => by have := hk.2; omega) HM8.out.p (Iv.disj (by omega)) (by rw [raw_or (diff_lt HX.out _) (Nat.lt_of_le_of_lt Nat.and_le_left HX.out), diff_or_and]) VX.out).mono ?_
        rintro e w9 ⟨rfl, hf, hs⟩
        have HF9 : Hid (Fx No w w9) := HF8.out.trans' hf (fun x hx hl => by have := HS0.out; have := hx.1; omega)
        have HB9 : Hid (SetIn w9 (Iv s1 s2) b N Y) := HB8.out.iv hf (by omega)
        have HA9 : Hid (SetIn w9 (Iv s0 s1) a N X) := HA8.out.iv hf (by omega)
        have HJ9 : Hid (SetIn w9 (Iv s2 s3) j N (X ||| Y)) := HJ8.out.iv hf (by omega)
        have HM9 : Hid (SetIn w9 (Iv s3 s4) m N (X &&& Y)) := HM8.out.iv hf (by omega)
        have HL9 : Hid (SetIn w9 (Iv s4 s5) q N X) := hs
        clear hf hs HF8 HB8 HA8 HJ8 HM8 HL8
        go_wp2_with fail
        refine (lenV HM9.out.p VM2.out).mono ?_
        rintro e w' ⟨rfl, rfl⟩
        go_wp2_with fail
        refine (sameV HL9.out.p HA9.out.p (sameB_refl N X)).mono ?_
        rintro e w' ⟨rfl, rfl⟩
        go_wp2_with fail
        refine (lenV HJ9.out.p VJ2.out).mono ?_
        rintro e w' ⟨rfl, rfl⟩
        go_wp2_with fail
        refine (lenV HM9.out.p VM2.out).mono ?_
        rintro e w' ⟨rfl, rfl⟩
        go_wp2_with fail
        refine (lenV HA9.out.p VA.out).mono ?_
        rintro e w' ⟨rfl, rfl⟩
        have q6 := Q6.out
        have q11 : wrap64 ((ca : Int) + (cb : Int)) = (ca : Int) + (cb : Int) := by first | (unfold wrap64; omega) | go_num
        go_wp2_with fail
        refine (lenV HB9.out.p VB.out).mono ?_
        rintro e w' ⟨rfl, rfl⟩
        go_wp2_with fail
        clear q6 q11 q7 q8 q9 q10
        refine (works_any (HT.out.no HF9.out)).mono ?_
        rintro e w10 ⟨rfl, hf⟩
        have HF10 := Lib.hid (HF9.out.transNo hf)
        clear hf
        go_wp2
        go_ret
        exact ⟨by simp, HF10.out⟩
    · cases yb
      all_goals
        go_wp2_with fail
        refine (hasV HJ8.out.p HJB.out).mono ?_
        rintro e w' ⟨rfl, rfl⟩
        go_wp2_with fail
        refine (hasV HA8.out.p HXB.out).mono ?_
        rintro e w' ⟨rfl, rfl⟩
        go_wp2_with fail
        refine (hasV HM8.out.p HMB.out).mono ?_
        rintro e w' ⟨rfl, rfl⟩
        go_wp2_with fail
        refine (hasV HA8.out.p HXB.out).mono ?_
        rintro e w' ⟨rfl, rfl⟩
        go_wp2_with fail
        refine (hasV HB8.out.p HYB.out).mono ?_
        rintro e w' ⟨rfl, rfl⟩
        go_wp2_with fail
        refine (hasV HL8.out.p HLB.out).mono ?_
        rintro e w' ⟨rfl, rfl⟩
        go_wp2_with fail
        refine (hasV HA8.out.p HXB.out).mono ?_
        rintro e w' ⟨rfl, rfl⟩
        go_wp2_with fail
        refine (hasV HB8.out.p HYB.out).mono ?_
        rintro e w' ⟨rfl, rfl⟩
        go_wp2_with fail
        refine (joinOne HL8.out (fun k hk => by have := hk.2; omega) HM8.out.p (Iv.disj (by omega)) (by rw [raw_or (diff_lt HX.out _) (Nat.lt_of_le_of_lt Nat.and_le_left HX.out), diff_or_and]) VX.out).mono ?_
        rintro e w9 ⟨rfl, hf, hs⟩
        have HF9 : Hid (Fx No w w9) := HF8.out.trans' hf (fun x hx hl => by have := HS0.out; have := hx.1; omega)
        have HB9 : Hid (SetIn w9 (Iv s1 s2) b N Y) := HB8.out.iv hf (by omega)
        have HA9 : Hid (SetIn w9 (Iv s0 s1) a N X) := HA8.out.iv hf (by omega)
        have HJ9 : Hid (SetIn w9 (Iv s2 s3) j N (X ||| Y)) := HJ8.out.iv hf (by omega)
        have HM9 : Hid (SetIn w9 (Iv s3 s4) m N (X &&& Y)) := HM8.out.iv hf (by omega)
        have HL9 : Hid (SetIn w9 (Iv s4 s5) q N X) := hs
        clear hf hs HF8 HB8 HA8 HJ8 HM8 HL8
        go_wp2_with fail
        refine (lenV HM9.out.p VM2.out).mono ?_
        rintro e w' ⟨rfl, rfl⟩
        go_wp2_with fail
        refine (sameV HL9.out.p HA9.out.p (sameB_refl N X)).mono ?_
        rintro e w' ⟨rfl, rfl⟩
        go_wp2_with fail
        refine (lenV HJ9.out.p VJ2.out).mono ?_
        rintro e w' ⟨rfl, rfl⟩
        go_wp2_with fail
        refine (lenV HM9.out.p VM2.out).mono ?_
        rintro e w' ⟨rfl, rfl⟩
        go_wp2_with fail
        refine (lenV HA9.out.p VA.out).mono ?_
        rintro e w' ⟨rfl, rfl⟩
        have q6 := Q6.out
        have q11 : wrap64 ((ca : Int) + (cb : Int)) = (ca : Int) + (cb : Int) := by first | (unfold wrap64; omega) | go_num
        go_wp2_with fail
        refine (lenV HB9.out.p VB.out).mono ?_
        rintro e w' ⟨rfl, rfl⟩
        go_wp2_with fail
        clear q6 q11 q7 q8 q9 q10
        refine (works_any (HT.out.no HF9.out)).mono ?_
        rintro e w10 ⟨rfl, hf⟩
        have HF10 := Lib.hid (HF9.out.transNo hf)
        clear hf
        go_wp2
        go_ret
        exact ⟨by simp, HF10.out⟩
#print axioms sets_any
end Go.Proofs.YthbfpcheljaeaaaDoor
