/- The law InternPairs: its walk. -/
import Derived.Test.YtpegloapdkfgiaaNU
namespace Go.Proofs.Ytpegloapdkfgiaa
open Go.RowKit
set_option linter.unusedVariables false

set_option maxRecDepth 100000 in
set_option maxHeartbeats 6000000 in
theorem pairsLaw_any {w : World} {D E : Nat → Prop} {v u : Value} {ps qs : List (Int × Int)} (h : PaV w D v ps) (hk : ∀ x ∈ ps, kP.ok x) (hD : ∀ j, D j → j < w.heap.size) (h' : PaV w E u qs) (hk' : ∀ x ∈ qs, kP.ok x) (hE : ∀ j, E j → j < w.heap.size) (p : Int × Int) (hp : kP.ok p) (n : Int) :
    Calls Try.prog 5 #[v, u, .agg #[.int .u64 p.1, .int .u64 p.2], .int .i64 n] w fun e w' => e = .returned (.bool true) ∧ Fx No w w' := by
  obtain ⟨ao, cap, rfl, _, hcm, _⟩ := PaV.facts h
  obtain ⟨bo, bcap, rfl, _, hbm, _⟩ := PaV.facts h'
  have H1 := Lib.hid h
  have H2 := Lib.hid h'
  have HK1 := Lib.hid hk
  have HK2 := Lib.hid hk'
  have HD := Lib.hid hD
  have HE := Lib.hid hE
  have HP := Lib.hid hp
  clear h h' hk hk' hD hE hp
  by_cases hb1 : 30 < ps.length
  · have d1 : decide ((30 : Int) < (ps.length : Int)) = true := decide_eq_true (by omega)
    have d1' : decide (30 < ps.length) = true := decide_eq_true hb1
    go_enter Try.func5, Try.ntmps5
    go_wp2_with fail
    refine (works_any _).mono ?_
    rintro e w2 ⟨rfl, hf⟩
    have HF9 := Lib.hid (((Fx.refl No w).alloc _).trans hf)
    clear hf
    go_wp2
    go_ret
    exact ⟨rfl, HF9.out⟩
  · have d1 : decide ((30 : Int) < (ps.length : Int)) = false := decide_eq_false (by omega)
    have d1' : decide (30 < ps.length) = false := decide_eq_false hb1
    by_cases hb2 : 30 < qs.length
    · have d2 : decide ((30 : Int) < (qs.length : Int)) = true := decide_eq_true (by omega)
      have d2' : decide (30 < qs.length) = true := decide_eq_true hb2
      go_enter Try.func5, Try.ntmps5
      go_wp2_with fail
      refine (works_any _).mono ?_
      rintro e w2 ⟨rfl, hf⟩
      have HF9 := Lib.hid (((Fx.refl No w).alloc _).trans hf)
      clear hf
      go_wp2
      go_ret
      exact ⟨rfl, HF9.out⟩
    · have d2 : decide ((30 : Int) < (qs.length : Int)) = false := decide_eq_false (by omega)
      have d2' : decide (30 < qs.length) = false := decide_eq_false hb2
      obtain ⟨wa, hwa⟩ : ∃ q, q = (w.alloc (.cells #[.int .u64 p.1, .int .u64 p.2] 60)).alloc (.cells #[.map none, .slice none 0 0] 65) := ⟨_, rfl⟩
      have hz : wa.heap.size = w.heap.size + 2 := by rw [hwa]; simp
      have HFa : Hid (Fx No w wa) := Lib.hid (by rw [hwa]; exact ((Fx.refl No w).alloc _).alloc _)
      have HT : Hid (TabP' wa (fun j => j = w.heap.size + 1) (w.heap.size + 1) []) := Lib.hid (by
        have t2 := TabV.new (K := kP) (t := 60) (w.alloc (.cells #[.int .u64 p.1, .int .u64 p.2] 60)) 65
        simp only [World.size_alloc] at t2
        rw [hwa]
        exact t2)
      have HB0 : Hid (wa.cell? ⟨w.heap.size, 0, none⟩ = some (.int .u64 p.1)) := Lib.hid (by rw [hwa]; go_simp)
      have HB1 : Hid (wa.cell? ⟨w.heap.size, 1, none⟩ = some (.int .u64 p.2)) := Lib.hid (by rw [hwa]; go_simp)
      obtain ⟨L1, hL1⟩ : ∃ q, q = addN ([] : List (Int × Int)) ps := ⟨_, rfl⟩
      obtain ⟨L2, hL2⟩ : ∃ q, q = addN L1 qs := ⟨_, rfl⟩
      have hl1 : L1.length ≤ 30 := by
        have := (length_addN ([] : List (Int × Int)) ps).2
        rw [hL1]; simp at this; omega
      have hl2 : L2.length ≤ 60 := by
        have := (length_addN L1 qs).2
        rw [hL2]; omega
      have HL1 := Lib.hid hL1
      have HL2 := Lib.hid hL2
      clear hL1 hL2
      go_enter Try.func5, Try.ntmps5
      go_wp2_with fail
      rw [← hwa]
      clear hwa
      refine (pairs_any (NamV.no H1.out HFa.out) (by omega)).mono ?_
      rintro e w1 ⟨v1, rfl, hf, ho1⟩
      have HF1 := Lib.hid hf
      have HO1 := Lib.hid ho1
      clear hf ho1
      go_wp2_with fail
      refine (refAdd_any (L := []) (SlV.nil w1 No 2) HO1.out.row (by simp; omega)).mono ?_
      rintro e w2 ⟨rv, rfl, hf, hr⟩
      rw [← HL1.out] at hr
      obtain ⟨rao, rcap, rfl, _⟩ := SlV.ofOwns hr
      have HF2 := Lib.hid (HF1.out.trans hf)
      have HR2 := Lib.hid hr
      clear hf hr
      have hz2 := HF2.out.size
      have HDj : Hid (∀ j, D j → ¬ j = w.heap.size + 1) := Lib.hid fun j e => by have := HD.out j e; omega
      go_wp2_with fail
      refine (addPs_any (HT.out.no HF2.out) (NamV.no H1.out (HFa.out.trans HF2.out)) HK1.out HDj.out (by simp; omega)).mono ?_
      rintro e w3 ⟨rfl, hft, Dt3, hT3, hD3⟩
      rw [← HL1.out] at hT3
      have HF3 : Hid (Fx (fun j => j = w.heap.size + 1) w2 w3) := Lib.hid hft
      have HT3 := Lib.hid hT3
      have hz3 := hft.size
      have HD3 : Hid (∀ j, Dt3 j → j = w.heap.size + 1 ∨ w2.heap.size ≤ j) := Lib.hid hD3
      have HR3 : Hid (PaV w3 (Iv w1.heap.size w2.heap.size) (.slice rao L1.length rcap) L1) := Lib.hid (by
        have hz1 := HF1.out.size
        exact HR2.out.row.keep hft fun j e r => by have h1 := e.1; have h2 : j = w.heap.size + 1 := r; omega)
      have HFw3 : Hid (Fx No w w3) := Lib.hid ((HFa.out.trans HF2.out).trans' hft fun j e q => by have h2 : j = w.heap.size + 1 := e; omega)
      have HB03 : Hid (w3.cell? ⟨w.heap.size, 0, none⟩ = some (.int .u64 p.1)) := Lib.hid (hft.cell' (HF2.out.cell' HB0.out (fun h => h)) (fun e => by have h2 : w.heap.size = w.heap.size + 1 := e; omega))
      have HB13 : Hid (w3.cell? ⟨w.heap.size, 1, none⟩ = some (.int .u64 p.2)) := Lib.hid (hft.cell' (HF2.out.cell' HB1.out (fun h => h)) (fun e => by have h2 : w.heap.size = w.heap.size + 1 := e; omega))
      clear hft hT3 hD3 HT HB0 HB1
      go_wp2_with fail
      refine (pairs_any (NamV.no H2.out HFw3.out) (by omega)).mono ?_
      rintro e w4 ⟨v4, rfl, hf, ho⟩
      have HF4 := Lib.hid hf
      have HO4 := Lib.hid ho
      clear hf ho
      go_wp2_with fail
      refine (refAdd_any (NamV.no HR3.out HF4.out) HO4.out.row (by omega)).mono ?_
      rintro e w5 ⟨sv, rfl, hf, hs⟩
      rw [← HL2.out] at hs
      obtain ⟨sao, scap, rfl, _⟩ := SlV.ofOwns hs
      have HF5 := Lib.hid (HF4.out.trans hf)
      have HS5 := Lib.hid hs
      have hz4 := HF4.out.size
      have hz5 := hf.size
      clear hf hs
      have HEj : Hid (∀ j, E j → ¬ Dt3 j) := Lib.hid fun j e r => by
        have h1 := HE.out j e
        rcases HD3.out j r with h2 | h2 <;> omega
      have HTl := Lib.hid HT3.out.lt
      go_wp2_with fail
      refine (addPs_any (HT3.out.no HF5.out) (NamV.no H2.out (HFw3.out.trans HF5.out)) HK2.out HEj.out (by omega)).mono ?_
      rintro e w6 ⟨rfl, hft, Dt6, hT6, hD6⟩
      rw [← HL2.out] at hT6
      have HT6 := Lib.hid hT6
      have hz6 := hft.size
      have HS6 : Hid (PaV w6 (Iv w4.heap.size w5.heap.size) (.slice sao L2.length scap) L2) := Lib.hid (HS5.out.row.keep hft fun j e r => by have h1 := e.1; have h2 := HTl.out j r; omega)
      have HFw6 : Hid (Fx No w w6) := Lib.hid ((HFw3.out.trans HF5.out).trans' hft fun j e q => by
        rcases HD3.out j e with h2 | h2 <;> omega)
      have hb0n : ¬ Dt3 w.heap.size := fun r => by
        rcases HD3.out _ r with h2 | h2 <;> omega
      have HB06 : Hid (w6.cell? ⟨w.heap.size, 0, none⟩ = some (.int .u64 p.1)) := Lib.hid (hft.cell' (HF5.out.cell' HB03.out (fun h => h)) hb0n)
      have HB16 : Hid (w6.cell? ⟨w.heap.size, 1, none⟩ = some (.int .u64 p.2)) := Lib.hid (hft.cell' (HF5.out.cell' HB13.out (fun h => h)) hb0n)
      clear hft hT6 hD6 hb0n HB03 HB13 HEj HDj
      go_wp2_with fail
      refine (lenP_any HT6.out).mono ?_
      rintro e x1 ⟨rfl, hf⟩
      have HX1 := Lib.hid hf
      clear hf
      go_wp2_with fail
      refine (risingP_any (HT6.out.no HX1.out)).mono ?_
      rintro e x2 ⟨rv2, R, rfl, hf, hR, hr⟩
      have HX2 := Lib.hid (HX1.out.trans hf)
      have HRi := Lib.hid hR
      have HRr := Lib.hid hr
      clear hf hR hr
      go_wp2_with fail
      refine (refRising_any (NamV.no HS6.out HX2.out) HT6.out.nd HT6.out.small).mono ?_
      rintro e x3 ⟨zv, Z, rfl, hf, hZ, hzv⟩
      have hRZ := risen_ints HRi.out hZ
      have HX3 := Lib.hid hf
      have HZv := Lib.hid hzv
      clear hf hZ hzv
      go_wp2_with fail
      refine (sameInts_any (IntsV.no HRr.out.1 HX3.out) HZv.out).mono ?_
      rintro e x4 ⟨rfl, hf⟩
      rw [show (natsI R == Z) = true from by rw [hRZ]; simp]
      have HX4 := Lib.hid (HX2.out.trans (HX3.out.trans hf))
      clear hf hRZ HX3 HZv HRr HRi
      have c0 := HX4.out.cell' HB06.out (fun h => h)
      have c1 := HX4.out.cell' HB16.out (fun h => h)
      go_wp2_with fail
      refine (findP_any (x := p) (HT6.out.no HX4.out) HP.out).mono ?_
      rintro e x5 ⟨rfl, hf⟩
      have HX5 := Lib.hid (HX4.out.trans hf)
      have c0' := hf.cell' c0 (fun h => h)
      have c1' := hf.cell' c1 (fun h => h)
      clear hf c0 c1
      go_wp2_with fail
      refine (refFind_any (x := p) (NamV.no HS6.out HX5.out)).mono ?_
      rintro e x6 ⟨rfl, hf⟩
      have HX6 := Lib.hid (HX5.out.trans hf)
      clear hf c0' c1'
      go_wp2_with fail
      refine (nameP_any (HT6.out.no HX6.out) n).mono ?_
      rintro e x7 ⟨rfl, hf⟩
      have HX7 := Lib.hid (HX6.out.trans hf)
      obtain ⟨y1, hy1⟩ : ∃ q, q = (namP L2 n).1 := ⟨_, rfl⟩
      obtain ⟨y2, hy2⟩ : ∃ q, q = (namP L2 n).2 := ⟨_, rfl⟩
      obtain ⟨y3, hy3⟩ : ∃ q, q = namPE L2 n := ⟨_, rfl⟩
      rw [← hy1, ← hy2, ← hy3]
      have HY1 := Lib.hid hy1
      have HY2 := Lib.hid hy2
      have HY3 := Lib.hid hy3
      clear hf hy1 hy2 hy3
      go_wp2_with fail
      refine Calls.mono (refName_any (L := L2) (NamV.no HS6.out (D := Iv w4.heap.size w5.heap.size) (Fx.trans HX7.out (by first | exact (Fx.refl No x7).alloc _ | exact ((Fx.refl No x7).alloc _).setCell (.inl (Nat.le_refl _)) _))) n) ?_
      rintro e x8 ⟨rfl, hf⟩
      rw [← HY1.out, ← HY2.out, ← HY3.out]
      have c2 := hf.cell' (a := ⟨x7.heap.size, 0, none⟩) (v := .int .u64 y1) (by go_simp) (fun h => h)
      have c3 := hf.cell' (a := ⟨x7.heap.size, 1, none⟩) (v := .int .u64 y2) (by go_simp) (fun h => h)
      have hz8 : x7.heap.size < x8.heap.size := World.block_lt_of_cell? _ _ c2
      have HX8 : Hid (Fx No w6 x8) := Lib.hid ((HX7.out.alloc _).trans hf)
      obtain ⟨q1, hq1⟩ : ∃ q, q = fnd L2 p := ⟨_, rfl⟩
      obtain ⟨q2, hq2⟩ : ∃ q, q = isIn L2 p := ⟨_, rfl⟩
      rw [← hq1, ← hq2]
      have n1 : (q1 != q1) = false := by simp
      have n2 : (q2 != q2) = false := by cases q2 <;> rfl
      have n3 : (y1 != y1) = false := by simp
      have n4 : (y2 != y2) = false := by simp
      have n5 : (y3 != y3) = false := by simp
      clear hf hq1 hq2
      go_wp2
      go_loopw [22, 23, 24] (fun kk _ _ ws => ∃ k : Nat, kk = .int .i64 k ∧ k ≤ L2.length ∧ Fx No w6 ws) (fun kk _ _ _ => L2.length - (intOf kk).toNat)
      case atStart => exact ⟨0, rfl, by omega, HX8.out.alloc _⟩
      case round =>
        obtain ⟨k, rfl, hk, hf⟩ := hrel
        have HFk := Lib.hid hf
        obtain ⟨wk, hwk⟩ : ∃ x, x = wr := ⟨_, rfl⟩
        subst hwk
        clear hf c2 c3 n1 n2 n3 n4 n5
        by_cases hkl : k < L2.length
        · have d4 : decide ((k : Int) < (L2.length : Int)) = true := decide_eq_true (by omega)
          have d4' : decide (k < L2.length) = true := decide_eq_true hkl
          have k0 : (0 : Int) ≤ (k : Int) := by omega
          have k1 : (k : Int) < (L2.length : Int) := by omega
          obtain ⟨s1, s2, hs1, _, _, hsc⟩ := PaV.facts (NamV.no HS6.out HFk.out)
          simp only [Value.slice.injEq] at hs1
          obtain ⟨rfl, _, rfl⟩ := hs1
          obtain ⟨g, o, rfl, _, hca, hcb⟩ := hsc k hkl
          have hnam : namP L2 ((k : Nat) : Int) = gp L2 k := by unfold namP; rw [if_pos ⟨by omega, by omega⟩]; rfl
          have hnE : namPE L2 ((k : Nat) : Int) = 0 := by unfold namPE; rw [if_pos ⟨by omega, by omega⟩]
          have HNa := Lib.hid hnam
          have HNe := Lib.hid hnE
          have HCa := Lib.hid hca
          have HCb := Lib.hid hcb
          clear hnam hnE hca hcb hsc
          go_wp2_with fail
          refine (nameP_any (HT6.out.no HFk.out) ((k : Nat) : Int)).mono ?_
          rintro e y9 ⟨rfl, hf⟩
          rw [HNa.out, HNe.out]
          obtain ⟨z1, hz1⟩ : ∃ z, z = (gp L2 k).1 := ⟨_, rfl⟩
          obtain ⟨z2, hz2⟩ : ∃ z, z = (gp L2 k).2 := ⟨_, rfl⟩
          have e1 := hf.cell' HCa.out (fun h => h)
          have e2 := hf.cell' HCb.out (fun h => h)
          rw [← hz1] at e1
          rw [← hz2] at e2
          rw [← hz1, ← hz2]
          have HF9 := Lib.hid (HFk.out.trans hf)
          have n3 : (z1 != z1) = false := by simp
          have n4 : (z2 != z2) = false := by simp
          have hgl := World.block_lt_of_cell? _ _ e1
          clear hf hz1 hz2
          go_wp2
          go_quiet (fail)
          go_wp2
          go_roundw
          case rel => exact ⟨k + 1, by first | rfl | go_num, by omega, by first | exact (HF9.out.alloc _).drewN _ | exact ((HF9.out.alloc _).setCell (.inl (by have := HF9.out.size; simp only; omega)) _).drewN _⟩
          case measure => simp [intOf]; omega
        · obtain rfl : k = L2.length := by omega
          have d4 : decide ((L2.length : Int) < (L2.length : Int)) = false := decide_eq_false (by omega)
          have d4' : decide (L2.length < L2.length) = false := decide_eq_false (by omega)
          go_wp2_with fail
          refine (works_any _).mono ?_
          rintro e w9 ⟨rfl, hf⟩
          have HF9 := Lib.hid (HFw6.out.trans (HFk.out.trans hf))
          clear hf
          go_wp2
          go_ret
          exact ⟨rfl, HF9.out⟩
theorem pairs_said {w : World} {v u : Value} {ps qs : List (Int × Int)} (h : NamV kP w (fun j => j < w.heap.size) v ps) (hk : ∀ x ∈ ps, kP.ok x) (h' : NamV kP w (fun j => j < w.heap.size) u qs) (hk' : ∀ x ∈ qs, kP.ok x) (p : Int × Int) (hp : kP.ok p) (n : Int) :
    Calls Try.prog 5 #[v, u, .agg #[.int .u64 p.1, .int .u64 p.2], .int .i64 n] w fun e w' => e = .returned (.bool true) ∧ Fx No w w' := pairsLaw_any h hk (fun _ h => h) h' hk' (fun _ h => h) p hp n
#print axioms pairsLaw_any
end Go.Proofs.Ytpegloapdkfgiaa
