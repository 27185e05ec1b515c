/- The law BitsNone. -/
import Derived.Test.YthbfpcheljaeaaaDoorLawC
namespace Go.Proofs.YthbfpcheljaeaaaDoor
open Go.RowKit
set_option linter.unusedVariables false

theorem SetP.nil (w : World) : SetP w No none 0 0 := .inl ⟨rfl, rfl, rfl⟩
theorem hasB_zero (i : Int) : hasB 0 i = false := by simp [hasB]
theorem addB_none (i : Int) : addB 0 0 i = false := by
  have : mayB 0 i = false := by unfold mayB; rw [decide_eq_false_iff_not]; omega
  simp [addB, this]
theorem cntX_zero : ∀ n, cntX n 0 = 0
  | 0 => rfl
  | n + 1 => by rw [cntX_succ, cntX_zero n]; simp

set_option maxRecDepth 100000 in
set_option maxHeartbeats 4000000 in
theorem none_any {w : World} {E : Nat → Prop} {v : Value} {l : List Int} (i : Int) (hi : i ≤ 9223372036854775807) (hl : IntsV w E v l) (hT : TabOk w) :
    Calls Tryd.prog 4 #[.int .i64 i, v] w fun e w' => e = .returned (.bool true) ∧ Fx No w w' := by
  have HT := Lib.hid hT
  have HL := Lib.hid hl
  obtain ⟨bo, bcap, rfl, hbl, _⟩ := hl.facts
  clear hT hl
  by_cases hw : 40 < l.length
  · have HW := Lib.hid (works_any HT.out)
    go_enter Tryd.func4, Tryd.ntmps4
    go_wp2_with fail
    refine HW.out.mono ?_
    rintro e w' ⟨rfl, hf⟩
    go_wp2
    go_ret
    exact ⟨rfl, hf⟩
  · have h3 : l.length ≤ 40 := by omega
    obtain ⟨X, hX⟩ : ∃ X, X = ofX 50 l := ⟨_, rfl⟩
    have HX : Hid (X < 2 ^ 50) := by rw [hX]; exact ofX_lt _ _
    have HXe := Lib.hid hX
    obtain ⟨ca, hca⟩ : ∃ c, c = cntX 50 X := ⟨_, rfl⟩
    have VA : Hid ((cntX 50 X : Int) = (ca : Int)) := by rw [← hca]; exact rfl
    have VD : Hid ((cntX 50 (X ^^^ X) : Int) = 0) := by rw [Nat.xor_self, cntX_zero]; exact rfl
    have VD2 : Hid ((cntX 50 (X ^^^ 0) : Int) = (ca : Int)) := by rw [Nat.xor_zero, ← hca]; exact rfl
    have VD3 : Hid ((cntX 50 0 : Int) = 0) := by rw [cntX_zero]; exact rfl
    have HI := Lib.hid hi
    clear hw hX hca hi
    go_enter Tryd.func4, Tryd.ntmps4
    go_wp2_with fail
    refine (next_any (SetP.nil w) HT.out i HI.out).mono ?_
    rintro e w1 ⟨rfl, hf⟩
    have HF1 : Hid (Fx No w w1) := hf
    have L1 := hf.size
    have e1 : nextN 0 0 i = 0 := rfl
    have e2 : nextB 0 0 i = false := rfl
    rw [e1, e2]
    clear hf e1 e2
    go_wp2_with fail
    refine (of_any 50 (HL.out.keep HF1.out No.disj)).mono ?_
    rintro e w2 ⟨b, rfl, hf, hs⟩
    rw [show newN 50 = 50 from rfl, ← HXe.out] at hs
    have L2 := hf.size
    have HF2 : Hid (Fx No w w2) := HF1.out.transNo hf
    have HB2 : Hid (SetIn w2 (Iv w1.heap.size w2.heap.size) b 50 X) := hs
    clear hf hs HF1 HL
    go_wp2_with fail
    refine (lenV HB2.out.p VA.out).mono ?_
    rintro e w' ⟨rfl, rfl⟩
    go_wp2_with fail
    refine (size_any (SetP.nil _)).mono ?_
    rintro e w' ⟨rfl, rfl⟩
    go_wp2_with fail
    refine (lenV (SetP.nil _) (z := 0) rfl).mono ?_
    rintro e w' ⟨rfl, rfl⟩
    go_wp2_with fail
    refine (hasV (SetP.nil _) (hasB_zero i)).mono ?_
    rintro e w' ⟨rfl, rfl⟩
    go_wp2_with fail
    refine (add_any (SetP.nil _) i).mono ?_
    rintro e w3 ⟨rfl, hf, _⟩
    rw [addB_none]
    have L3 := hf.size
    have HF3 : Hid (Fx No w w3) := HF2.out.transNo hf
    have HB3 : Hid (SetIn w3 (Iv w1.heap.size w2.heap.size) b 50 X) := HB2.out.no hf
    clear hf HF2 HB2
    go_wp2_with fail
    refine (remove_any (SetP.nil _) i).mono ?_
    rintro e w4 ⟨rfl, hf, _⟩
    rw [hasB_zero]
    have L4 := hf.size
    have HF4 : Hid (Fx No w w4) := HF3.out.transNo hf
    have HB4 : Hid (SetIn w4 (Iv w1.heap.size w2.heap.size) b 50 X) := HB3.out.no hf
    clear hf HF3 HB3
    go_wp2_with fail
    refine (all_any (SetP.nil _) (HT.out.no HF4.out)).mono ?_
    rintro e w5 ⟨u, rfl, hf, ho⟩
    obtain ⟨uo, ucap, rfl, _, _⟩ := ho.ints.facts
    rw [show (allX 0 0).length = 0 from rfl]
    have L5 := hf.size
    have HF5 : Hid (Fx No w w5) := HF4.out.transNo hf
    have HB5 : Hid (SetIn w5 (Iv w1.heap.size w2.heap.size) b 50 X) := HB4.out.no hf
    clear hf ho HF4 HB4
    go_wp2_with fail
    refine (joinNil_any _ _).mono ?_
    rintro e w6 ⟨rfl, hw6⟩
    have hf : Fx No w5 w6 := by rw [← hw6]; exact (Fx.refl No w5).alloc _
    have L6 := hf.size
    have HF6 : Hid (Fx No w w6) := HF5.out.transNo hf
    have HB6 : Hid (SetIn w6 (Iv w1.heap.size w2.heap.size) b 50 X) := HB5.out.no hf
    clear hf HF5 HB5 hw6
    go_wp2_with fail
    refine (meetNil_any _ _).mono ?_
    rintro e w7 ⟨rfl, hw6⟩
    have hf : Fx No w6 w7 := by rw [← hw6]; exact (Fx.refl No w6).alloc _
    have L7 := hf.size
    have HF7 : Hid (Fx No w w7) := HF6.out.transNo hf
    have HB7 : Hid (SetIn w7 (Iv w1.heap.size w2.heap.size) b 50 X) := HB6.out.no hf
    clear hf HF6 HB6 hw6
    go_wp2_with fail
    refine (lessNil_any _ _).mono ?_
    rintro e w8 ⟨rfl, hw6⟩
    have hf : Fx No w7 w8 := by rw [← hw6]; exact (Fx.refl No w7).alloc _
    have L8 := hf.size
    have HF8 : Hid (Fx No w w8) := HF7.out.transNo hf
    have HB8 : Hid (SetIn w8 (Iv w1.heap.size w2.heap.size) b 50 X) := HB7.out.no hf
    clear hf HF7 HB7 hw6
    go_wp2_with fail
    refine (copyNil_any _).mono ?_
    rintro e w' ⟨rfl, rfl⟩
    go_wp2_with fail
    refine (joinOne (Z := X) HB8.out (fun x hx => by have := hx.2; omega) (SetP.nil _) (fun x hx _ => hx) (by rw [raw_or HX.out (Nat.two_pow_pos 50), Nat.or_zero]) VD.out).mono ?_
    rintro e w9 ⟨rfl, hf, hs⟩
    have L9 := hf.size
    have HF9 : Hid (Fx No w w9) := HF8.out.trans' hf (fun x hx hl => by have := hx.1; omega)
    have HB9 : Hid (SetIn w9 (Iv w1.heap.size w2.heap.size) b 50 X) := hs
    clear hf hs HF8 HB8
    go_wp2_with fail
    refine (lessOne (Z := X) HB9.out (fun x hx => by have := hx.2; omega) (SetP.nil _) (fun x hx _ => hx) (by rw [raw_diff HX.out]; simp [diff]) VD.out).mono ?_
    rintro e w10 ⟨rfl, hf, hs⟩
    have L10 := hf.size
    have HF10 : Hid (Fx No w w10) := HF9.out.trans' hf (fun x hx hl => by have := hx.1; omega)
    have HB10 : Hid (SetIn w10 (Iv w1.heap.size w2.heap.size) b 50 X) := hs
    clear hf hs HF9 HB9
    go_wp2_with fail
    refine (lenV HB10.out.p VA.out).mono ?_
    rintro e w' ⟨rfl, rfl⟩
    go_wp2_with fail
    refine (meetOne (Z := 0) HB10.out (fun x hx => by have := hx.2; omega) (SetP.nil _) (fun x hx _ => hx) (by rw [raw_and HX.out, Nat.and_zero]) VD2.out).mono ?_
    rintro e w11 ⟨rfl, hf, hs⟩
    have L11 := hf.size
    have HF11 : Hid (Fx No w w11) := HF10.out.trans' hf (fun x hx hl => by have := hx.1; omega)
    have HB11 : Hid (SetIn w11 (Iv w1.heap.size w2.heap.size) b 50 0) := hs
    clear hf hs HF10 HB10
    go_wp2_with fail
    refine (lenV HB11.out.p VD3.out).mono ?_
    rintro e w' ⟨rfl, rfl⟩
    go_wp2_with fail
    refine (works_any (HT.out.no HF11.out)).mono ?_
    rintro e w12 ⟨rfl, hf⟩
    have HF12 := Lib.hid (HF11.out.transNo hf)
    clear hf
    go_wp2
    go_ret
    exact ⟨by simp, HF12.out⟩
#print axioms none_any
end Go.Proofs.YthbfpcheljaeaaaDoor
