/- Contracts of package alibiref08: Add, Remove, Of, Within, Same. -/
import Derived.Test.YthbfpcheljaeaaaDoorRefA
namespace Go.Proofs.YthbfpcheljaeaaaDoor
open Go.RowKit
set_option linter.unusedVariables false

theorem ins_testBit' (X k j : Nat) : (ins X k).testBit j = if j = k then true else X.testBit j := by
  rw [ins_testBit]
  by_cases e : j = k
  · subst e; simp
  · simp [e, Ne.symm e]
theorem del_testBit' (X k j : Nat) : (del X k).testBit j = if j = k then false else X.testBit j := by
  rw [del_testBit]
  by_cases e : j = k
  · subst e; simp
  · simp [e, Ne.symm e]

theorem refAdd_any {w : World} {D : Nat → Prop} {v : Value} {n X : Nat} (h : IsR w D v n X) (i : Int) :
    Calls Tryd.prog 32 #[.agg #[v], .int .i64 i] w fun e w' => ∃ v', e = .returned (.tuple #[.agg #[v'], .bool (addB n X i)]) ∧ Fx No w w' ∧ IsR w' (DU D w w') v' n (addX n X i) := by
  have H := Lib.hid h
  have hX := h.2.1
  obtain ⟨ao, cap, rfl, hc⟩ := h.facts
  by_cases hm : mayB n i = true
  · obtain ⟨k, rfl⟩ := Int.eq_ofNat_of_zero_le (by simp [mayB] at hm; exact hm.1 : 0 ≤ i)
    have hk : k < n := by simp [mayB] at hm; exact hm
    obtain ⟨b, o, rfl, _, hcell⟩ := hc k hk
    have HC := Lib.hid hcell
    by_cases hb : X.testBit k = true
    · have HB : Hid (addB n X (k : Int) = false) := by simp [Hid, addB, hasB_nat, hb]
      have HX := Lib.hid (addX_of_not HB.out)
      clear hc h hX hcell
      go_enter Tryd.func32, Tryd.ntmps32
      go_wp2_with fail
      refine (refMay_any (H.out.no (((Fx.refl No w).alloc _).alloc _)) _).mono ?_
      rintro e w1 ⟨rfl, hf⟩
      have hc1 := hf.cell' (a := ⟨w.heap.size, 0, none⟩) (v := .slice (some ⟨b, o, none⟩) n cap) (by simp) (fun h => h)
      obtain ⟨hc2, hz2⟩ := hf.cellF (a := ⟨w.heap.size + 1, 0, none⟩) (v := .slice none 0 0) (by simp) (by simp) (fun h => h)
      have hc3 := ((((Fx.refl No w).alloc _).alloc _).trans hf).cell' HC.out (fun h => h)
      have hsz := hf.size
      simp only [World.size_alloc] at hsz
      have HF := Lib.hid ((((Fx.refl No w).alloc _).alloc _).trans hf)
      clear hf
      go_wp2
      have hres := World.cell?_setCell_same w1 ⟨w.heap.size + 1, 0, none⟩ (.slice (some ⟨b, o, none⟩) n cap) hc2
      refine bodyPost_ret (v := .tuple #[.agg #[.slice (some ⟨b, o, none⟩) n cap], .bool false]) (by simp [results, Tryd.results32, go_sem, hres]) rfl ⟨_, by rw [HB.out], ?_, ?_⟩
      · exact HF.out.setCell (.inl (by simp)) _
      · rw [HX.out]
        exact (H.out.no (HF.out.setCell (.inl (by simp)) _)).mono fun j hj => .inl hj
    · have hb' : X.testBit k = false := by simpa using hb
      have HB : Hid (addB n X (k : Int) = true) := by simp [Hid, addB, hasB_nat, hb', hm]
      have HX : Hid (addX n X (k : Int) = ins X k) := by simp [Hid, addX, hm]
      have HL := Lib.hid (ins_lt hX hk)
      clear hc h hX hcell hb
      go_enter Tryd.func32, Tryd.ntmps32
      go_wp2_with fail
      refine (refMay_any (H.out.no (((Fx.refl No w).alloc _).alloc _)) _).mono ?_
      rintro e w1 ⟨rfl, hf⟩
      have hc1 := hf.cell' (a := ⟨w.heap.size, 0, none⟩) (v := .slice (some ⟨b, o, none⟩) n cap) (by simp) (fun h => h)
      obtain ⟨hc2, hz2⟩ := hf.cellF (a := ⟨w.heap.size + 1, 0, none⟩) (v := .slice none 0 0) (by simp) (by simp) (fun h => h)
      have hc3 := ((((Fx.refl No w).alloc _).alloc _).trans hf).cell' HC.out (fun h => h)
      have hsz := hf.size
      simp only [World.size_alloc] at hsz
      have HF := Lib.hid ((((Fx.refl No w).alloc _).alloc _).trans hf)
      clear hf
      go_wp2_with fail
      refine (refWith_any (Y := ins X k) (H.out.no HF.out) hk HL.out (ins_testBit' X k)).mono ?_
      rintro e w2 ⟨v', rfl, hf, hr⟩
      obtain ⟨ao', cap', rfl⟩ := hr.shape
      obtain ⟨hc4, hz4⟩ := hf.cellF hc2 hz2 (fun h => h)
      have hsz' := hf.size
      have HF2 := Lib.hid (HF.out.trans hf)
      have HR := Lib.hid hr
      clear hf hr
      go_wp2
      have hres := World.cell?_setCell_same w2 ⟨w.heap.size + 1, 0, none⟩ (.slice ao' n cap') hc4
      refine bodyPost_ret (v := .tuple #[.agg #[.slice ao' n cap'], .bool true]) (by simp [results, Tryd.results32, go_sem, hres]) rfl ⟨_, by rw [HB.out], ?_, ?_⟩
      · exact HF2.out.setCell (.inl (by simp)) _
      · rw [HX.out]
        refine (HR.out.keep (S := fun j => j = w.heap.size + 1) ((Fx.refl _ _).setCell (.inr (by rfl)) _) ?_).mono ?_
        · rintro j ⟨h1, _⟩ rfl; omega
        · rintro j ⟨h1, h2⟩; exact .inr ⟨by omega, by simpa using h2⟩
  · have hm' : mayB n i = false := by simpa using hm
    have HB : Hid (addB n X i = false) := by simp [Hid, addB, hm']
    have HX := Lib.hid (addX_of_not HB.out)
    clear hc h hX hm
    go_enter Tryd.func32, Tryd.ntmps32
    go_wp2_with fail
    refine (refMay_any (H.out.no (((Fx.refl No w).alloc _).alloc _)) _).mono ?_
    rintro e w1 ⟨rfl, hf⟩
    have hc1 := hf.cell' (a := ⟨w.heap.size, 0, none⟩) (v := .slice ao n cap) (by simp) (fun h => h)
    obtain ⟨hc2, hz2⟩ := hf.cellF (a := ⟨w.heap.size + 1, 0, none⟩) (v := .slice none 0 0) (by simp) (by simp) (fun h => h)
    have hsz := hf.size
    simp only [World.size_alloc] at hsz
    have HF := Lib.hid ((((Fx.refl No w).alloc _).alloc _).trans hf)
    clear hf
    go_wp2
    have hres := World.cell?_setCell_same w1 ⟨w.heap.size + 1, 0, none⟩ (.slice ao n cap) hc2
    refine bodyPost_ret (v := .tuple #[.agg #[.slice ao n cap], .bool false]) (by simp [results, Tryd.results32, go_sem, hres]) rfl ⟨_, by rw [HB.out], ?_, ?_⟩
    · exact HF.out.setCell (.inl (by simp)) _
    · rw [HX.out]
      exact (H.out.no (HF.out.setCell (.inl (by simp)) _)).mono fun j hj => .inl hj
#print axioms refAdd_any

theorem refRemove_any {w : World} {D : Nat → Prop} {v : Value} {n X : Nat} (h : IsR w D v n X) (i : Int) :
    Calls Tryd.prog 44 #[.agg #[v], .int .i64 i] w fun e w' => ∃ v', e = .returned (.tuple #[.agg #[v'], .bool (hasB X i)]) ∧ Fx No w w' ∧ IsR w' (DU D w w') v' n (remX X i) := by
  have H := Lib.hid h
  have hX := h.2.1
  obtain ⟨ao, cap, rfl⟩ := h.shape
  by_cases hh : hasB X i = true
  · obtain ⟨k, rfl⟩ := Int.eq_ofNat_of_zero_le (by simp [hasB] at hh; exact hh.1 : 0 ≤ i)
    have hb : X.testBit k = true := by rw [hasB_nat] at hh; exact hh
    have hk : k < n := testBit_lt hX hb
    have HX : Hid (remX X (k : Int) = del X k) := by simp [Hid, remX, hh]
    have HL := Lib.hid (del_lt (i := k) hX)
    clear h hX hb
    go_enter Tryd.func44, Tryd.ntmps44
    go_wp2_with fail
    refine (refHas_any (H.out.no (((Fx.refl No w).alloc _).alloc _)) _).mono ?_
    rintro e w1 ⟨rfl, hf⟩
    have hc1 := hf.cell' (a := ⟨w.heap.size, 0, none⟩) (v := .slice ao n cap) (by simp) (fun h => h)
    obtain ⟨hc2, hz2⟩ := hf.cellF (a := ⟨w.heap.size + 1, 0, none⟩) (v := .slice none 0 0) (by simp) (by simp) (fun h => h)
    have hsz := hf.size
    simp only [World.size_alloc] at hsz
    have HF := Lib.hid ((((Fx.refl No w).alloc _).alloc _).trans hf)
    clear hf
    go_wp2_with fail
    refine (refWith_any (Y := del X k) (b := false) (H.out.no HF.out) hk HL.out (del_testBit' X k)).mono ?_
    rintro e w2 ⟨v', rfl, hf, hr⟩
    obtain ⟨ao', cap', rfl⟩ := hr.shape
    obtain ⟨hc4, hz4⟩ := hf.cellF hc2 hz2 (fun h => h)
    have hsz' := hf.size
    have HF2 := Lib.hid (HF.out.trans hf)
    have HR := Lib.hid hr
    clear hf hr
    go_wp2
    have hres := World.cell?_setCell_same w2 ⟨w.heap.size + 1, 0, none⟩ (.slice ao' n cap') hc4
    refine bodyPost_ret (v := .tuple #[.agg #[.slice ao' n cap'], .bool true]) (by simp [results, Tryd.results44, go_sem, hres]) rfl ⟨_, by rw [hh], ?_, ?_⟩
    · exact HF2.out.setCell (.inl (by simp)) _
    · rw [HX.out]
      refine (HR.out.keep (S := fun j => j = w.heap.size + 1) ((Fx.refl _ _).setCell (.inr (by rfl)) _) ?_).mono ?_
      · rintro j ⟨h1, _⟩ rfl; omega
      · rintro j ⟨h1, h2⟩; exact .inr ⟨by omega, by simpa using h2⟩
  · have hh' : hasB X i = false := by simpa using hh
    have HX : Hid (remX X i = X) := by simp [Hid, remX, hh']
    clear h hX hh
    go_enter Tryd.func44, Tryd.ntmps44
    go_wp2_with fail
    refine (refHas_any (H.out.no (((Fx.refl No w).alloc _).alloc _)) _).mono ?_
    rintro e w1 ⟨rfl, hf⟩
    have hc1 := hf.cell' (a := ⟨w.heap.size, 0, none⟩) (v := .slice ao n cap) (by simp) (fun h => h)
    obtain ⟨hc2, hz2⟩ := hf.cellF (a := ⟨w.heap.size + 1, 0, none⟩) (v := .slice none 0 0) (by simp) (by simp) (fun h => h)
    have hsz := hf.size
    simp only [World.size_alloc] at hsz
    have HF := Lib.hid ((((Fx.refl No w).alloc _).alloc _).trans hf)
    clear hf
    go_wp2
    have hres := World.cell?_setCell_same w1 ⟨w.heap.size + 1, 0, none⟩ (.slice ao n cap) hc2
    refine bodyPost_ret (v := .tuple #[.agg #[.slice ao n cap], .bool false]) (by simp [results, Tryd.results44, go_sem, hres]) rfl ⟨_, by rw [hh'], ?_, ?_⟩
    · exact HF.out.setCell (.inl (by simp)) _
    · rw [HX.out]
      exact (H.out.no (HF.out.setCell (.inl (by simp)) _)).mono fun j hj => .inl hj
#print axioms refRemove_any
end Go.Proofs.YthbfpcheljaeaaaDoor
