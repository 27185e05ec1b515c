/- Contracts of package alibiref08: Within, Same; of alibikit: SameInts. -/
import Derived.Test.YthbfpcheljaeaaaDoorRefC
namespace Go.Proofs.YthbfpcheljaeaaaDoor
open Go.RowKit
set_option linter.unusedVariables false

theorem refWithin_any {w : World} {D E : Nat → Prop} {v u : Value} {n X m Y : Nat} (h : IsR w D v n X) (h' : IsR w E u m Y) :
    Calls Tryd.prog 14 #[.agg #[v], .agg #[u]] w fun e w' => e = .returned (.bool (withinB X Y)) ∧ Fx No w w' := by
  have H := Lib.hid h
  have H' := Lib.hid h'
  have hn := h.1
  have hX := h.2.1
  have HX := Lib.hid hX
  obtain ⟨ao, cap, rfl, hc⟩ := h.facts
  obtain ⟨bo, bcap, rfl⟩ := h'.shape
  have HC := Lib.hid hc
  clear hc h h' hX
  go_enter Tryd.func14, Tryd.ntmps14
  go_wp2
  go_loopw [5] (fun i wr => ∃ k : Nat, k ≤ n ∧ i = .int .i64 k ∧ Fx No w wr ∧ w.heap.size + 2 ≤ wr.heap.size ∧
      wr.cell? ⟨w.heap.size, 0, none⟩ = some (.slice ao n cap) ∧ wr.cell? ⟨w.heap.size + 1, 0, none⟩ = some (.slice bo m bcap) ∧
      ∀ j, j < k → X.testBit j = true → Y.testBit j = true) (fun i _ => n - (intOf i).toNat)
  case atStart => exact ⟨0, Nat.zero_le _, rfl, ((Fx.refl No w).alloc _).alloc _, by simp, by simp, by simp, fun j hj => by omega⟩
  case round =>
    obtain ⟨k, hk, rfl, hf, hsz, hc1, hc2, hq⟩ := hrel
    have HQ := Lib.hid hq
    have HF := Lib.hid hf
    clear hq hf
    by_cases hlt : k < n
    · obtain ⟨b, o, rfl, _, hcell⟩ := HC.out k hlt
      have hcell' := HF.out.cell' hcell (fun h => h)
      clear hcell
      by_cases hb : X.testBit k = true
      · have HB := Lib.hid (hasB_nat Y k)
        by_cases hy : hasB Y (k : Int) = true
        · go_wp2_with fail
          refine (refHas_any (H'.out.no HF.out) _).mono ?_
          rintro e w2 ⟨rfl, hf2⟩
          have hc3 := hf2.cell' hc1 (fun h => h)
          have hc4 := hf2.cell' hc2 (fun h => h)
          have hsz2 := hf2.size
          have HF2 := Lib.hid (HF.out.trans hf2)
          clear hf2
          go_wp2
          go_roundw
          case rel => exact ⟨k + 1, by omega, by go_num, HF2.out, by omega, hc3, hc4, fun j hj hx => by
            by_cases e : j = k
            · subst e; rw [← HB.out]; exact hy
            · exact HQ.out j (by omega) hx⟩
          case measure => simp [intOf]; omega
        · have hy' : hasB Y (k : Int) = false := by simpa using hy
          have HW : Hid (withinB X Y = false) := by
            show withinB X Y = false
            rw [← Bool.not_eq_true, withinB_iff]
            intro hh
            have := hh k hb
            rw [← HB.out, hy'] at this
            cases this
          clear hy
          go_wp2_with fail
          refine (refHas_any (H'.out.no HF.out) _).mono ?_
          rintro e w2 ⟨rfl, hf2⟩
          have HF2 := Lib.hid (HF.out.trans hf2)
          clear hf2
          go_wp2
          go_ret
          exact ⟨by rw [HW.out]; rfl, HF2.out⟩
      · have hb' : X.testBit k = false := by simpa using hb
        clear hb
        go_wp2
        go_roundw
        case rel => exact ⟨k + 1, by omega, by go_num, HF.out, by omega, hc1, hc2, fun j hj hx => by
          by_cases e : j = k
          · subst e; rw [hb'] at hx; cases hx
          · exact HQ.out j (by omega) hx⟩
        case measure => simp [intOf]; omega
    · have HW : Hid (withinB X Y = true) := by
        show withinB X Y = true
        rw [withinB_iff]
        intro i hi
        exact HQ.out i (by have := testBit_lt HX.out hi; omega) hi
      go_wp2
      go_ret
      exact ⟨by rw [HW.out]; rfl, HF.out⟩

theorem refSame_any {w : World} {D E : Nat → Prop} {v u : Value} {n X m Y : Nat} (h : IsR w D v n X) (h' : IsR w E u m Y) :
    Calls Tryd.prog 12 #[.agg #[v], .agg #[u]] w fun e w' => e = .returned (.bool (sameB n X m Y)) ∧ Fx No w w' := by
  have H := Lib.hid (h.no (((Fx.refl No w).alloc (.cells #[v] 28)).alloc (.cells #[u] 28)))
  have H' := Lib.hid (h'.no (((Fx.refl No w).alloc (.cells #[v] 28)).alloc (.cells #[u] 28)))
  obtain ⟨ao, cap, rfl⟩ := h.shape
  obtain ⟨bo, bcap, rfl⟩ := h'.shape
  clear h h'
  have key : ∀ b : Bool, ((n : Int) == (m : Int)) = b → Hid (sameB n X m Y = (b && (withinB X Y && withinB Y X))) := by
    intro b hb
    show sameB n X m Y = _
    unfold sameB
    congr 1
    rw [← hb]
    rw [Bool.eq_iff_iff]; simp; omega
  rcases hb : ((n : Int) == (m : Int)) with _ | _
  · have HB := key _ hb
    clear key
    go_enter Tryd.func12, Tryd.ntmps12
    go_wp2
    go_ret
    exact ⟨by rw [HB.out]; rfl, ((Fx.refl _ _).alloc _).alloc _⟩
  · have HB := key _ hb
    clear key
    rcases hw : withinB X Y with _ | _
    · go_enter Tryd.func12, Tryd.ntmps12
      go_wp2_with fail
      refine (refWithin_any H.out H'.out).mono ?_
      rintro e w1 ⟨rfl, hf⟩
      have HF := Lib.hid hf
      clear hf
      go_wp2
      go_ret
      exact ⟨by rw [HB.out, hw]; rfl, (((Fx.refl _ _).alloc _).alloc _).trans HF.out⟩
    · go_enter Tryd.func12, Tryd.ntmps12
      go_wp2_with fail
      refine (refWithin_any H.out H'.out).mono ?_
      rintro e w1 ⟨rfl, hf⟩
      have hc1 := hf.cell' (a := ⟨w.heap.size, 0, none⟩) (v := .slice ao n cap) (by simp) (fun h => h)
      have hc2 := hf.cell' (a := ⟨w.heap.size + 1, 0, none⟩) (v := .slice bo m bcap) (by simp) (fun h => h)
      have HF := Lib.hid hf
      clear hf
      go_wp2_with fail
      refine (refWithin_any (H'.out.no HF.out) (H.out.no HF.out)).mono ?_
      rintro e w2 ⟨rfl, hf⟩
      have HF2 := Lib.hid (HF.out.trans hf)
      clear hf
      go_wp2
      go_ret
      exact ⟨by rw [HB.out, hw]; rfl, (((Fx.refl _ _).alloc _).alloc _).trans HF2.out⟩

theorem gi_ext {a b : List Int} (h : a.length = b.length) (hg : ∀ k, k < a.length → gi a k = gi b k) : a = b := by
  apply List.ext_getElem h
  intro k h1 h2
  have := hg k h1
  simpa [gi, h1, h2] using this
theorem sameInts_any {w : World} {D E : Nat → Prop} {v u : Value} {a b : List Int} (h : IntsV w D v a) (h' : IntsV w E u b) :
    Calls Tryd.prog 31 #[v, u] w fun e w' => e = .returned (.bool (a == b)) ∧ Fx No w w' := by
  obtain ⟨ao, cap, rfl, hal, hc⟩ := h.facts
  obtain ⟨bo, bcap, rfl, hbl, hc'⟩ := h'.facts
  have HC := Lib.hid hc
  have HC' := Lib.hid hc'
  clear h h' hc hc'
  by_cases hl : a.length = b.length
  · have hn : ((a.length : Int) != (b.length : Int)) = false := by rw [hl]; simp
    have HL := Lib.hid hl
    clear hl
    go_enter Tryd.func31, Tryd.ntmps31
    go_wp2
    go_loopw [5] (fun i wr => ∃ k : Nat, k ≤ a.length ∧ i = .int .i64 k ∧ (∀ j, j < k → gi a j = gi b j) ∧ Fx No w wr) (fun i _ => a.length - (intOf i).toNat)
    case atStart => exact ⟨0, Nat.zero_le _, rfl, fun j hj => by omega, Fx.refl _ _⟩
    case round =>
      obtain ⟨k, hk, rfl, hq, hf⟩ := hrel
      have HQ := Lib.hid hq
      have HF := Lib.hid hf
      clear hq hf
      by_cases hlt : k < a.length
      · obtain ⟨b1, o1, rfl, _, hcell1⟩ := HC.out k hlt
        obtain ⟨b2, o2, rfl, _, hcell2⟩ := HC'.out k (by rw [← HL.out]; exact hlt)
        have h1 := HF.out.cell' hcell1 (fun h => h)
        have h2 := HF.out.cell' hcell2 (fun h => h)
        have hlt2 : (k : Int) < (b.length : Int) := by rw [← HL.out]; omega
        clear hcell1 hcell2
        by_cases he : gi a k = gi b k
        · have hd : (gi a k != gi b k) = false := by simpa using he
          have HE := Lib.hid he
          clear he
          go_wp2
          go_quiet (fail)
          go_wp2
          go_roundw
          case rel => exact ⟨k + 1, by omega, by go_num, fun j hj => by
            by_cases e : j = k
            · subst e; exact HE.out
            · exact HQ.out j (by omega), HF.out.drewN _⟩
          case measure => simp [intOf]; omega
        · have hd : (gi a k != gi b k) = true := by simpa using he
          have HB : Hid ((a == b) = false) := by
            show (a == b) = false
            rw [beq_eq_false_iff_ne]
            rintro rfl
            exact he rfl
          clear he
          go_wp2
          go_quiet (fail)
          go_wp2
          go_ret
          exact ⟨by rw [HB.out]; rfl, HF.out.drewN _⟩
      · have HB : Hid ((a == b) = true) := by
          show (a == b) = true
          rw [beq_iff_eq]
          exact gi_ext HL.out fun j hj => HQ.out j (by omega)
        go_wp2
        go_ret
        exact ⟨by rw [HB.out]; rfl, HF.out⟩
  · have hn : ((a.length : Int) != (b.length : Int)) = true := by simp; omega
    have HB : Hid ((a == b) = false) := by
      show (a == b) = false
      rw [beq_eq_false_iff_ne]
      rintro rfl
      exact hl rfl
    clear hl
    go_enter Tryd.func31, Tryd.ntmps31
    go_wp2
    go_ret
    exact ⟨by rw [HB.out]; rfl, Fx.refl _ _⟩
#print axioms refWithin_any
#print axioms refSame_any
#print axioms sameInts_any
end Go.Proofs.YthbfpcheljaeaaaDoor
