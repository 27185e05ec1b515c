/- The law BitsHolds. -/
import Derived.Test.YthbfpcheljaeaaaDoorLawC
import Derived.Deep.RegionHeld3
namespace Go.Proofs.YthbfpcheljaeaaaDoor
open Go.RowKit
set_option linter.unusedVariables false

theorem withinB_refl (X : Nat) : withinB X X = true := by simp [withinB, diff]
theorem withinB_zero (X : Nat) : withinB 0 X = true := by simp [withinB, diff]
def Keep (w : World) (w' : World) : Prop := Fx No w w'

set_option maxHeartbeats 2000000 in
theorem holds_any {w : World} {D E : Nat → Prop} {u v : Value} {k l : List Int} (n m : Int) (hk : IntsV w D u k) (hl : IntsV w E v l) (hT : TabOk w) :
    Calls Tryd.prog 3 #[.int .i64 n, .int .i64 m, u, v] w fun e w' => e = .returned (.bool true) ∧ Fx No w w' := by
  have HT := Lib.hid hT
  have HK := Lib.hid hk
  have HL := Lib.hid hl
  obtain ⟨ao, acap, rfl, hal, _⟩ := hk.facts
  obtain ⟨bo, bcap, rfl, hbl, _⟩ := hl.facts
  clear hT hk hl
  have HW := Lib.hid (works_any HT.out)
  by_cases hw : 400 < n ∨ 400 < m ∨ 40 < k.length ∨ 40 < l.length
  · have hw4 : (400 < n) ∨ (n ≤ 400 ∧ 400 < m) ∨ (n ≤ 400 ∧ m ≤ 400 ∧ 40 < k.length) ∨ (n ≤ 400 ∧ m ≤ 400 ∧ k.length ≤ 40 ∧ 40 < l.length) := by omega
    rcases hw4 with h1 | ⟨h1, h2⟩ | ⟨h1, h2, h3⟩ | ⟨h1, h2, h3, h4⟩
    all_goals
      clear hw
      go_enter Tryd.func3, Tryd.ntmps3
      go_wp2_with fail
      refine HW.out.mono ?_
      rintro e w' ⟨rfl, hf⟩
      go_wp2
      go_ret
      exact ⟨rfl, hf⟩
  · have h1 : n ≤ 400 := by omega
    have h2 : m ≤ 400 := by omega
    have h3 : k.length ≤ 40 := by omega
    have h4 : l.length ≤ 40 := by omega
    have hn : newN n = newN n := rfl
    obtain ⟨N, hN⟩ : ∃ N, N = newN n := ⟨_, rfl⟩
    obtain ⟨M, hM⟩ : ∃ M, M = newN m := ⟨_, rfl⟩
    obtain ⟨X, hX⟩ : ∃ X, X = ofX N k := ⟨_, rfl⟩
    obtain ⟨Y, hY⟩ : ∃ Y, Y = ofX M l := ⟨_, rfl⟩
    clear hw hn HW
    go_enter Tryd.func3, Tryd.ntmps3
    go_wp2_with fail
    refine (of_any n HK.out).mono ?_
    rintro e w1 ⟨a, rfl, hf, hs⟩
    rw [← hN, ← hX] at hs
    have HF1 : Hid (Fx No w w1) := hf
    have HA1 : Hid (SetIn w1 (Up w) a N X) := hs.up (Fx.refl No _)
    clear hf hs
    go_wp2_with fail
    refine (of_any m (HL.out.keep HF1.out No.disj)).mono ?_
    rintro e w2 ⟨b, rfl, hf, hs⟩
    rw [← hM, ← hY] at hs
    have HF2 : Hid (Fx No w w2) := HF1.out.transNo hf
    have HB2 : Hid (SetIn w2 (Up w1) b M Y) := hs.up (Fx.refl No _)
    have HA2 : Hid (SetIn w2 (Up w) a N X) := HA1.out.no hf
    clear hf hs HA1 HF1
    go_wp2_with fail
    refine (refOf_any n (HK.out.keep HF2.out No.disj)).mono ?_
    rintro e w3 ⟨x, rfl, hf, hs⟩
    rw [← hN, ← hX] at hs
    have HF3 : Hid (Fx No w w3) := HF2.out.transNo hf
    have HB3 : Hid (SetIn w3 (Up w1) b M Y) := HB2.out.no hf
    have HA3 : Hid (SetIn w3 (Up w) a N X) := HA2.out.no hf
    have HX3 : Hid (IsR w3 (Iv w2.heap.size w3.heap.size) x N X) := hs
    clear hf hs HA2 HF2 HB2
    go_wp2_with fail
    refine (refOf_any m (HL.out.keep HF3.out No.disj)).mono ?_
    rintro e w4 ⟨y, rfl, hf, hs⟩
    rw [← hM, ← hY] at hs
    have HF4 : Hid (Fx No w w4) := HF3.out.transNo hf
    have HB4 : Hid (SetIn w4 (Up w1) b M Y) := HB3.out.no hf
    have HA4 : Hid (SetIn w4 (Up w) a N X) := HA3.out.no hf
    have HX4 : Hid (IsR w4 (Iv w2.heap.size w3.heap.size) x N X) := HX3.out.no hf
    have HY4 : Hid (IsR w4 (Iv w3.heap.size w4.heap.size) y M Y) := hs
    clear hf hs HA3 HF3 HB3 HX3
    obtain ⟨xo, xcap, rfl, _⟩ := HX4.out.facts
    obtain ⟨yo, ycap, rfl, _⟩ := HY4.out.facts
    clear hN hM hX hY h1 h2 h3 h4
    go_wp2_with fail
    generalize hw5 : (w4.alloc (Obj.cells #[Value.slice xo N xcap] 28)).alloc (Obj.cells #[Value.slice yo M ycap] 28) = w5
    have hf5 : Fx No w4 w5 := by rw [← hw5]; exact ((Fx.refl No w4).alloc _).alloc _
    have hc1 : w5.cell? ⟨w4.heap.size, 0, none⟩ = some (.slice xo N xcap) := by rw [← hw5]; simp
    have hc2 : w5.cell? ⟨w4.heap.size + 1, 0, none⟩ = some (.slice yo M ycap) := by rw [← hw5]; simp
    have HF5 : Hid (Fx No w w5) := HF4.out.transNo hf5
    have HB5 : Hid (SetIn w5 (Up w1) b M Y) := HB4.out.no hf5
    have HA5 : Hid (SetIn w5 (Up w) a N X) := HA4.out.no hf5
    have HX5 : Hid (IsR w5 (Iv w2.heap.size w3.heap.size) (.slice xo N xcap) N X) := HX4.out.no hf5
    have HY5 : Hid (IsR w5 (Iv w3.heap.size w4.heap.size) (.slice yo M ycap) M Y) := HY4.out.no hf5
    generalize w4.heap.size = g at *
    clear hf5 hw5
    obtain ⟨sb, hsb⟩ : ∃ sb, sb = sameB N X M Y := ⟨_, rfl⟩
    obtain ⟨wb, hwb⟩ : ∃ wb, wb = withinB X Y := ⟨_, rfl⟩
    have C1 : Hid (∀ w', Keep w5 w' → Calls Tryd.prog 11 #[.pointer (some ⟨a, 0, none⟩), .pointer (some ⟨b, 0, none⟩)] w' fun e w'' => e = .returned (.bool sb) ∧ Fx No w' w'') := fun w' h =>
      (same_any (HA5.out.no h).p (HB5.out.no h).p).mono (by rintro e w'' ⟨rfl, rfl⟩; exact ⟨by rw [hsb], Fx.refl _ _⟩)
    have C2 : Hid (∀ w', Keep w5 w' → Calls Tryd.prog 12 #[.agg #[.slice xo N xcap], .agg #[.slice yo M ycap]] w' fun e w'' => e = .returned (.bool sb) ∧ Fx No w' w'') := fun w' h =>
      (refSame_any (HX5.out.no h) (HY5.out.no h)).mono (by rintro e w'' ⟨rfl, hf⟩; exact ⟨by rw [hsb], hf⟩)
    have C3 : Hid (∀ w', Keep w5 w' → Calls Tryd.prog 13 #[.pointer (some ⟨a, 0, none⟩), .pointer (some ⟨b, 0, none⟩)] w' fun e w'' => e = .returned (.bool wb) ∧ Fx No w' w'') := fun w' h =>
      (within_any (HA5.out.no h).p (HB5.out.no h).p).mono (by rintro e w'' ⟨rfl, rfl⟩; exact ⟨by rw [hwb], Fx.refl _ _⟩)
    have C4 : Hid (∀ w', Keep w5 w' → Calls Tryd.prog 14 #[.agg #[.slice xo N xcap], .agg #[.slice yo M ycap]] w' fun e w'' => e = .returned (.bool wb) ∧ Fx No w' w'') := fun w' h =>
      (refWithin_any (HX5.out.no h) (HY5.out.no h)).mono (by rintro e w'' ⟨rfl, hf⟩; exact ⟨by rw [hwb], hf⟩)
    have C5 : Hid (∀ w', Keep w5 w' → Calls Tryd.prog 11 #[.pointer (some ⟨a, 0, none⟩), .pointer (some ⟨a, 0, none⟩)] w' fun e w'' => e = .returned (.bool true) ∧ Fx No w' w'') := fun w' h =>
      (same_any (HA5.out.no h).p (HA5.out.no h).p).mono (by rintro e w'' ⟨rfl, rfl⟩; exact ⟨by rw [sameB_refl], Fx.refl _ _⟩)
    have C6 : Hid (∀ w', Keep w5 w' → Calls Tryd.prog 13 #[.pointer (some ⟨b, 0, none⟩), .pointer (some ⟨b, 0, none⟩)] w' fun e w'' => e = .returned (.bool true) ∧ Fx No w' w'') := fun w' h =>
      (within_any (HB5.out.no h).p (HB5.out.no h).p).mono (by rintro e w'' ⟨rfl, rfl⟩; exact ⟨by rw [withinB_refl], Fx.refl _ _⟩)
    have C7 : Hid (∀ w', Keep w5 w' → Calls Tryd.prog 15 #[.int .i64 0] w' fun e w'' => ∃ q, e = .returned (.pointer (some ⟨q, 0, none⟩)) ∧ Fx No w' w'' ∧ Hid (SetP w'' (Up w') (some ⟨q, 0, none⟩) 0 0)) := fun w' h =>
      (new_any 0 w').mono (by rintro e w'' ⟨q, rfl, hf, hs⟩; exact ⟨q, rfl, hf, (hs.up (Fx.refl _ _)).p⟩)
    have C8 : Hid (∀ w' w0 q, Hid (SetP w' (Up w0) (some ⟨q, 0, none⟩) 0 0) → Calls Tryd.prog 11 #[.pointer none, .pointer (some ⟨q, 0, none⟩)] w' fun e w'' => e = .returned (.bool true) ∧ Fx No w' w'') := fun w' w0 q h =>
      (same_any (D := No) (.inl ⟨rfl, rfl, rfl⟩) h.out).mono (by rintro e w'' ⟨rfl, rfl⟩; exact ⟨by rw [sameB_refl], Fx.refl _ _⟩)
    have C9 : Hid (∀ w', Keep w5 w' → Calls Tryd.prog 13 #[.pointer none, .pointer (some ⟨a, 0, none⟩)] w' fun e w'' => e = .returned (.bool true) ∧ Fx No w' w'') := fun w' h =>
      (within_any (D := No) (.inl ⟨rfl, rfl, rfl⟩) (HA5.out.no h).p).mono (by rintro e w'' ⟨rfl, rfl⟩; exact ⟨by rw [withinB_zero], Fx.refl _ _⟩)
    have C10 : Hid (∀ w', Keep w5 w' → Calls Tryd.prog 8 #[] w' fun e w'' => e = .returned (.bool true) ∧ Fx No w' w'') := fun w' h =>
      works_any ((HT.out.no HF5.out).no h)
    clear HF4 HB4 HA4 HX4 HY4 hsb hwb hal hbl
    go_region_held3 (fun w' => w'.cell? ⟨g, 0, none⟩ = some (.slice xo N xcap) ∧ w'.cell? ⟨g + 1, 0, none⟩ = some (.slice yo M ycap) ∧ Keep w5 w')
      (first
        | exact ⟨hc1, hc2, (Fx.refl No w5).drew⟩
        | (go_split_ands; exact ⟨hf.cell' (by assumption) (fun h => h), hf.cell' (by assumption) (fun h => h), Fx.transNo (by assumption) hf⟩))
      (first
        | (go_at_call 12; go_split_ands; with_reducible refine (C2.out _ (by assumption)).mono ?_; rintro e w' ⟨rfl, hf⟩)
        | (go_at_call 14; go_split_ands; with_reducible refine (C4.out _ (by assumption)).mono ?_; rintro e w' ⟨rfl, hf⟩)
        | (go_at_call 15; go_split_ands; with_reducible refine (C7.out _ (by assumption)).mono ?_; rintro e w' ⟨q, rfl, hf, hsq⟩)
        | (go_at_call 8; go_split_ands; with_reducible refine (C10.out _ (by assumption)).mono ?_; rintro e w' ⟨rfl, hf⟩)
        | (go_at_call 11; go_split_ands; with_reducible refine (C1.out _ (by assumption)).mono ?_; rintro e w' ⟨rfl, hf⟩)
        | (go_at_call 11; go_split_ands; with_reducible refine (C5.out _ (by assumption)).mono ?_; rintro e w' ⟨rfl, hf⟩)
        | (go_at_call 11; with_reducible refine (C8.out _ _ _ hsq).mono ?_; rintro e w' ⟨rfl, hf⟩)
        | (go_at_call 13; go_split_ands; with_reducible refine (C3.out _ (by assumption)).mono ?_; rintro e w' ⟨rfl, hf⟩)
        | (go_at_call 13; go_split_ands; with_reducible refine (C6.out _ (by assumption)).mono ?_; rintro e w' ⟨rfl, hf⟩)
        | (go_at_call 13; go_split_ands; with_reducible refine (C9.out _ (by assumption)).mono ?_; rintro e w' ⟨rfl, hf⟩))
    go_split_ands
    have hkeep : Keep w5 w' := by assumption
    go_wp2
    go_ret
    exact ⟨by simp, HF5.out.transNo hkeep⟩
#print axioms holds_any
end Go.Proofs.YthbfpcheljaeaaaDoor
