/- graph: a graph that is not there; the law GraphNone. -/
import Derived.Test.YtcfajeldkioomaaGW
namespace Go.Proofs.Ytcfajeldkioomaa
open Go.RowKit
set_option linter.unusedVariables false

theorem run_equalIn_nil_some {P : Program} (d : Nat) (w : World) {t e : TypeId} (h : P.underlying t = some (.pointer e)) (a : Addr) : (Op.equalIn (d + 1) t (.pointer none) (.pointer (some a))).run P w = .ok false w := by
  simp [Op.equalIn, run_underlying h]
theorem run_eql_nil_some {P : Program} (w : World) {t e : TypeId} (h : P.underlying t = some (.pointer e)) (a : Addr) : (binOp .eql t (.pointer none) (.pointer (some a))).run P w = .ok (.bool false) w := by
  have h1 : (Op.equal t (.pointer none) (.pointer (some a))).run P w = .ok false w := run_equalIn_nil_some 9999 w h a
  simp only [binOp]
  simp [h1]
theorem nilLen_any (w : World) : Calls Try.prog 30 #[.pointer none] w fun e w' => e = .returned (.int .i64 0) ∧ Fx No w w' := by
  go_enter Try.func30, Try.ntmps30
  go_wp2
  go_ret
  exact ⟨rfl, by repeat (first | exact Fx.refl _ _ | apply Fx.alloc | apply Fx.drew | apply Fx.drewN)⟩
theorem nilMany_any (w : World) : Calls Try.prog 33 #[.pointer none] w fun e w' => e = .returned (.int .i64 0) ∧ Fx No w w' := by
  go_enter Try.func33, Try.ntmps33
  go_wp2
  go_ret
  exact ⟨rfl, by repeat (first | exact Fx.refl _ _ | apply Fx.alloc | apply Fx.drew | apply Fx.drewN)⟩
theorem nilEdges_any (w : World) : Calls Try.prog 34 #[.pointer none] w fun e w' => e = .returned (.slice none 0 0) ∧ Fx No w w' := by
  go_enter Try.func34, Try.ntmps34
  go_wp2
  go_ret
  exact ⟨rfl, by repeat (first | exact Fx.refl _ _ | apply Fx.alloc | apply Fx.drew | apply Fx.drewN)⟩
theorem nilOut_any (w : World) (m : Int) : Calls Try.prog 31 #[.pointer none, .int .i64 m] w fun e w' => e = .returned (.slice none 0 0) ∧ Fx No w w' := by
  go_enter Try.func31, Try.ntmps31
  go_wp2
  go_ret
  exact ⟨rfl, by repeat (first | exact Fx.refl _ _ | apply Fx.alloc | apply Fx.drew | apply Fx.drewN)⟩
theorem nilIn_any (w : World) (m : Int) : Calls Try.prog 32 #[.pointer none, .int .i64 m] w fun e w' => e = .returned (.slice none 0 0) ∧ Fx No w w' := by
  go_enter Try.func32, Try.ntmps32
  go_wp2
  go_ret
  exact ⟨rfl, by repeat (first | exact Fx.refl _ _ | apply Fx.alloc | apply Fx.drew | apply Fx.drewN)⟩
theorem nilBack_any (w : World) : Calls Try.prog 11 #[.pointer none] w fun e w' => e = .returned (.pointer none) ∧ Fx No w w' := by
  go_enter Try.func11, Try.ntmps11
  go_wp2
  go_ret
  exact ⟨rfl, by repeat (first | exact Fx.refl _ _ | apply Fx.alloc | apply Fx.drew | apply Fx.drewN)⟩
theorem nilCopy_any (w : World) : Calls Try.prog 23 #[.pointer none] w fun e w' => e = .returned (.pointer none) ∧ Fx No w w' := by
  go_enter Try.func23, Try.ntmps23
  go_wp2
  go_ret
  exact ⟨rfl, by repeat (first | exact Fx.refl _ _ | apply Fx.alloc | apply Fx.drew | apply Fx.drewN)⟩
theorem nilOnly_any (w : World) (v : Value) : Calls Try.prog 12 #[.pointer none, v] w fun e w' => e = .returned (.pointer none) ∧ Fx No w w' := by
  go_enter Try.func12, Try.ntmps12
  go_wp2
  go_ret
  exact ⟨rfl, by repeat (first | exact Fx.refl _ _ | apply Fx.alloc | apply Fx.drew | apply Fx.drewN)⟩
theorem nilHas_any (w : World) (e : Ed) : Calls Try.prog 35 #[.pointer none, evE e] w fun e w' => e = .returned (.bool false) ∧ Fx No w w' := by
  unfold evE
  go_enter Try.func35, Try.ntmps35
  go_wp2
  go_ret
  exact ⟨rfl, by repeat (first | exact Fx.refl _ _ | apply Fx.alloc | apply Fx.drew | apply Fx.drewN)⟩
theorem nilAdd_any (w : World) (v : Value) : Calls Try.prog 19 #[.pointer none, v] w fun e w' => e = .returned (.tuple #[.int .i64 0, .int .i64 1]) ∧ Fx No w w' := by
  go_enter Try.func19, Try.ntmps19
  go_wp2
  go_ret2
  exact ⟨rfl, by repeat (first | exact Fx.refl _ _ | apply Fx.alloc | apply Fx.drew | apply Fx.drewN)⟩
set_option maxRecDepth 100000 in
theorem nilRemove_any (w : World) (e : Ed) : Calls Try.prog 27 #[.pointer none, evE e] w fun r w' => r = .returned (.bool false) ∧ Fx No w w' := by
  have CH : Hid (∀ W, Calls Try.prog 35 #[.pointer none, evE e] W fun r w' => r = .returned (.bool false) ∧ Fx No W w') := Lib.hid fun W => nilHas_any W e
  unfold evE at CH ⊢
  go_enter Try.func27, Try.ntmps27
  go_wp2_with fail
  refine (CH.out _).mono ?_
  rintro r w1 ⟨rfl, hf⟩
  have HF : Hid (Fx No w w1) := Lib.hid (((Fx.refl No w).alloc _).trans hf)
  clear hf
  go_wp2
  go_ret
  exact ⟨rfl, HF.out⟩
set_option maxRecDepth 100000 in
theorem nilBetween_any (w : World) (m k : Int) : Calls Try.prog 36 #[.pointer none, .int .i64 m, .int .i64 k] w fun r w' => r = .returned (.slice none 0 0) ∧ Fx No w w' := by
  go_enter Try.func36, Try.ntmps36
  go_wp2_with fail
  refine (nilOut_any w m).mono ?_
  rintro r w1 ⟨rfl, hf⟩
  have HF := Lib.hid hf
  clear hf
  go_wp2
  refine wp_loop_rounds 1 ?_
  rw [rounds_succ]
  go_wp2
  go_ret
  exact ⟨rfl, HF.out⟩
set_option maxRecDepth 100000 in
theorem nilNext_any (w : World) (m : Int) : Calls Try.prog 37 #[.pointer none, .int .i64 m] w fun r w' => ∃ v', r = .returned v' ∧ Fx No w w' ∧ ∃ a c, v' = .slice a 0 c := by
  go_enter Try.func37, Try.ntmps37
  go_wp2_with fail
  refine (nilOut_any w m).mono ?_
  rintro r w1 ⟨rfl, hf⟩
  have HF := Lib.hid hf
  have HR : Hid (RowI w1 w1.heap.size (.slice none 0 0) []) := Lib.hid ⟨none, 0, rfl, Nat.le_refl _, Nat.zero_le _, fun _ => rfl, .inl rfl⟩
  clear hf
  go_wp2
  refine wp_loop_rounds 1 ?_
  rw [rounds_succ]
  go_wp2_with fail
  refine (compact_any HR.out (by decide)).mono ?_
  rintro r w2 ⟨v2, rfl, hf, ⟨ao, cap, rfl, _⟩⟩
  have HF2 : Hid (Fx No w w2) := Lib.hid (HF.out.trans' hf fun j h1 h2 => by have h1 : w1.heap.size ≤ j := h1; have := HF.out.size; omega)
  clear hf
  go_wp2
  go_ret
  exact ⟨_, rfl, HF2.out, _, _, rfl⟩
set_option maxRecDepth 100000 in
theorem nilSame_any (w : World) : Calls Try.prog 29 #[.pointer none, .pointer none] w fun r w' => r = .returned (.bool true) ∧ Fx No w w' := by
  go_enter Try.func29, Try.ntmps29
  go_wp2
  go_ret
  exact ⟨rfl, Fx.refl _ _⟩
set_option maxRecDepth 100000 in
theorem nilSame_no (w : World) (b : Nat) : Calls Try.prog 29 #[.pointer none, .pointer (some ⟨b, 0, none⟩)] w fun r w' => r = .returned (.bool false) ∧ Fx No w w' := by
  have hq : ∀ W, (binOp .eql 27 (.pointer none) (.pointer (some ⟨b, 0, none⟩))).run Try.prog W = .ok (.bool false) W := fun W => run_eql_nil_some W Try.underlying27 _
  go_enter Try.func29, Try.ntmps29
  go_wp2
  go_ret
  exact ⟨rfl, Fx.refl _ _⟩
set_option maxRecDepth 100000 in
set_option maxHeartbeats 4000000 in
theorem none_any {w : World} (e : Ed) (he : e.ok) (n : Int) : Calls Try.prog 6 #[evE e, .int .i64 n] w fun r w' => r = .returned (.bool true) ∧ Fx No w w' := by
  have C1 : Hid (∀ W, Calls Try.prog 27 #[.pointer none, evE e] W fun r w' => r = .returned (.bool false) ∧ Fx No W w') := Lib.hid fun W => nilRemove_any W e
  have C2 : Hid (∀ W, Calls Try.prog 35 #[.pointer none, evE e] W fun r w' => r = .returned (.bool false) ∧ Fx No W w') := Lib.hid fun W => nilHas_any W e
  unfold evE at C1 C2 ⊢
  go_enter Try.func6, Try.ntmps6
  go_wp2_with fail
  refine (nilAdd_any _ _).mono ?_
  rintro r w1 ⟨rfl, hf⟩
  have HF1 : Hid (Fx No w w1) := Lib.hid ((((Fx.refl No w).alloc _).alloc _).trans hf)
  have HB : Hid (∀ W, Fx No w1 W → W.cell? ⟨w.heap.size, 0, none⟩ = some (.int .i64 e.f) ∧ W.cell? ⟨w.heap.size, 1, none⟩ = some (.int .i64 e.t) ∧ W.cell? ⟨w.heap.size, 2, none⟩ = some (.int .i64 e.l)) := Lib.hid fun W h => ⟨h.cell' (hf.cell' (by simp) (fun h => h)) (fun h => h), h.cell' (hf.cell' (by simp) (fun h => h)) (fun h => h), h.cell' (hf.cell' (by simp) (fun h => h)) (fun h => h)⟩
  obtain ⟨q, hq⟩ : ∃ q, q = w.heap.size := ⟨_, rfl⟩
  rw [← hq] at HB ⊢
  clear hf hq
  go_wp2_with fail
  refine (gNew_any 0 w1 (by omega)).mono ?_
  rintro r w2 ⟨b, rfl, hf, _⟩
  have HF2 := Lib.hid hf
  obtain ⟨q0, q1, q2⟩ := HB.out _ hf
  clear hf
  go_wp2_with fail
  refine (C1.out _).mono ?_
  rintro r w3 ⟨rfl, hf⟩
  have HF3 := Lib.hid (HF2.out.trans hf)
  obtain ⟨r0, r1, r2⟩ := HB.out _ HF3.out
  clear hf q0 q1 q2
  go_wp2_with fail
  refine (C2.out _).mono ?_
  rintro r w4 ⟨rfl, hf⟩
  have HF4 := Lib.hid (HF3.out.trans hf)
  clear hf
  clear r0 r1 r2
  go_wp2_with fail
  refine (nilLen_any _).mono ?_
  rintro r w5 ⟨rfl, hf⟩
  have HF5 := Lib.hid (HF4.out.trans hf)
  clear hf
  go_wp2_with fail
  refine (nilMany_any _).mono ?_
  rintro r w6 ⟨rfl, hf⟩
  have HF6 := Lib.hid (HF5.out.trans hf)
  clear hf
  go_wp2_with fail
  refine (nilEdges_any _).mono ?_
  rintro r w7 ⟨rfl, hf⟩
  have HF7 := Lib.hid (HF6.out.trans hf)
  clear hf
  go_wp2_with fail
  refine (nilOut_any _ n).mono ?_
  rintro r w8 ⟨rfl, hf⟩
  have HF8 := Lib.hid (HF7.out.trans hf)
  clear hf
  go_wp2_with fail
  refine (nilIn_any _ n).mono ?_
  rintro r w9 ⟨rfl, hf⟩
  have HF9 := Lib.hid (HF8.out.trans hf)
  clear hf
  go_wp2_with fail
  refine (nilBetween_any _ n n).mono ?_
  rintro r w10 ⟨rfl, hf⟩
  have HF10 := Lib.hid (HF9.out.trans hf)
  clear hf
  go_wp2_with fail
  refine (nilNext_any _ n).mono ?_
  rintro r w11 ⟨v11, rfl, hf, a11, c11, rfl⟩
  have HF11 := Lib.hid (HF10.out.trans hf)
  clear hf
  go_wp2_with fail
  refine (nilBack_any _).mono ?_
  rintro r w12 ⟨rfl, hf⟩
  have HF12 := Lib.hid (HF11.out.trans hf)
  clear hf
  go_wp2_with fail
  refine (nilOnly_any _ _).mono ?_
  rintro r w13 ⟨rfl, hf⟩
  have HF13 := Lib.hid ((HF12.out.alloc _).trans hf)
  clear hf
  go_wp2_with fail
  refine (nilCopy_any _).mono ?_
  rintro r w14 ⟨rfl, hf⟩
  have HF14 := Lib.hid (HF13.out.trans hf)
  clear hf
  go_wp2_with fail
  refine (nilSame_any _).mono ?_
  rintro r w15 ⟨rfl, hf⟩
  have HF15 := Lib.hid (HF14.out.trans hf)
  clear hf
  go_wp2_with fail
  refine (nilSame_no _ _).mono ?_
  rintro r w16 ⟨rfl, hf⟩
  have HF16 := Lib.hid (HF15.out.trans hf)
  clear hf
  go_wp2_with fail
  refine (works_any _).mono ?_
  rintro r w17 ⟨rfl, hf⟩
  have HF17 := Lib.hid (HF16.out.trans hf)
  clear hf
  go_wp2
  go_ret
  exact ⟨rfl, HF1.out.trans HF17.out⟩
#print axioms none_any
end Go.Proofs.Ytcfajeldkioomaa
