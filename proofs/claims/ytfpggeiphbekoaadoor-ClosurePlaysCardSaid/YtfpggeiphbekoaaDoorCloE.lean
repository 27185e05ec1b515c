/- closure: New, Copy. -/
import Derived.Test.YtfpggeiphbekoaaDoorCloD
namespace Go.Proofs.YtfpggeiphbekoaaDoor
open Go.RowKit
set_option linter.unusedVariables false

theorem cloNew_no (n : Int) (w : World) (h : n < 0 ∨ 1024 < n) : Calls Tryd.prog 8 #[.int .i64 n] w fun e w' => e = .returned (.tuple #[.pointer none, .int .i64 2]) ∧ w = w' := by
  rcases h with h | h
  · have d0 : decide (n < 0) = true := decide_eq_true h
    clear h
    go_enter Tryd.func8, Tryd.ntmps8
    go_wp2
    go_ret2
    exact ⟨rfl, rfl⟩
  · have d0 : decide (n < 0) = false := decide_eq_false (by omega)
    have d1 : decide (1024 < n) = true := decide_eq_true h
    clear h
    go_enter Tryd.func8, Tryd.ntmps8
    go_wp2
    go_ret2
    exact ⟨rfl, rfl⟩
theorem clo_of {sA n : Nat} {w1 w2 w3 : World} {dn up ed : Nat → Nat} {c0 c1 c2 : FC} {a0 a1 a2 : Option Addr} {p0 p1 p2 : Nat} {t : TypeId} (hz1 : sA ≤ w1.heap.size) (hm0 : Fam w1 (Iv sA w1.heap.size) n dn c0) (hf2 : Fx No w1 w2) (hm1 : Fam w2 (Iv w1.heap.size w2.heap.size) n up c1)
    (hf3 : Fx No w2 w3) (hm2 : Fam w3 (Iv w2.heap.size w3.heap.size) n ed c2) (hv0 : c0.v = .slice a0 n p0) (hv1 : c1.v = .slice a1 n p1) (hv2 : c2.v = .slice a2 n p2) (h : n ≤ 1024) :
    Clo (w3.alloc (.cells #[.slice a0 n p0, .slice a1 n p1, .slice a2 n p2] t)) (Iv sA (w3.heap.size + 1)) n dn up ed ⟨w3.heap.size, c0, c1, c2, Iv sA w1.heap.size, Iv w1.heap.size w2.heap.size, Iv w2.heap.size w3.heap.size⟩ := by
  have hfa : Fx No w3 (w3.alloc (.cells #[.slice a0 n p0, .slice a1 n p1, .slice a2 n p2] t)) := (Fx.refl No w3).alloc _
  have hz2 := hf2.size
  have hz3 := hf3.size
  refine ⟨?_, ?_, ?_, ((hm0.no hf2).no hf3).no hfa, (hm1.no hf3).no hfa, hm2.no hfa, Iv.disj (.inl (Nat.le_refl _)), Iv.disj (.inl hz2), Iv.disj (.inl (Nat.le_refl _)), ⟨?_, ?_, ?_⟩, ?_, ?_, ?_, ?_, h⟩
  · show _ = some c0.v; rw [hv0]; simp
  · show _ = some c1.v; rw [hv1]; simp
  · show _ = some c2.v; rw [hv2]; simp
  · rintro ⟨x1, x2⟩; have : w3.heap.size < w1.heap.size := x2; omega
  · rintro ⟨x1, x2⟩; have : w3.heap.size < w2.heap.size := x2; omega
  · rintro ⟨x1, x2⟩; have : w3.heap.size < w3.heap.size := x2; omega
  · rintro x ⟨x1, x2⟩; exact ⟨x1, by omega⟩
  · rintro x ⟨x1, x2⟩; exact ⟨by omega, by omega⟩
  · rintro x ⟨x1, x2⟩; exact ⟨by omega, by omega⟩
  · exact ⟨by show sA ≤ w3.heap.size; omega, by show w3.heap.size < _; omega⟩
set_option maxHeartbeats 1000000 in
theorem cloNew_any (n : Nat) (w : World) (h : n ≤ 1024) : Calls Tryd.prog 8 #[.int .i64 (n : Int)] w fun e w' => ∃ k : CC, e = .returned (.tuple #[.pointer (some ⟨k.b, 0, none⟩), .int .i64 0]) ∧ Fx No w w' ∧ Clo w' (Iv w.heap.size w'.heap.size) n (fun _ => 0) (fun _ => 0) (fun _ => 0) k := by
  have d0 : decide ((n : Int) < 0) = false := decide_eq_false (by omega)
  have d1 : decide ((1024 : Int) < (n : Int)) = false := decide_eq_false (by omega)
  go_enter Tryd.func8, Tryd.ntmps8
  go_wp2_with fail
  refine (made_any n w h).mono ?_
  rintro e w1 ⟨c0, rfl, hf, hm⟩
  have HF1 := Lib.hid hf
  have HM0 := Lib.hid hm
  obtain ⟨a0, p0, hv0, _⟩ := hm.facts
  have HV0 := Lib.hid hv0
  rw [hv0]
  have hz1 := hf.size
  clear hf hm hv0
  go_wp2_with fail
  refine (made_any n w1 h).mono ?_
  rintro e w2 ⟨c1, rfl, hf, hm⟩
  have HF2 := Lib.hid hf
  have HM1 := Lib.hid hm
  obtain ⟨a1, p1, hv1, _⟩ := hm.facts
  have HV1 := Lib.hid hv1
  rw [hv1]
  have hz2 := hf.size
  clear hf hm hv1
  go_wp2_with fail
  refine (made_any n w2 h).mono ?_
  rintro e w3 ⟨c2, rfl, hf, hm⟩
  have HF3 := Lib.hid hf
  have HM2 := Lib.hid hm
  obtain ⟨a2, p2, hv2, _⟩ := hm.facts
  have HV2 := Lib.hid hv2
  rw [hv2]
  have hz3 := hf.size
  clear hf hm hv2
  go_wp2
  go_ret2
  refine ⟨⟨w3.heap.size, c0, c1, c2, Iv w.heap.size w1.heap.size, Iv w1.heap.size w2.heap.size, Iv w2.heap.size w3.heap.size⟩, rfl, ((HF1.out.trans HF2.out).trans HF3.out).alloc _, ?_⟩
  rw [World.size_alloc]
  exact clo_of hz1 HM0.out HF2.out HM1.out HF3.out HM2.out HV0.out HV1.out HV2.out h
section
variable {w w' : World} {D S : Nat → Prop} {n : Nat} {dn up ed : Nat → Nat} {k : CC}
set_option maxRecDepth 100000 in
set_option maxHeartbeats 2000000 in
theorem cloCopy_any (h : Clo w D n dn up ed k) : Calls Tryd.prog 9 #[.pointer (some ⟨k.b, 0, none⟩)] w fun e w' => ∃ k' : CC, e = .returned (.pointer (some ⟨k'.b, 0, none⟩)) ∧ Fx No w w' ∧ Clo w' (Iv w.heap.size w'.heap.size) n dn up ed k' := by
  have hle := h.le
  have H := Lib.hid h
  have v0 := h.v0
  have v1 := h.v1
  have v2 := h.v2
  have q0 : ∀ w', Fx No w w' → w'.cell? ⟨k.b, 0, none⟩ = some k.c0.v := fun w' h => h.cell' v0 (fun h => h)
  have q1 : ∀ w', Fx No w w' → w'.cell? ⟨k.b, 1, none⟩ = some k.c1.v := fun w' h => h.cell' v1 (fun h => h)
  have q2 : ∀ w', Fx No w w' → w'.cell? ⟨k.b, 2, none⟩ = some k.c2.v := fun w' h => h.cell' v2 (fun h => h)
  have s0 : Fx No w w := Fx.refl _ _
  have C0 : Hid (∀ W, Fx No w W → Calls Tryd.prog 36 #[.agg #[k.c0.v]] W fun e w' => ∃ (c' : FC) (a : Option Addr) (p : Nat), e = .returned (.agg #[.slice a n p]) ∧ Fx No W w' ∧ Hid (c'.v = .slice a n p) ∧ Hid (Fam w' (Iv W.heap.size w'.heap.size) n dn c')) := Lib.hid fun W h => (copied_any (H.out.f0.no h) hle).mono fun e w' ⟨c', h1, h2, h3⟩ => by
    obtain ⟨a, p, hv, _⟩ := h3.facts
    exact ⟨c', a, p, by rw [h1, hv], h2, Lib.hid hv, Lib.hid h3⟩
  have C1 : Hid (∀ W, Fx No w W → Calls Tryd.prog 36 #[.agg #[k.c1.v]] W fun e w' => ∃ (c' : FC) (a : Option Addr) (p : Nat), e = .returned (.agg #[.slice a n p]) ∧ Fx No W w' ∧ Hid (c'.v = .slice a n p) ∧ Hid (Fam w' (Iv W.heap.size w'.heap.size) n up c')) := Lib.hid fun W h => (copied_any (H.out.f1.no h) hle).mono fun e w' ⟨c', h1, h2, h3⟩ => by
    obtain ⟨a, p, hv, _⟩ := h3.facts
    exact ⟨c', a, p, by rw [h1, hv], h2, Lib.hid hv, Lib.hid h3⟩
  have C2 : Hid (∀ W, Fx No w W → Calls Tryd.prog 36 #[.agg #[k.c2.v]] W fun e w' => ∃ (c' : FC) (a : Option Addr) (p : Nat), e = .returned (.agg #[.slice a n p]) ∧ Fx No W w' ∧ Hid (c'.v = .slice a n p) ∧ Hid (Fam w' (Iv W.heap.size w'.heap.size) n ed c')) := Lib.hid fun W h => (copied_any (H.out.f2.no h) hle).mono fun e w' ⟨c', h1, h2, h3⟩ => by
    obtain ⟨a, p, hv, _⟩ := h3.facts
    exact ⟨c', a, p, by rw [h1, hv], h2, Lib.hid hv, Lib.hid h3⟩
  clear h v0 v1 v2
  go_enter Tryd.func9, Tryd.ntmps9
  go_wp2_with fail
  go_region_held3 (fun w' => Fx No w w')
    (first
      | exact s0.drew
      | exact Fx.transNo (by assumption) hf0
      | exact Fx.transNo (by assumption) hf1
      | exact Fx.transNo (by assumption) hf2
      | exact Fx.alloc (by assumption) _)
    (first
      | (go_at_call 36; with_reducible refine (C0.out _ (by assumption)).mono ?_; rintro e w0 ⟨c0, a0, p0, rfl, hf0, hv0, hm0⟩)
      | (go_at_call 36; with_reducible refine (C1.out _ (by assumption)).mono ?_; rintro e w1 ⟨c1, a1, p1, rfl, hf1, hv1, hm1⟩)
      | (go_at_call 36; with_reducible refine (C2.out _ (by assumption)).mono ?_; rintro e w2 ⟨c2, a2, p2, rfl, hf2, hv2, hm2⟩))
  all_goals
    have HF0 := Lib.hid hf0
    have HF1 := Lib.hid hf1
    have HF2 := Lib.hid hf2
    clear hf0 hf1 hf2 q0 q1 q2
    go_wp2
    go_ret
    have hz := HF0.out.size
    have h0 := hm0.out
    simp only [World.size_drew] at hz h0
    refine ⟨⟨w2.heap.size, c0, c1, c2, Iv w.heap.size w0.heap.size, Iv w0.heap.size w1.heap.size, Iv w1.heap.size w2.heap.size⟩, rfl, ((((s0.drew).trans HF0.out).trans HF1.out).trans HF2.out).alloc _, ?_⟩
    rw [World.size_alloc]
    exact clo_of hz h0 HF1.out hm1.out HF2.out hm2.out hv0.out hv1.out hv2.out hle
end
#print axioms cloNew_any
#print axioms cloCopy_any
end Go.Proofs.YtfpggeiphbekoaaDoor
