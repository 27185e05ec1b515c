/- closure: New, Copy. | closure: Add. | Plain: rows of edges in order; what adding an edge does to them and to the sets; loops; the edges that are needed. | Plain: of edges without a closed way, those that are needed lead to the same; without one of them they do not. -/
import Derived.Test.YtfpggeiphbekoaaGreatDoorA5
import Derived.Test.YtfpggeiphbekoaaGreatDoorA4

namespace Go.Proofs.YtfpggeiphbekoaaGreatDoor
open Go.RowKit
set_option linter.unusedVariables false

theorem cloNew_no (n : Int) (w : World) (h : n < 0 ∨ 1024 < n) : Calls Tryz.prog 9 #[.int .i64 n] w fun e w' => e = .returned (.tuple #[.pointer none, .int .i64 2]) ∧ w = w' := by
  rcases h with h | h
  · have d0 : decide (n < 0) = true := decide_eq_true h
    clear h
    go_enter Tryz.func9, Tryz.ntmps9
    go_wp2
    go_ret2
    exact ⟨rfl, rfl⟩
  · have d0 : decide (n < 0) = false := decide_eq_false (by omega)
    have d1 : decide (1024 < n) = true := decide_eq_true h
    clear h
    go_enter Tryz.func9, Tryz.ntmps9
    go_wp2
    go_ret2
    exact ⟨rfl, rfl⟩
theorem clo_of {sA n : Nat} {w1 w2 w3 : World} {dn up ed : Nat → Nat} {c0 c1 c2 : FC} {a0 a1 a2 : Option Addr} {p0 p1 p2 : Nat} {t : TypeId} (hz1 : sA ≤ w1.heap.size) (hm0 : Fam w1 (Iv sA w1.heap.size) n dn c0) (hf2 : Fx No w1 w2) (hm1 : Fam w2 (Iv w1.heap.size w2.heap.size) n up c1)
    (hf3 : Fx No w2 w3) (hm2 : Fam w3 (Iv w2.heap.size w3.heap.size) n ed c2) (hv0 : c0.v = .slice a0 n p0) (hv1 : c1.v = .slice a1 n p1) (hv2 : c2.v = .slice a2 n p2) (h : n ≤ 1024) :
    Clo (w3.alloc (.cells #[.slice a0 n p0, .slice a1 n p1, .slice a2 n p2] t)) (Iv sA (w3.heap.size + 1)) n dn up ed ⟨w3.heap.size, c0, c1, c2, Iv sA w1.heap.size, Iv w1.heap.size w2.heap.size, Iv w2.heap.size w3.heap.size⟩ := by
  have hfa : Fx No w3 (w3.alloc (.cells #[.slice a0 n p0, .slice a1 n p1, .slice a2 n p2] t)) := (Fx.refl No w3).alloc _
  have hz2 := hf2.size
  have hz3 := hf3.size
  refine ⟨?_, ?_, ?_, ((hm0.no hf2).no hf3).no hfa, (hm1.no hf3).no hfa, hm2.no hfa, Iv.disj (.inl (Nat.le_refl _)), Iv.disj (.inl hz2), Iv.disj (.inl (Nat.le_refl _)), ⟨?_, ?_, ?_⟩, ?_, ?_, ?_, ?_, h⟩
  · show _ = some c0.v; rw [hv0]; simp
  · show _ = some c1.v; rw [hv1]; simp
  · show _ = some c2.v; rw [hv2]; simp
  · rintro ⟨x1, x2⟩; have : w3.heap.size < w1.heap.size := x2; omega
  · rintro ⟨x1, x2⟩; have : w3.heap.size < w2.heap.size := x2; omega
  · rintro ⟨x1, x2⟩; have : w3.heap.size < w3.heap.size := x2; omega
  · rintro x ⟨x1, x2⟩; exact ⟨x1, by omega⟩
  · rintro x ⟨x1, x2⟩; exact ⟨by omega, by omega⟩
  · rintro x ⟨x1, x2⟩; exact ⟨by omega, by omega⟩
  · exact ⟨by show sA ≤ w3.heap.size; omega, by show w3.heap.size < _; omega⟩
set_option maxHeartbeats 1000000 in
theorem cloNew_any (n : Nat) (w : World) (h : n ≤ 1024) : Calls Tryz.prog 9 #[.int .i64 (n : Int)] w fun e w' => ∃ k : CC, e = .returned (.tuple #[.pointer (some ⟨k.b, 0, none⟩), .int .i64 0]) ∧ Fx No w w' ∧ Clo w' (Iv w.heap.size w'.heap.size) n (fun _ => 0) (fun _ => 0) (fun _ => 0) k := by
  have d0 : decide ((n : Int) < 0) = false := decide_eq_false (by omega)
  have d1 : decide ((1024 : Int) < (n : Int)) = false := decide_eq_false (by omega)
  go_enter Tryz.func9, Tryz.ntmps9
  go_wp2_with fail
  refine (made_any n w h).mono ?_
  rintro e w1 ⟨c0, rfl, hf, hm⟩
  have HF1 := Lib.hid hf
  have HM0 := Lib.hid hm
  obtain ⟨a0, p0, hv0, _⟩ := hm.facts
  have HV0 := Lib.hid hv0
  rw [hv0]
  have hz1 := hf.size
  clear hf hm hv0
  go_wp2_with fail
  refine (made_any n w1 h).mono ?_
  rintro e w2 ⟨c1, rfl, hf, hm⟩
  have HF2 := Lib.hid hf
  have HM1 := Lib.hid hm
  obtain ⟨a1, p1, hv1, _⟩ := hm.facts
  have HV1 := Lib.hid hv1
  rw [hv1]
  have hz2 := hf.size
  clear hf hm hv1
  go_wp2_with fail
  refine (made_any n w2 h).mono ?_
  rintro e w3 ⟨c2, rfl, hf, hm⟩
  have HF3 := Lib.hid hf
  have HM2 := Lib.hid hm
  obtain ⟨a2, p2, hv2, _⟩ := hm.facts
  have HV2 := Lib.hid hv2
  rw [hv2]
  have hz3 := hf.size
  clear hf hm hv2
  go_wp2
  go_ret2
  refine ⟨⟨w3.heap.size, c0, c1, c2, Iv w.heap.size w1.heap.size, Iv w1.heap.size w2.heap.size, Iv w2.heap.size w3.heap.size⟩, rfl, ((HF1.out.trans HF2.out).trans HF3.out).alloc _, ?_⟩
  rw [World.size_alloc]
  exact clo_of hz1 HM0.out HF2.out HM1.out HF3.out HM2.out HV0.out HV1.out HV2.out h
section
variable {w w' : World} {D S : Nat → Prop} {n : Nat} {dn up ed : Nat → Nat} {k : CC}
set_option maxRecDepth 100000 in
set_option maxHeartbeats 2000000 in
theorem cloCopy_any (h : Clo w D n dn up ed k) : Calls Tryz.prog 10 #[.pointer (some ⟨k.b, 0, none⟩)] w fun e w' => ∃ k' : CC, e = .returned (.pointer (some ⟨k'.b, 0, none⟩)) ∧ Fx No w w' ∧ Clo w' (Iv w.heap.size w'.heap.size) n dn up ed k' := by
  have hle := h.le
  have H := Lib.hid h
  have v0 := h.v0
  have v1 := h.v1
  have v2 := h.v2
  have q0 : ∀ w', Fx No w w' → w'.cell? ⟨k.b, 0, none⟩ = some k.c0.v := fun w' h => h.cell' v0 (fun h => h)
  have q1 : ∀ w', Fx No w w' → w'.cell? ⟨k.b, 1, none⟩ = some k.c1.v := fun w' h => h.cell' v1 (fun h => h)
  have q2 : ∀ w', Fx No w w' → w'.cell? ⟨k.b, 2, none⟩ = some k.c2.v := fun w' h => h.cell' v2 (fun h => h)
  have s0 : Fx No w w := Fx.refl _ _
  have C0 : Hid (∀ W, Fx No w W → Calls Tryz.prog 37 #[.agg #[k.c0.v]] W fun e w' => ∃ (c' : FC) (a : Option Addr) (p : Nat), e = .returned (.agg #[.slice a n p]) ∧ Fx No W w' ∧ Hid (c'.v = .slice a n p) ∧ Hid (Fam w' (Iv W.heap.size w'.heap.size) n dn c')) := Lib.hid fun W h => (copied_any (H.out.f0.no h) hle).mono fun e w' ⟨c', h1, h2, h3⟩ => by
    obtain ⟨a, p, hv, _⟩ := h3.facts
    exact ⟨c', a, p, by rw [h1, hv], h2, Lib.hid hv, Lib.hid h3⟩
  have C1 : Hid (∀ W, Fx No w W → Calls Tryz.prog 37 #[.agg #[k.c1.v]] W fun e w' => ∃ (c' : FC) (a : Option Addr) (p : Nat), e = .returned (.agg #[.slice a n p]) ∧ Fx No W w' ∧ Hid (c'.v = .slice a n p) ∧ Hid (Fam w' (Iv W.heap.size w'.heap.size) n up c')) := Lib.hid fun W h => (copied_any (H.out.f1.no h) hle).mono fun e w' ⟨c', h1, h2, h3⟩ => by
    obtain ⟨a, p, hv, _⟩ := h3.facts
    exact ⟨c', a, p, by rw [h1, hv], h2, Lib.hid hv, Lib.hid h3⟩
  have C2 : Hid (∀ W, Fx No w W → Calls Tryz.prog 37 #[.agg #[k.c2.v]] W fun e w' => ∃ (c' : FC) (a : Option Addr) (p : Nat), e = .returned (.agg #[.slice a n p]) ∧ Fx No W w' ∧ Hid (c'.v = .slice a n p) ∧ Hid (Fam w' (Iv W.heap.size w'.heap.size) n ed c')) := Lib.hid fun W h => (copied_any (H.out.f2.no h) hle).mono fun e w' ⟨c', h1, h2, h3⟩ => by
    obtain ⟨a, p, hv, _⟩ := h3.facts
    exact ⟨c', a, p, by rw [h1, hv], h2, Lib.hid hv, Lib.hid h3⟩
  clear h v0 v1 v2
  go_enter Tryz.func10, Tryz.ntmps10
  go_wp2_with fail
  go_region_held3 (fun w' => Fx No w w')
    (first
      | exact s0.drew
      | exact Fx.transNo (by assumption) hf0
      | exact Fx.transNo (by assumption) hf1
      | exact Fx.transNo (by assumption) hf2
      | exact Fx.alloc (by assumption) _)
    (first
      | (go_at_call 37; with_reducible refine (C0.out _ (by assumption)).mono ?_; rintro e w0 ⟨c0, a0, p0, rfl, hf0, hv0, hm0⟩)
      | (go_at_call 37; with_reducible refine (C1.out _ (by assumption)).mono ?_; rintro e w1 ⟨c1, a1, p1, rfl, hf1, hv1, hm1⟩)
      | (go_at_call 37; with_reducible refine (C2.out _ (by assumption)).mono ?_; rintro e w2 ⟨c2, a2, p2, rfl, hf2, hv2, hm2⟩))
  all_goals
    have HF0 := Lib.hid hf0
    have HF1 := Lib.hid hf1
    have HF2 := Lib.hid hf2
    clear hf0 hf1 hf2 q0 q1 q2
    go_wp2
    go_ret
    have hz := HF0.out.size
    have h0 := hm0.out
    simp only [World.size_drew] at hz h0
    refine ⟨⟨w2.heap.size, c0, c1, c2, Iv w.heap.size w0.heap.size, Iv w0.heap.size w1.heap.size, Iv w1.heap.size w2.heap.size⟩, rfl, ((((s0.drew).trans HF0.out).trans HF1.out).trans HF2.out).alloc _, ?_⟩
    rw [World.size_alloc]
    exact clo_of hz h0 HF1.out hm1.out HF2.out hm2.out hv0.out hv1.out hv2.out hle
end
#print axioms cloNew_any
#print axioms cloCopy_any
end Go.Proofs.YtfpggeiphbekoaaGreatDoor

namespace Go.Proofs.YtfpggeiphbekoaaGreatDoor
open Go.RowKit
set_option linter.unusedVariables false

/-- who leads to where an edge begins, and that node; whom it leads to -/
def nearX (n : Nat) (m : Nat → Nat) (f : Nat) : Nat := rawX 0 (ofX n [(f : Int)]) [m f] % 2 ^ n
def addEd (n : Nat) (ed : Nat → Nat) (f t : Nat) : Nat → Nat := fun j => if j = f then addX n (ed f) (t : Int) else ed j
def addDn (n : Nat) (dn up ed : Nat → Nat) (f t : Nat) : Nat → Nat := if ((ed f).testBit t || (dn f).testBit t) = true then dn else joinM n (nearX n dn t) (allX n (nearX n up f)) dn
def addUp (n : Nat) (dn up ed : Nat → Nat) (f t : Nat) : Nat → Nat := if ((ed f).testBit t || (dn f).testBit t) = true then up else joinM n (nearX n up f) (allX n (nearX n dn t)) up
theorem ofP_in {c : FC} {n f : Nat} (h : f < n) : ofP c n (f : Int) = some ⟨c.B f, 0, none⟩ := by unfold ofP; rw [if_pos (by omega)]; rfl
theorem ofP_out {c : FC} {n : Nat} {i : Int} (h : ¬ (0 ≤ i ∧ i < n)) : ofP c n i = none := by unfold ofP; rw [if_neg h]
theorem SetP.in {w : World} {D : Nat → Prop} {b n X : Nat} (h : SetP w D (some ⟨b, 0, none⟩) n X) : SetIn w D b n X := by
  rcases h with ⟨h, _⟩ | ⟨b', h, h'⟩
  · simp at h
  · simp only [Option.some.injEq, Addr.mk.injEq, and_true] at h
    subst h; exact h'
theorem SlV.new (w : World) (e : TypeId) (cs : Array Value) (size n : Nat) (h : cs.size = n * size) (hn : n ≤ maxLen) :
    SlV (w.alloc (.cells cs e)) (fun k => w.heap.size ≤ k) (.slice (some ⟨w.heap.size, 0, none⟩) n n) size n cs.toList := by
  refine ⟨_, n, rfl, Nat.le_refl _, hn, by simpa using h, by simp, .inr ⟨w.heap.size, 0, rfl, Nat.le_refl _, fun i hi => ?_⟩⟩
  have hi' : i < cs.size := by simpa using hi
  simp [hi']
section
variable {w w' : World} {D S : Nat → Prop} {n : Nat} {dn up ed : Nat → Nat} {k : CC}
theorem Clo.put2 {f X : Nat} (h : Clo w D n dn up ed k) (hf : f < n) (hfx : Fx (k.c2.Ds f) w w') (hs : SetIn w' (k.c2.Ds f) (k.c2.B f) n X) : Clo w' D n dn up (fun j => if j = f then X else ed j) k := by
  have hs2 : ∀ x, k.c2.Ds f x → k.D2 x := h.f2.sD f
  exact ⟨hfx.cell' h.v0 (fun e => h.nb.2.2 (hs2 _ e)), hfx.cell' h.v1 (fun e => h.nb.2.2 (hs2 _ e)), hfx.cell' h.v2 (fun e => h.nb.2.2 (hs2 _ e)), h.f0.keep hfx fun x hx e => h.d02 x hx (hs2 x e), h.f1.keep hfx fun x hx e => h.d12 x hx (hs2 x e), h.f2.put hf hfx hs,
    h.d01, h.d02, h.d12, h.nb, h.s0, h.s1, h.s2, h.sb, h.le⟩
theorem Clo.put0 {dn' : Nat → Nat} (h : Clo w D n dn up ed k) (hfx : Fx k.D0 w w') (hs : Fam w' k.D0 n dn' k.c0) : Clo w' D n dn' up ed k :=
  ⟨hfx.cell' h.v0 h.nb.1, hfx.cell' h.v1 h.nb.1, hfx.cell' h.v2 h.nb.1, hs, h.f1.keep hfx fun x hx e => h.d01 x e hx, h.f2.keep hfx fun x hx e => h.d02 x e hx, h.d01, h.d02, h.d12, h.nb, h.s0, h.s1, h.s2, h.sb, h.le⟩
theorem Clo.put1 {up' : Nat → Nat} (h : Clo w D n dn up ed k) (hfx : Fx k.D1 w w') (hs : Fam w' k.D1 n up' k.c1) : Clo w' D n dn up' ed k :=
  ⟨hfx.cell' h.v0 h.nb.2.1, hfx.cell' h.v1 h.nb.2.1, hfx.cell' h.v2 h.nb.2.1, h.f0.keep hfx fun x hx e => h.d01 x hx e, hs, h.f2.keep hfx fun x hx e => h.d12 x e hx, h.d01, h.d02, h.d12, h.nb, h.s0, h.s1, h.s2, h.sb, h.le⟩
theorem cloAdd_no (h : Clo w D n dn up ed k) (f t : Int) (hft : ¬ (0 ≤ f ∧ f < n) ∨ ¬ (0 ≤ t ∧ t < n)) :
    Calls Tryz.prog 15 #[.pointer (some ⟨k.b, 0, none⟩), .int .i64 f, .int .i64 t] w fun e w' => e = .returned (.tuple #[.bool false, .int .i64 130]) ∧ Fx No w w' := by
  have H := Lib.hid h
  have v2 := h.v2
  clear h
  by_cases hf : 0 ≤ f ∧ f < n
  · have ht : ¬ (0 ≤ t ∧ t < n) := by rcases hft with h | h
                                      · exact absurd hf h
                                      · exact h
    obtain ⟨F, rfl⟩ := Int.eq_ofNat_of_zero_le hf.1
    have hF : F < n := by omega
    clear hft hf
    go_enter Tryz.func15, Tryz.ntmps15
    go_wp2_with fail
    refine (rowsOf_any H.out.f2 (F : Int)).mono ?_
    rintro e w1 ⟨rfl, hf⟩
    have v2' := hf.cell' v2 (fun h => h)
    have HF := Lib.hid hf
    rw [ofP_in hF]
    clear hf
    go_wp2_with fail
    refine (rowsOf_any (H.out.no HF.out).f2 t).mono ?_
    rintro e w2 ⟨rfl, hf⟩
    have HF2 := Lib.hid (HF.out.trans hf)
    rw [ofP_out ht]
    clear hf
    go_wp2
    go_ret2
    exact ⟨rfl, HF2.out⟩
  · go_enter Tryz.func15, Tryz.ntmps15
    go_wp2_with fail
    refine (rowsOf_any H.out.f2 f).mono ?_
    rintro e w1 ⟨rfl, hf'⟩
    have HF := Lib.hid hf'
    rw [ofP_out hf]
    clear hf'
    go_wp2
    go_ret2
    exact ⟨rfl, HF.out⟩
set_option maxRecDepth 100000 in
set_option maxHeartbeats 4000000 in
theorem cloAdd_any (h : Clo w D n dn up ed k) (hD : ∀ x, D x → x < w.heap.size) (hT : TabOk w) (hTD : ¬ D 0) {f t : Nat} (hf : f < n) (ht : t < n) :
    Calls Tryz.prog 15 #[.pointer (some ⟨k.b, 0, none⟩), .int .i64 (f : Int), .int .i64 (t : Int)] w fun e w' =>
      e = .returned (.tuple #[.bool (!cycB n dn && cycB n (addDn n dn up ed f t)), .int .i64 0]) ∧ Fx D w w' ∧ Clo w' D n (addDn n dn up ed f t) (addUp n dn up ed f t) (addEd n ed f t) k := by
  have H := Lib.hid h
  have HD := Lib.hid hD
  have HT := Lib.hid hT
  have HTD := Lib.hid hTD
  have hle := h.le
  have v2 := h.v2
  obtain ⟨cy, hcy⟩ : ∃ x, x = cycB n dn := ⟨_, rfl⟩
  rw [← hcy]
  have HCy := Lib.hid hcy
  obtain ⟨a2, p2, hv2, hc2⟩ := h.f2.facts
  have HV2 := Lib.hid hv2
  obtain ⟨g2, o2, rfl, hG2, hcell2⟩ := hc2 f hf
  have HG2 := Lib.hid hG2
  have HDn : Hid (addDn n dn up ed f t = if ((ed f).testBit t || (dn f).testBit t) = true then dn else joinM n (nearX n dn t) (allX n (nearX n up f)) dn) := Lib.hid rfl
  have HUp : Hid (addUp n dn up ed f t = if ((ed f).testBit t || (dn f).testBit t) = true then up else joinM n (nearX n up f) (allX n (nearX n dn t)) up) := Lib.hid rfl
  have HEd : Hid (addEd n ed f t = fun j => if j = f then addX n (ed f) (t : Int) else ed j) := Lib.hid rfl
  have hAB : addB n (ed f) (t : Int) = !(ed f).testBit t := by simp [addB, mayB, hasB_nat, ht]
  have HAB := Lib.hid hAB
  have hfn : (f : Int) < (n : Int) := by omega
  clear h hD hT hTD hcy hc2 hAB hv2 hG2
  go_enter Tryz.func15, Tryz.ntmps15
  go_wp2_with fail
  refine (rowsOf_any H.out.f2 (f : Int)).mono ?_
  rintro e w1 ⟨rfl, hfx⟩
  have v2' := hfx.cell' v2 (fun h => h)
  have HF1 := Lib.hid hfx
  rw [ofP_in hf]
  clear hfx
  go_wp2_with fail
  refine (rowsOf_any (H.out.no HF1.out).f2 (t : Int)).mono ?_
  rintro e w2 ⟨rfl, hfx⟩
  have HF2 := Lib.hid (HF1.out.trans hfx)
  rw [ofP_in ht]
  clear hfx v2 v2'
  go_wp2_with fail
  refine (cyclic_any (H.out.no HF2.out)).mono ?_
  rintro e w3 ⟨rfl, hfx⟩
  rw [← HCy.out]
  have HF3 := Lib.hid (HF2.out.trans hfx)
  have H3 := Lib.hid (H.out.no HF3.out)
  have v2 : w3.cell? ⟨k.b, 2, none⟩ = some (.slice (some ⟨g2, o2, none⟩) n p2) := by rw [← HV2.out]; exact H3.out.v2
  have hcell3 := HF3.out.cell' hcell2 (fun h => h)
  clear hfx hcell2
  go_wp2_with fail
  refine (add_any (H3.out.f2.set f hf).p (t : Int)).mono ?_
  rintro e w4 ⟨rfl, hfx, hs⟩
  have H4 : Hid (Clo w4 D n dn up (addEd n ed f t) k) := Lib.hid (by rw [HEd.out]; exact H3.out.put2 hf hfx hs.in)
  have HF4 : Hid (Fx D w w4) := Lib.hid (HF3.out.no.trans (hfx.mono fun x _ hx => H.out.s2 x (H.out.f2.sD f x hx)))
  rw [HAB.out]
  clear hfx hs v2 hcell3
  obtain ⟨te, hte⟩ : ∃ x, x = (ed f).testBit t := ⟨_, rfl⟩
  rw [← hte] at HDn HUp ⊢
  clear hte
  cases te
  · rw [Bool.not_false]
    go_wp2_with fail
    refine (leads_any H4.out (f : Int) (t : Int)).mono ?_
    rintro e w5 ⟨rfl, hfx⟩
    rw [leadsB_nat hf]
    have H5 := Lib.hid (H4.out.no hfx)
    have HF5 := Lib.hid (HF4.out.transNo hfx)
    clear hfx
    obtain ⟨td, htd⟩ : ∃ x, x = (dn f).testBit t := ⟨_, rfl⟩
    rw [← htd] at HDn HUp ⊢
    clear htd
    cases td
    · rw [Bool.false_or, if_neg (by simp)] at HDn HUp
      go_wp2_with fail
      refine (cloLen_any H5.out).mono ?_
      rintro e w6 ⟨rfl, rfl⟩
      have hz5 := HF5.out.size
      go_wp2_with fail
      refine (of_any (n : Int) (ints_lit w5 [(f : Int)] (by unfold maxLen; simp))).mono ?_
      rintro e w6 ⟨b1, rfl, hfx, hs⟩
      rw [newN_nat (by omega), World.size_alloc] at hs
      have HS1 := Lib.hid hs
      have HF6 := Lib.hid ((HF5.out.alloc _).transNo hfx)
      have H6 := Lib.hid ((H5.out.no ((Fx.refl No _).alloc _)).no hfx)
      have hz6 := hfx.size
      simp only [World.size_alloc] at hz6
      clear hfx hs
      go_wp2_with fail
      refine (of_any (n : Int) (ints_lit w6 [(t : Int)] (by unfold maxLen; simp))).mono ?_
      rintro e w7 ⟨b2, rfl, hfx, hs⟩
      rw [newN_nat (by omega), World.size_alloc] at hs
      have HS2 := Lib.hid hs
      have HS1 := Lib.hid ((HS1.out.no ((Fx.refl No _).alloc _)).no hfx)
      have HF7 := Lib.hid ((HF6.out.alloc _).transNo hfx)
      have H7 := Lib.hid ((H6.out.no ((Fx.refl No _).alloc _)).no hfx)
      have hz7 := hfx.size
      simp only [World.size_alloc] at hz7
      have v1 := H7.out.v1
      clear hfx hs
      go_wp2_with fail
      refine (rowsOf_any H7.out.f1 (f : Int)).mono ?_
      rintro e w8 ⟨rfl, hfx⟩
      rw [ofP_in hf]
      have HS1 := Lib.hid (HS1.out.no hfx)
      have HS2 := Lib.hid (HS2.out.no hfx)
      have HF8 := Lib.hid (HF7.out.transNo hfx)
      have H8 := Lib.hid (H7.out.no hfx)
      have hz8 := hfx.size
      clear hfx v1
      obtain ⟨s1, hs1⟩ : ∃ s, s = w5.heap.size + 1 := ⟨_, rfl⟩
      obtain ⟨s2, hs2⟩ : ∃ s, s = w6.heap.size := ⟨_, rfl⟩
      obtain ⟨s3, hs3⟩ : ∃ s, s = w7.heap.size := ⟨_, rfl⟩
      rw [← hs1, ← hs2] at HS1
      rw [← hs2, ← hs3] at HS2
      go_wp2_with fail
      refine (join_any (L := [(some ⟨k.c1.B f, 0, none⟩, up f)]) (E := fun x => ¬ Iv s1 s2 x) (HS1.out.no ((Fx.refl No _).alloc _)) ((SlV.new w8 83 #[.pointer (some ⟨k.c1.B f, 0, none⟩)] 1 1 rfl (by unfold maxLen; omega)).mono fun x hx hi => by have := hi.2; omega) (by
        intro z hz
        rw [List.mem_singleton] at hz
        subst hz
        exact .inr ⟨n, (((H8.out.no ((Fx.refl No _).alloc _)).f1.set f hf).mono fun x hx hi => by have h1 := HD.out x (H.out.s1 x (H.out.f1.sD f x hx)); have := hi.1; omega).p⟩) (fun x hx => hx) (by simp)).mono ?_
      rintro e w9 ⟨rfl, hfx, hs⟩
      have HS1 : Hid (SetIn w9 (Iv s1 s2) b1 n (nearX n up f)) := Lib.hid hs
      have HS2 := Lib.hid ((HS2.out.no ((Fx.refl No _).alloc _)).keep hfx (Iv.disj (.inr (by omega))))
      have HF9 : Hid (Fx D w w9) := Lib.hid ((HF8.out.alloc _).trans' hfx fun j hj hl => by have := hj.1; omega)
      have H9 := Lib.hid ((H8.out.no ((Fx.refl No _).alloc _)).keep hfx fun x hx hi => by have h1 := HD.out x hx; have := hi.1; omega)
      have hz9 := hfx.size
      simp only [World.size_alloc] at hz9
      have v0 := H9.out.v0
      clear hfx hs
      go_wp2_with fail
      refine (rowsOf_any H9.out.f0 (t : Int)).mono ?_
      rintro e w10 ⟨rfl, hfx⟩
      rw [ofP_in ht]
      have HS1 := Lib.hid (HS1.out.no hfx)
      have HS2 := Lib.hid (HS2.out.no hfx)
      have HF10 := Lib.hid (HF9.out.transNo hfx)
      have H10 := Lib.hid (H9.out.no hfx)
      have hz10 := hfx.size
      clear hfx v0
      go_wp2_with fail
      refine (join_any (L := [(some ⟨k.c0.B t, 0, none⟩, dn t)]) (E := fun x => ¬ Iv (s2 + 1) s3 x) (HS2.out.no ((Fx.refl No _).alloc _)) ((SlV.new w10 83 #[.pointer (some ⟨k.c0.B t, 0, none⟩)] 1 1 rfl (by unfold maxLen; omega)).mono fun x hx hi => by have := hi.2; omega) (by
        intro z hz
        rw [List.mem_singleton] at hz
        subst hz
        exact .inr ⟨n, (((H10.out.no ((Fx.refl No _).alloc _)).f0.set t ht).mono fun x hx hi => by have h1 := HD.out x (H.out.s0 x (H.out.f0.sD t x hx)); have := hi.1; omega).p⟩) (fun x hx => hx) (by simp)).mono ?_
      rintro e w11 ⟨rfl, hfx, hs⟩
      have HS2 : Hid (SetIn w11 (Iv (s2 + 1) s3) b2 n (nearX n dn t)) := Lib.hid hs
      have HS1 := Lib.hid ((HS1.out.no ((Fx.refl No _).alloc _)).keep hfx (Iv.disj (.inl (by omega))))
      have HF11 : Hid (Fx D w w11) := Lib.hid ((HF10.out.alloc _).trans' hfx fun j hj hl => by have := hj.1; omega)
      have H11 := Lib.hid ((H10.out.no ((Fx.refl No _).alloc _)).keep hfx fun x hx hi => by have h1 := HD.out x hx; have := hi.1; omega)
      have hz11 := hfx.size
      simp only [World.size_alloc] at hz11
      have v0 := H11.out.v0
      have hT11 := HT.out.keep HF11.out HTD.out
      have HT11 := Lib.hid hT11
      clear hfx hs hT11
      go_wp2_with fail
      refine (rowsJoin_any (E2 := fun x => w.heap.size ≤ x) ((H11.out.no ((Fx.refl No _).alloc _)).f0) ((HS1.out.no ((Fx.refl No _).alloc _)).p) (Nat.le_refl n) ((SlV.new w11 83 #[.pointer (some ⟨b2, 0, none⟩)] 1 1 rfl (by unfold maxLen; omega)).mono fun x hx => by omega)
        (((HS2.out.no ((Fx.refl No _).alloc _)).mono fun x hx => by have := hx.1; omega).p) (fun x hx hd => by have := HD.out x (H.out.s0 x hd); omega) (HT11.out.keep ((Fx.refl No _).alloc _) (fun h => h))).mono ?_
      rintro e w12 ⟨rfl, hfx, hfam⟩
      have H12 := Lib.hid ((H11.out.no ((Fx.refl No _).alloc _)).put0 hfx hfam)
      have HF12 : Hid (Fx D w w12) := Lib.hid ((HF11.out.alloc _).trans (hfx.mono fun x _ hx => H.out.s0 x hx))
      have HS1 := Lib.hid ((HS1.out.no ((Fx.refl No _).alloc _)).keep hfx fun x hx hd => by have h1 := HD.out x (H.out.s0 x hd); have := hx.1; omega)
      have HS2 := Lib.hid ((HS2.out.no ((Fx.refl No _).alloc _)).keep hfx fun x hx hd => by have h1 := HD.out x (H.out.s0 x hd); have := hx.1; omega)
      have hz12 := hfx.size
      simp only [World.size_alloc] at hz12
      have v1 := H12.out.v1
      have HT12 := Lib.hid (HT.out.keep HF12.out HTD.out)
      clear hfx hfam v0
      go_wp2_with fail
      refine (rowsJoin_any (E2 := fun x => w.heap.size ≤ x) ((H12.out.no ((Fx.refl No _).alloc _)).f1) ((HS2.out.no ((Fx.refl No _).alloc _)).p) (Nat.le_refl n) ((SlV.new w12 83 #[.pointer (some ⟨b1, 0, none⟩)] 1 1 rfl (by unfold maxLen; omega)).mono fun x hx => by omega)
        (((HS1.out.no ((Fx.refl No _).alloc _)).mono fun x hx => by have := hx.1; omega).p) (fun x hx hd => by have := HD.out x (H.out.s1 x hd); omega) (HT12.out.keep ((Fx.refl No _).alloc _) (fun h => h))).mono ?_
      rintro e w13 ⟨rfl, hfx, hfam⟩
      have H13 : Hid (Clo w13 D n (addDn n dn up ed f t) (addUp n dn up ed f t) (addEd n ed f t) k) := Lib.hid (by rw [HDn.out, HUp.out]; exact (H12.out.no ((Fx.refl No _).alloc _)).put1 hfx hfam)
      have HF13 : Hid (Fx D w w13) := Lib.hid ((HF12.out.alloc _).trans (hfx.mono fun x _ hx => H.out.s1 x hx))
      clear hfx hfam v1
      cases cy
      · go_wp2_with fail
        refine (cyclic_any H13.out).mono ?_
        rintro e w14 ⟨rfl, hfx⟩
        have HF14 := Lib.hid (HF13.out.transNo hfx)
        have H14 := Lib.hid (H13.out.no hfx)
        clear hfx
        go_wp2
        go_ret2
        exact ⟨rfl, HF14.out, H14.out⟩
      · go_wp2
        go_ret2
        exact ⟨by simp, HF13.out, H13.out⟩
    · rw [Bool.false_or, if_pos rfl] at HDn HUp
      cases cy
      · go_wp2_with fail
        refine (cyclic_any H5.out).mono ?_
        rintro e w6 ⟨rfl, hfx⟩
        have HF6 := Lib.hid (HF5.out.transNo hfx)
        have H6 := Lib.hid (H5.out.no hfx)
        clear hfx
        go_wp2
        go_ret2
        exact ⟨by rw [HDn.out]; rfl, HF6.out, by rw [HDn.out, HUp.out]; exact H6.out⟩
      · go_wp2
        go_ret2
        exact ⟨by simp, HF5.out, by rw [HDn.out, HUp.out]; exact H5.out⟩
  · rw [Bool.true_or, if_pos rfl] at HDn HUp
    cases cy
    · go_wp2_with fail
      refine (cyclic_any H4.out).mono ?_
      rintro e w6 ⟨rfl, hfx⟩
      have HF6 := Lib.hid (HF4.out.transNo hfx)
      have H6 := Lib.hid (H4.out.no hfx)
      clear hfx
      go_wp2
      go_ret2
      exact ⟨by rw [HDn.out]; rfl, HF6.out, by rw [HDn.out, HUp.out]; exact H6.out⟩
    · go_wp2
      go_ret2
      exact ⟨by simp, HF4.out, by rw [HDn.out, HUp.out]; exact H4.out⟩
end
#print axioms cloAdd_any
end Go.Proofs.YtfpggeiphbekoaaGreatDoor

namespace Go.Proofs.YtfpggeiphbekoaaGreatDoor
set_option linter.unusedVariables false

/-! the order of edges -/
def lessP (a b : Int × Int) : Bool := decide (a.1 < b.1) || (a.1 == b.1 && decide (a.2 < b.2))
theorem lessP_iff {a b : Int × Int} : lessP a b = true ↔ a.1 < b.1 ∨ (a.1 = b.1 ∧ a.2 < b.2) := by simp [lessP]
theorem lessP_irr (a : Int × Int) : lessP a a = false := by
  rw [Bool.eq_false_iff]; intro h; rw [lessP_iff] at h; omega
theorem lessP_trans {a b c : Int × Int} (h : lessP a b = true) (h' : lessP b c = true) : lessP a c = true := by
  rw [lessP_iff] at *; omega
theorem lessP_total {a b : Int × Int} (h : lessP a b = false) (hne : a ≠ b) : lessP b a = true := by
  rw [Bool.eq_false_iff] at h
  rw [Ne, lessP_iff] at h
  rw [lessP_iff]
  have : ¬ (a.1 = b.1 ∧ a.2 = b.2) := fun e => hne (Prod.ext e.1 e.2)
  omega
def Srt (L : List (Int × Int)) : Prop := L.Pairwise fun a b => lessP a b = true
theorem srt_ext : ∀ {a b : List (Int × Int)}, Srt a → Srt b → (∀ x, x ∈ a ↔ x ∈ b) → a = b
  | [], [], _, _, _ => rfl
  | [], y :: ys, _, _, h => by have := (h y).2 (by simp); simp at this
  | x :: xs, [], _, _, h => by have := (h x).1 (by simp); simp at this
  | x :: xs, y :: ys, hx, hy, h => by
    obtain ⟨hx1, hx2⟩ := List.pairwise_cons.1 hx
    obtain ⟨hy1, hy2⟩ := List.pairwise_cons.1 hy
    have e : x = y := by
      apply Classical.byContradiction
      intro hne
      have h1 : y ∈ xs := by
        rcases List.mem_cons.1 ((h y).2 (by simp)) with e | e
        · exact absurd e.symm hne
        · exact e
      have h2 : x ∈ ys := by
        rcases List.mem_cons.1 ((h x).1 (by simp)) with e | e
        · exact absurd e hne
        · exact e
      have := lessP_trans (hx1 y h1) (hy1 x h2)
      rw [lessP_irr] at this; cases this
    subst e
    have nx : x ∉ xs := fun hm => by have := hx1 x hm; rw [lessP_irr] at this; cases this
    have ny : x ∉ ys := fun hm => by have := hy1 x hm; rw [lessP_irr] at this; cases this
    rw [srt_ext hx2 hy2 fun z => ?_]
    have := h z
    simp only [List.mem_cons] at this
    constructor
    · intro hz
      rcases this.1 (.inr hz) with e | e
      · subst e; exact absurd hz nx
      · exact e
    · intro hz
      rcases this.2 (.inr hz) with e | e
      · subst e; exact absurd hz ny
      · exact e
/-- put into its place -/
def insR (q : Int × Int) : List (Int × Int) → List (Int × Int)
  | [] => [q]
  | x :: xs => if lessP q x = true then q :: x :: xs else x :: insR q xs
theorem mem_insR {q z : Int × Int} : ∀ {L : List (Int × Int)}, z ∈ insR q L ↔ z = q ∨ z ∈ L
  | [] => by simp [insR]
  | x :: xs => by
    unfold insR
    split
    · simp
    · simp only [List.mem_cons, mem_insR (L := xs)]
      constructor
      · rintro (h | h | h) <;> simp [h]
      · rintro (h | h | h) <;> simp [h]
theorem srt_insR {q : Int × Int} : ∀ {L : List (Int × Int)}, Srt L → q ∉ L → Srt (insR q L)
  | [], _, _ => by simp [insR, Srt]
  | x :: xs, h, hq => by
    obtain ⟨h1, h2⟩ := List.pairwise_cons.1 h
    unfold insR
    split
    · rename_i hl
      refine List.pairwise_cons.2 ⟨fun z hz => ?_, h⟩
      rcases List.mem_cons.1 hz with e | e
      · subst e; exact hl
      · exact lessP_trans hl (h1 z e)
    · rename_i hl
      refine List.pairwise_cons.2 ⟨fun z hz => ?_, srt_insR h2 (fun e => hq (List.mem_cons_of_mem _ e))⟩
      rcases mem_insR.1 hz with e | e
      · subst e
        exact lessP_total (by simpa using hl) (fun e => hq (by simp [e]))
      · exact h1 z e
/-- the reference's loop: what has been put out, and whether the edge is among it -/
def insStep (q : Int × Int) (s : List (Int × Int) × Bool) (x : Int × Int) : List (Int × Int) × Bool := if (!s.2 && lessP q x) = true then (s.1 ++ [q, x], true) else (s.1 ++ [x], s.2)
def insSt (q : Int × Int) (L : List (Int × Int)) : List (Int × Int) × Bool := L.foldl (insStep q) ([], false)
theorem insSt_take {q : Int × Int} {L : List (Int × Int)} {k : Nat} (h : k < L.length) : insSt q (L.take (k + 1)) = insStep q (insSt q (L.take k)) (gt L k) := by
  unfold insSt; rw [take_gt h, List.foldl_append]; rfl
theorem insSt_true (q : Int × Int) : ∀ (L acc : List (Int × Int)), L.foldl (insStep q) (acc, true) = (acc ++ L, true)
  | [], acc => by simp
  | x :: xs, acc => by
    rw [List.foldl_cons, show insStep q (acc, true) x = (acc ++ [x], true) from rfl, insSt_true q xs]
    simp
theorem insSt_false (q : Int × Int) : ∀ (L acc : List (Int × Int)), (let s := L.foldl (insStep q) (acc, false); if s.2 = true then s.1 else s.1 ++ [q]) = acc ++ insR q L
  | [], acc => by simp [insR]
  | x :: xs, acc => by
    rw [List.foldl_cons]
    unfold insR
    by_cases h : lessP q x = true
    · rw [show insStep q (acc, false) x = (acc ++ [q, x], true) by simp [insStep, h], insSt_true]
      simp [h]
    · rw [show insStep q (acc, false) x = (acc ++ [x], false) by simp [insStep, h], insSt_false q xs]
      simp [h]
theorem insSt_all (q : Int × Int) (L : List (Int × Int)) : (if (insSt q L).2 = true then (insSt q L).1 else (insSt q L).1 ++ [q]) = insR q L := by
  have := insSt_false q L []
  simp only [List.nil_append] at this
  exact this
theorem insSt_len (q : Int × Int) : ∀ (L acc : List (Int × Int)) (d : Bool), (L.foldl (insStep q) (acc, d)).1.length ≤ acc.length + L.length + (if d = true then 0 else 1)
  | [], acc, d => by simp
  | x :: xs, acc, d => by
    rw [List.foldl_cons]
    unfold insStep
    split
    · rename_i h
      have hd : d = false := by cases d <;> simp_all
      subst hd
      refine Nat.le_trans (insSt_len q xs _ _) ?_
      simp; omega
    · refine Nat.le_trans (insSt_len q xs _ _) ?_
      simp; omega
def refAddL (L : List (Int × Int)) (q : Int × Int) : List (Int × Int) := if q ∈ L then L else insR q L
theorem refAddL_len (L : List (Int × Int)) (q : Int × Int) : (refAddL L q).length ≤ L.length + 1 := by
  unfold refAddL
  split
  · omega
  · rw [← insSt_all]
    have := insSt_len q L [] false
    unfold insSt
    cases hd : (L.foldl (insStep q) ([], false)).2
    · have h2 : insR q L = _ := (insSt_all q L).symm
      have h3 : (insR q L).length = L.length + 1 := by
        clear h2 hd this
        induction L with
        | nil => rfl
        | cons x xs ih => unfold insR; split <;> simp_all
      have h4 := insSt_all q L
      unfold insSt at h4
      rw [hd] at h4
      rw [h4]; omega
    · simp only [if_true]; simp at this; omega

/-! the edges of the sets, in order -/
theorem mem_edgesTo {n m : Nat} {ed : Nat → Nat} {a b : Int} : (a, b) ∈ edgesTo n ed m ↔ ∃ i j : Nat, a = i ∧ b = j ∧ i < m ∧ j < n ∧ (ed i).testBit j = true := by
  unfold edgesTo
  simp only [List.mem_flatMap, List.mem_range, List.mem_map, Prod.mk.injEq]
  constructor
  · rintro ⟨i, hi, x, hx, rfl, rfl⟩
    obtain ⟨j, rfl, h1, h2⟩ := mem_allX.1 hx
    exact ⟨i, j, rfl, rfl, hi, h1, h2⟩
  · rintro ⟨i, j, rfl, rfl, h1, h2, h3⟩
    exact ⟨i, h1, _, mem_allX.2 ⟨j, rfl, h2, h3⟩, rfl, rfl⟩
theorem allX_sorted (n X : Nat) : (allX n X).Pairwise fun a b => a < b := by
  unfold allX
  rw [List.pairwise_map]
  refine (List.Pairwise.filter _ List.pairwise_lt_range).imp fun h => by omega
theorem srt_edgesTo (n : Nat) (ed : Nat → Nat) : ∀ m, Srt (edgesTo n ed m)
  | 0 => by simp [edgesTo, Srt]
  | m + 1 => by
    rw [edgesTo_succ]
    refine List.pairwise_append.2 ⟨srt_edgesTo n ed m, ?_, ?_⟩
    · rw [List.pairwise_map]
      exact (allX_sorted n (ed m)).imp fun {a b} h => (lessP_iff (a := ((m : Int), a)) (b := ((m : Int), b))).2 (.inr ⟨rfl, h⟩)
    · rintro ⟨a, b⟩ ha y hy
      obtain ⟨i, j, rfl, rfl, h1, _⟩ := mem_edgesTo.1 ha
      obtain ⟨z, _, rfl⟩ := List.mem_map.1 hy
      exact lessP_iff.2 (.inl (by show (i : Int) < (m : Int); omega))
theorem addX_testBit {n X t j : Nat} (ht : t < n) : (addX n X (t : Int)).testBit j = (X.testBit j || decide (t = j)) := by
  unfold addX
  rw [if_pos (by simp [mayB, ht]), Int.toNat_natCast, ins_testBit]
theorem edges_add {n f t : Nat} {ed : Nat → Nat} (hf : f < n) (ht : t < n) : refAddL (edgesTo n ed n) ((f : Int), (t : Int)) = edgesTo n (addEd n ed f t) n := by
  have hm : ∀ a b : Int, (a, b) ∈ edgesTo n (addEd n ed f t) n ↔ (a, b) = ((f : Int), (t : Int)) ∨ (a, b) ∈ edgesTo n ed n := by
    intro a b
    rw [mem_edgesTo, mem_edgesTo]
    constructor
    · rintro ⟨i, j, rfl, rfl, h1, h2, h3⟩
      unfold addEd at h3
      by_cases e : i = f
      · subst e
        rw [if_pos rfl, addX_testBit ht] at h3
        simp only [Bool.or_eq_true, decide_eq_true_eq] at h3
        rcases h3 with h3 | h3
        · exact .inr ⟨i, j, rfl, rfl, h1, h2, h3⟩
        · subst h3; exact .inl rfl
      · rw [if_neg e] at h3
        exact .inr ⟨i, j, rfl, rfl, h1, h2, h3⟩
    · rintro (h | ⟨i, j, rfl, rfl, h1, h2, h3⟩)
      · simp only [Prod.mk.injEq] at h
        obtain ⟨rfl, rfl⟩ := h
        exact ⟨f, t, rfl, rfl, hf, ht, by unfold addEd; rw [if_pos rfl, addX_testBit ht]; simp⟩
      · refine ⟨i, j, rfl, rfl, h1, h2, ?_⟩
        unfold addEd
        by_cases e : i = f
        · subst e; rw [if_pos rfl, addX_testBit ht, h3]; rfl
        · rw [if_neg e]; exact h3
  unfold refAddL
  split
  · rename_i hin
    refine srt_ext (srt_edgesTo _ _ _) (srt_edgesTo _ _ _) fun ⟨a, b⟩ => ?_
    rw [hm]
    constructor
    · exact .inr
    · rintro (h | h)
      · rw [h]; exact hin
      · exact h
  · rename_i hin
    refine srt_ext (srt_insR (srt_edgesTo _ _ _) hin) (srt_edgesTo _ _ _) fun ⟨a, b⟩ => ?_
    rw [hm, mem_insR]

/-! the sets hold what they should -/
def edgeP (L : List (Int × Int)) : Nat → Nat → Prop := fun i j => ((i : Int), (j : Int)) ∈ L
structure CloOk (n : Nat) (dn up ed : Nat → Nat) : Prop where
  dn : ∀ i j, i < n → j < n → ((dn i).testBit j = true ↔ Way (edgeP (edgesTo n ed n)) i j)
  up : ∀ i j, i < n → j < n → ((up j).testBit i = true ↔ Way (edgeP (edgesTo n ed n)) i j)
theorem edgeP_lt {n : Nat} {ed : Nat → Nat} (i j : Nat) (h : edgeP (edgesTo n ed n) i j) : i < n ∧ j < n := by
  obtain ⟨a, b, h1, h2, h3, h4, _⟩ := mem_edgesTo.1 h
  omega
theorem edgeP_iff {n i j : Nat} {ed : Nat → Nat} : edgeP (edgesTo n ed n) i j ↔ i < n ∧ j < n ∧ (ed i).testBit j = true := by
  unfold edgeP
  rw [mem_edgesTo]
  constructor
  · rintro ⟨a, b, h1, h2, h3, h4, h5⟩
    obtain rfl : i = a := by omega
    obtain rfl : j = b := by omega
    exact ⟨h3, h4, h5⟩
  · rintro ⟨h3, h4, h5⟩
    exact ⟨i, j, rfl, rfl, h3, h4, h5⟩
theorem CloOk.start (n : Nat) : CloOk n (fun _ => 0) (fun _ => 0) (fun _ => 0) := by
  have e : ∀ i j, ¬ edgeP (edgesTo n (fun _ => 0) n) i j := fun i j h => by
    have := (edgeP_iff.1 h).2.2
    simp at this
  have hw : ∀ i j, ¬ Way (edgeP (edgesTo n (fun _ => 0) n)) i j := fun i j h => by
    obtain ⟨k, h1, _⟩ := h.first
    exact e _ _ h1
  exact ⟨fun i j _ _ => ⟨fun h => by simp at h, fun h => absurd h (hw i j)⟩, fun i j _ _ => ⟨fun h => by simp at h, fun h => absurd h (hw i j)⟩⟩
theorem ofX_one {n f : Nat} (hf : f < n) (j : Nat) : (ofX n [(f : Int)]).testBit j = decide (f = j) := by
  show (addX n 0 (f : Int)).testBit j = _
  rw [addX_testBit hf]; simp
theorem nearX_testBit {n f j : Nat} {m : Nat → Nat} (hf : f < n) (hj : j < n) : (nearX n m f).testBit j = true ↔ j = f ∨ (m f).testBit j = true := by
  unfold nearX
  rw [rawX_one, Nat.testBit_mod_two_pow, Nat.testBit_or, ofX_one hf]
  simp only [hj, decide_true, Bool.true_and, Bool.or_eq_true, decide_eq_true_eq]
  constructor
  · rintro (h | h)
    · exact .inl h.symm
    · exact .inr h
  · rintro (h | h)
    · exact .inl h.symm
    · exact .inr h
theorem joinM_testBit {n X Y i j : Nat} {M : Nat → Nat} (hi : i < n) (hj : j < n) : (joinM n Y (allX n X) M i).testBit j = true ↔ (M i).testBit j = true ∨ (X.testBit i = true ∧ Y.testBit j = true) := by
  unfold joinM
  by_cases h : (i : Int) ∈ allX n X
  · rw [if_pos h, Nat.testBit_mod_two_pow, Nat.testBit_or]
    obtain ⟨k, e, _, hk⟩ := mem_allX.1 h
    obtain rfl : i = k := by omega
    simp [hj, hk]
  · rw [if_neg h]
    have hx : ¬ X.testBit i = true := fun hb => h (mem_allX.2 ⟨i, rfl, hi, hb⟩)
    simp [hx]
theorem CloOk.add {n f t : Nat} {dn up ed : Nat → Nat} (h : CloOk n dn up ed) (hf : f < n) (ht : t < n) : CloOk n (addDn n dn up ed f t) (addUp n dn up ed f t) (addEd n ed f t) := by
  have he : ∀ i j, edgeP (edgesTo n (addEd n ed f t) n) i j ↔ addE (edgeP (edgesTo n ed n)) f t i j := by
    intro i j
    rw [edgeP_iff]
    unfold addE
    rw [edgeP_iff]
    unfold addEd
    constructor
    · rintro ⟨h1, h2, h3⟩
      by_cases e : i = f
      · subst e
        rw [if_pos rfl, addX_testBit ht] at h3
        simp only [Bool.or_eq_true, decide_eq_true_eq] at h3
        rcases h3 with h3 | h3
        · exact .inl ⟨h1, h2, h3⟩
        · exact .inr ⟨rfl, h3.symm⟩
      · rw [if_neg e] at h3; exact .inl ⟨h1, h2, h3⟩
    · rintro (⟨h1, h2, h3⟩ | ⟨rfl, rfl⟩)
      · refine ⟨h1, h2, ?_⟩
        by_cases e : i = f
        · subst e; rw [if_pos rfl, addX_testBit ht, h3]; rfl
        · rw [if_neg e]; exact h3
      · exact ⟨hf, ht, by rw [if_pos rfl, addX_testBit ht]; simp⟩
  have hw : ∀ i j, Way (edgeP (edgesTo n (addEd n ed f t) n)) i j ↔ Way (addE (edgeP (edgesTo n ed n)) f t) i j := fun i j => Way.congr he
  by_cases hc : ((ed f).testBit t || (dn f).testBit t) = true
  · have hway : Way (edgeP (edgesTo n ed n)) f t := by
      simp only [Bool.or_eq_true] at hc
      rcases hc with hc | hc
      · exact .one (edgeP_iff.2 ⟨hf, ht, hc⟩)
      · exact (h.dn f t hf ht).1 hc
    unfold addDn addUp
    rw [if_pos hc, if_pos hc]
    exact ⟨fun i j hi hj => by rw [hw, way_add_same hway]; exact h.dn i j hi hj, fun i j hi hj => by rw [hw, way_add_same hway]; exact h.up i j hi hj⟩
  · unfold addDn addUp
    rw [if_neg hc, if_neg hc]
    refine ⟨fun i j hi hj => ?_, fun i j hi hj => ?_⟩
    · rw [hw, way_add, joinM_testBit hi hj, nearX_testBit hf hi, nearX_testBit ht hj, h.dn i j hi hj, h.up i f hi hf, h.dn t j ht hj]
    · rw [hw, way_add, joinM_testBit hj hi, nearX_testBit hf hi, nearX_testBit ht hj, h.up i j hi hj, h.up i f hi hf, h.dn t j ht hj]
      constructor
      · rintro (h | ⟨h1, h2⟩)
        · exact .inl h
        · exact .inr ⟨h2, h1⟩
      · rintro (h | ⟨h1, h2⟩)
        · exact .inl h
        · exact .inr ⟨h2, h1⟩
#print axioms CloOk.add
#print axioms edges_add
end Go.Proofs.YtfpggeiphbekoaaGreatDoor

namespace Go.Proofs.YtfpggeiphbekoaaGreatDoor
set_option linter.unusedVariables false

/-- an edge that is needed: there is no way about -/
def needE (e : Nat → Nat → Prop) : Nat → Nat → Prop := fun i j => e i j ∧ ¬ ∃ k, e i k ∧ k ≠ j ∧ Way e k j
theorem countP_lt {p q : Nat → Bool} {l : List Nat} (h : ∀ x ∈ l, p x = true → q x = true) {y : Nat} (hy : y ∈ l) (h1 : p y = false) (h2 : q y = true) : l.countP p < l.countP q := by
  induction l with
  | nil => simp at hy
  | cons x l ih =>
    have hle : l.countP p ≤ l.countP q := List.countP_mono_left fun z hz hp => h z (List.mem_cons_of_mem _ hz) hp
    rcases List.mem_cons.1 hy with rfl | hy
    · rw [List.countP_cons_of_neg (by simp [h1]), List.countP_cons_of_pos h2]
      omega
    · have ih' := ih (fun z hz => h z (List.mem_cons_of_mem _ hz)) hy
      by_cases hp : p x = true
      · rw [List.countP_cons_of_pos hp, List.countP_cons_of_pos (h x (List.mem_cons_self ..) hp)]
        omega
      · rw [List.countP_cons_of_neg hp]
        by_cases hq : q x = true
        · rw [List.countP_cons_of_pos hq]; omega
        · rw [List.countP_cons_of_neg hq]; exact ih'
open Classical in
/-- how many nodes lie between two -/
noncomputable def midN (e : Nat → Nat → Prop) (n i j : Nat) : Nat := (List.range n).countP fun x => decide (Way e i x ∧ Way e x j)
section
variable {e : Nat → Nat → Prop} {n : Nat}
theorem mid_lt_left (hn : ∀ i j, e i j → i < n ∧ j < n) (hc : ∀ i, ¬ Way e i i) {i k j : Nat} (h1 : Way e i k) (h2 : Way e k j) : midN e n i k < midN e n i j := by
  classical
  unfold midN
  refine countP_lt (y := k) (fun x _ hx => ?_) (List.mem_range.2 (h1.lt hn).2) ?_ ?_
  · have hx := of_decide_eq_true hx
    exact decide_eq_true ⟨hx.1, hx.2.trans h2⟩
  · exact decide_eq_false fun q => hc k q.2
  · exact decide_eq_true ⟨h1, h2⟩
theorem mid_lt_right (hn : ∀ i j, e i j → i < n ∧ j < n) (hc : ∀ i, ¬ Way e i i) {i k j : Nat} (h1 : Way e i k) (h2 : Way e k j) : midN e n k j < midN e n i j := by
  classical
  unfold midN
  refine countP_lt (y := k) (fun x _ hx => ?_) (List.mem_range.2 (h1.lt hn).2) ?_ ?_
  · have hx := of_decide_eq_true hx
    exact decide_eq_true ⟨h1.trans hx.1, hx.2⟩
  · exact decide_eq_false fun q => hc k q.1
  · exact decide_eq_true ⟨h1, h2⟩
theorem way_need_of (hn : ∀ i j, e i j → i < n ∧ j < n) (hc : ∀ i, ¬ Way e i i) : ∀ (m i j : Nat), midN e n i j ≤ m → Way e i j → Way (needE e) i j := by
  intro m
  induction m using Nat.strongRecOn with
  | ind m ih =>
    intro i j hm h
    have split : ∀ k, Way e i k → Way e k j → Way (needE e) i j := fun k h1 h2 => by
      have l1 := mid_lt_left hn hc h1 h2
      have l2 := mid_lt_right hn hc h1 h2
      exact (ih (midN e n i k) (by omega) i k (Nat.le_refl _) h1).trans (ih (midN e n k j) (by omega) k j (Nat.le_refl _) h2)
    cases h with
    | one h1 =>
      by_cases hx : ∃ k, e i k ∧ k ≠ j ∧ Way e k j
      · obtain ⟨k, h2, _, h3⟩ := hx
        exact split k (.one h2) h3
      · exact .one ⟨h1, hx⟩
    | more h1 h2 => exact split _ (.one h1) h2
/-- the needed edges lead to the same -/
theorem way_need (hn : ∀ i j, e i j → i < n ∧ j < n) (hc : ∀ i, ¬ Way e i i) {i j : Nat} : Way (needE e) i j ↔ Way e i j :=
  ⟨fun h => h.mono fun _ _ q => q.1, fun h => way_need_of hn hc _ i j (Nat.le_refl _) h⟩
/-- without one of them they do not -/
theorem way_fewer {f t : Nat} (h : needE e f t) : ¬ Way (subE (needE e) f t) f t := fun hw => by
  obtain ⟨k, h1, h2⟩ := hw.first
  have hk : k ≠ t := fun q => h1.2 ⟨rfl, q⟩
  rcases h2 with rfl | h2
  · exact hk rfl
  · exact h.2 ⟨k, h1.1.1, hk, h2.mono fun _ _ q => q.1.1⟩
end
#print axioms way_need
#print axioms way_fewer
end Go.Proofs.YtfpggeiphbekoaaGreatDoor
