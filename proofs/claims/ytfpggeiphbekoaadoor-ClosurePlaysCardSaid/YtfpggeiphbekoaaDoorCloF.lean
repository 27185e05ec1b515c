/- closure: Add. -/
import Derived.Test.YtfpggeiphbekoaaDoorCloE
namespace Go.Proofs.YtfpggeiphbekoaaDoor
open Go.RowKit
set_option linter.unusedVariables false

/-- who leads to where an edge begins, and that node; whom it leads to -/
def nearX (n : Nat) (m : Nat → Nat) (f : Nat) : Nat := rawX 0 (ofX n [(f : Int)]) [m f] % 2 ^ n
def addEd (n : Nat) (ed : Nat → Nat) (f t : Nat) : Nat → Nat := fun j => if j = f then addX n (ed f) (t : Int) else ed j
def addDn (n : Nat) (dn up ed : Nat → Nat) (f t : Nat) : Nat → Nat := if ((ed f).testBit t || (dn f).testBit t) = true then dn else joinM n (nearX n dn t) (allX n (nearX n up f)) dn
def addUp (n : Nat) (dn up ed : Nat → Nat) (f t : Nat) : Nat → Nat := if ((ed f).testBit t || (dn f).testBit t) = true then up else joinM n (nearX n up f) (allX n (nearX n dn t)) up
theorem ofP_in {c : FC} {n f : Nat} (h : f < n) : ofP c n (f : Int) = some ⟨c.B f, 0, none⟩ := by unfold ofP; rw [if_pos (by omega)]; rfl
theorem ofP_out {c : FC} {n : Nat} {i : Int} (h : ¬ (0 ≤ i ∧ i < n)) : ofP c n i = none := by unfold ofP; rw [if_neg h]
theorem SetP.in {w : World} {D : Nat → Prop} {b n X : Nat} (h : SetP w D (some ⟨b, 0, none⟩) n X) : SetIn w D b n X := by
  rcases h with ⟨h, _⟩ | ⟨b', h, h'⟩
  · simp at h
  · simp only [Option.some.injEq, Addr.mk.injEq, and_true] at h
    subst h; exact h'
theorem SlV.new (w : World) (e : TypeId) (cs : Array Value) (size n : Nat) (h : cs.size = n * size) (hn : n ≤ maxLen) :
    SlV (w.alloc (.cells cs e)) (fun k => w.heap.size ≤ k) (.slice (some ⟨w.heap.size, 0, none⟩) n n) size n cs.toList := by
  refine ⟨_, n, rfl, Nat.le_refl _, hn, by simpa using h, by simp, .inr ⟨w.heap.size, 0, rfl, Nat.le_refl _, fun i hi => ?_⟩⟩
  have hi' : i < cs.size := by simpa using hi
  simp [hi']
section
variable {w w' : World} {D S : Nat → Prop} {n : Nat} {dn up ed : Nat → Nat} {k : CC}
theorem Clo.put2 {f X : Nat} (h : Clo w D n dn up ed k) (hf : f < n) (hfx : Fx (k.c2.Ds f) w w') (hs : SetIn w' (k.c2.Ds f) (k.c2.B f) n X) : Clo w' D n dn up (fun j => if j = f then X else ed j) k := by
  have hs2 : ∀ x, k.c2.Ds f x → k.D2 x := h.f2.sD f
  exact ⟨hfx.cell' h.v0 (fun e => h.nb.2.2 (hs2 _ e)), hfx.cell' h.v1 (fun e => h.nb.2.2 (hs2 _ e)), hfx.cell' h.v2 (fun e => h.nb.2.2 (hs2 _ e)), h.f0.keep hfx fun x hx e => h.d02 x hx (hs2 x e), h.f1.keep hfx fun x hx e => h.d12 x hx (hs2 x e), h.f2.put hf hfx hs,
    h.d01, h.d02, h.d12, h.nb, h.s0, h.s1, h.s2, h.sb, h.le⟩
theorem Clo.put0 {dn' : Nat → Nat} (h : Clo w D n dn up ed k) (hfx : Fx k.D0 w w') (hs : Fam w' k.D0 n dn' k.c0) : Clo w' D n dn' up ed k :=
  ⟨hfx.cell' h.v0 h.nb.1, hfx.cell' h.v1 h.nb.1, hfx.cell' h.v2 h.nb.1, hs, h.f1.keep hfx fun x hx e => h.d01 x e hx, h.f2.keep hfx fun x hx e => h.d02 x e hx, h.d01, h.d02, h.d12, h.nb, h.s0, h.s1, h.s2, h.sb, h.le⟩
theorem Clo.put1 {up' : Nat → Nat} (h : Clo w D n dn up ed k) (hfx : Fx k.D1 w w') (hs : Fam w' k.D1 n up' k.c1) : Clo w' D n dn up' ed k :=
  ⟨hfx.cell' h.v0 h.nb.2.1, hfx.cell' h.v1 h.nb.2.1, hfx.cell' h.v2 h.nb.2.1, h.f0.keep hfx fun x hx e => h.d01 x hx e, hs, h.f2.keep hfx fun x hx e => h.d12 x e hx, h.d01, h.d02, h.d12, h.nb, h.s0, h.s1, h.s2, h.sb, h.le⟩
theorem cloAdd_no (h : Clo w D n dn up ed k) (f t : Int) (hft : ¬ (0 ≤ f ∧ f < n) ∨ ¬ (0 ≤ t ∧ t < n)) :
    Calls Tryd.prog 14 #[.pointer (some ⟨k.b, 0, none⟩), .int .i64 f, .int .i64 t] w fun e w' => e = .returned (.tuple #[.bool false, .int .i64 130]) ∧ Fx No w w' := by
  have H := Lib.hid h
  have v2 := h.v2
  clear h
  by_cases hf : 0 ≤ f ∧ f < n
  · have ht : ¬ (0 ≤ t ∧ t < n) := by rcases hft with h | h
                                      · exact absurd hf h
                                      · exact h
    obtain ⟨F, rfl⟩ := Int.eq_ofNat_of_zero_le hf.1
    have hF : F < n := by omega
    clear hft hf
    go_enter Tryd.func14, Tryd.ntmps14
    go_wp2_with fail
    refine (rowsOf_any H.out.f2 (F : Int)).mono ?_
    rintro e w1 ⟨rfl, hf⟩
    have v2' := hf.cell' v2 (fun h => h)
    have HF := Lib.hid hf
    rw [ofP_in hF]
    clear hf
    go_wp2_with fail
    refine (rowsOf_any (H.out.no HF.out).f2 t).mono ?_
    rintro e w2 ⟨rfl, hf⟩
    have HF2 := Lib.hid (HF.out.trans hf)
    rw [ofP_out ht]
    clear hf
    go_wp2
    go_ret2
    exact ⟨rfl, HF2.out⟩
  · go_enter Tryd.func14, Tryd.ntmps14
    go_wp2_with fail
    refine (rowsOf_any H.out.f2 f).mono ?_
    rintro e w1 ⟨rfl, hf'⟩
    have HF := Lib.hid hf'
    rw [ofP_out hf]
    clear hf'
    go_wp2
    go_ret2
    exact ⟨rfl, HF.out⟩
set_option maxRecDepth 100000 in
set_option maxHeartbeats 4000000 in
theorem cloAdd_any (h : Clo w D n dn up ed k) (hD : ∀ x, D x → x < w.heap.size) (hT : TabOk w) (hTD : ¬ D 0) {f t : Nat} (hf : f < n) (ht : t < n) :
    Calls Tryd.prog 14 #[.pointer (some ⟨k.b, 0, none⟩), .int .i64 (f : Int), .int .i64 (t : Int)] w fun e w' =>
      e = .returned (.tuple #[.bool (!cycB n dn && cycB n (addDn n dn up ed f t)), .int .i64 0]) ∧ Fx D w w' ∧ Clo w' D n (addDn n dn up ed f t) (addUp n dn up ed f t) (addEd n ed f t) k := by
  have H := Lib.hid h
  have HD := Lib.hid hD
  have HT := Lib.hid hT
  have HTD := Lib.hid hTD
  have hle := h.le
  have v2 := h.v2
  obtain ⟨cy, hcy⟩ : ∃ x, x = cycB n dn := ⟨_, rfl⟩
  rw [← hcy]
  have HCy := Lib.hid hcy
  obtain ⟨a2, p2, hv2, hc2⟩ := h.f2.facts
  have HV2 := Lib.hid hv2
  obtain ⟨g2, o2, rfl, hG2, hcell2⟩ := hc2 f hf
  have HG2 := Lib.hid hG2
  have HDn : Hid (addDn n dn up ed f t = if ((ed f).testBit t || (dn f).testBit t) = true then dn else joinM n (nearX n dn t) (allX n (nearX n up f)) dn) := Lib.hid rfl
  have HUp : Hid (addUp n dn up ed f t = if ((ed f).testBit t || (dn f).testBit t) = true then up else joinM n (nearX n up f) (allX n (nearX n dn t)) up) := Lib.hid rfl
  have HEd : Hid (addEd n ed f t = fun j => if j = f then addX n (ed f) (t : Int) else ed j) := Lib.hid rfl
  have hAB : addB n (ed f) (t : Int) = !(ed f).testBit t := by simp [addB, mayB, hasB_nat, ht]
  have HAB := Lib.hid hAB
  have hfn : (f : Int) < (n : Int) := by omega
  clear h hD hT hTD hcy hc2 hAB hv2 hG2
  go_enter Tryd.func14, Tryd.ntmps14
  go_wp2_with fail
  refine (rowsOf_any H.out.f2 (f : Int)).mono ?_
  rintro e w1 ⟨rfl, hfx⟩
  have v2' := hfx.cell' v2 (fun h => h)
  have HF1 := Lib.hid hfx
  rw [ofP_in hf]
  clear hfx
  go_wp2_with fail
  refine (rowsOf_any (H.out.no HF1.out).f2 (t : Int)).mono ?_
  rintro e w2 ⟨rfl, hfx⟩
  have HF2 := Lib.hid (HF1.out.trans hfx)
  rw [ofP_in ht]
  clear hfx v2 v2'
  go_wp2_with fail
  refine (cyclic_any (H.out.no HF2.out)).mono ?_
  rintro e w3 ⟨rfl, hfx⟩
  rw [← HCy.out]
  have HF3 := Lib.hid (HF2.out.trans hfx)
  have H3 := Lib.hid (H.out.no HF3.out)
  have v2 : w3.cell? ⟨k.b, 2, none⟩ = some (.slice (some ⟨g2, o2, none⟩) n p2) := by rw [← HV2.out]; exact H3.out.v2
  have hcell3 := HF3.out.cell' hcell2 (fun h => h)
  clear hfx hcell2
  go_wp2_with fail
  refine (add_any (H3.out.f2.set f hf).p (t : Int)).mono ?_
  rintro e w4 ⟨rfl, hfx, hs⟩
  have H4 : Hid (Clo w4 D n dn up (addEd n ed f t) k) := Lib.hid (by rw [HEd.out]; exact H3.out.put2 hf hfx hs.in)
  have HF4 : Hid (Fx D w w4) := Lib.hid (HF3.out.no.trans (hfx.mono fun x _ hx => H.out.s2 x (H.out.f2.sD f x hx)))
  rw [HAB.out]
  clear hfx hs v2 hcell3
  obtain ⟨te, hte⟩ : ∃ x, x = (ed f).testBit t := ⟨_, rfl⟩
  rw [← hte] at HDn HUp ⊢
  clear hte
  cases te
  · rw [Bool.not_false]
    go_wp2_with fail
    refine (leads_any H4.out (f : Int) (t : Int)).mono ?_
    rintro e w5 ⟨rfl, hfx⟩
    rw [leadsB_nat hf]
    have H5 := Lib.hid (H4.out.no hfx)
    have HF5 := Lib.hid (HF4.out.transNo hfx)
    clear hfx
    obtain ⟨td, htd⟩ : ∃ x, x = (dn f).testBit t := ⟨_, rfl⟩
    rw [← htd] at HDn HUp ⊢
    clear htd
    cases td
    · rw [Bool.false_or, if_neg (by simp)] at HDn HUp
      go_wp2_with fail
      refine (cloLen_any H5.out).mono ?_
      rintro e w6 ⟨rfl, rfl⟩
      have hz5 := HF5.out.size
      go_wp2_with fail
      refine (of_any (n : Int) (ints_lit w5 [(f : Int)] (by unfold maxLen; simp))).mono ?_
      rintro e w6 ⟨b1, rfl, hfx, hs⟩
      rw [newN_nat (by omega), World.size_alloc] at hs
      have HS1 := Lib.hid hs
      have HF6 := Lib.hid ((HF5.out.alloc _).transNo hfx)
      have H6 := Lib.hid ((H5.out.no ((Fx.refl No _).alloc _)).no hfx)
      have hz6 := hfx.size
      simp only [World.size_alloc] at hz6
      clear hfx hs
      go_wp2_with fail
      refine (of_any (n : Int) (ints_lit w6 [(t : Int)] (by unfold maxLen; simp))).mono ?_
      rintro e w7 ⟨b2, rfl, hfx, hs⟩
      rw [newN_nat (by omega), World.size_alloc] at hs
      have HS2 := Lib.hid hs
      have HS1 := Lib.hid ((HS1.out.no ((Fx.refl No _).alloc _)).no hfx)
      have HF7 := Lib.hid ((HF6.out.alloc _).transNo hfx)
      have H7 := Lib.hid ((H6.out.no ((Fx.refl No _).alloc _)).no hfx)
      have hz7 := hfx.size
      simp only [World.size_alloc] at hz7
      have v1 := H7.out.v1
      clear hfx hs
      go_wp2_with fail
      refine (rowsOf_any H7.out.f1 (f : Int)).mono ?_
      rintro e w8 ⟨rfl, hfx⟩
      rw [ofP_in hf]
      have HS1 := Lib.hid (HS1.out.no hfx)
      have HS2 := Lib.hid (HS2.out.no hfx)
      have HF8 := Lib.hid (HF7.out.transNo hfx)
      have H8 := Lib.hid (H7.out.no hfx)
      have hz8 := hfx.size
      clear hfx v1
      obtain ⟨s1, hs1⟩ : ∃ s, s = w5.heap.size + 1 := ⟨_, rfl⟩
      obtain ⟨s2, hs2⟩ : ∃ s, s = w6.heap.size := ⟨_, rfl⟩
      obtain ⟨s3, hs3⟩ : ∃ s, s = w7.heap.size := ⟨_, rfl⟩
      rw [← hs1, ← hs2] at HS1
      rw [← hs2, ← hs3] at HS2
      go_wp2_with fail
      refine (join_any (L := [(some ⟨k.c1.B f, 0, none⟩, up f)]) (E := fun x => ¬ Iv s1 s2 x) (HS1.out.no ((Fx.refl No _).alloc _)) ((SlV.new w8 82 #[.pointer (some ⟨k.c1.B f, 0, none⟩)] 1 1 rfl (by unfold maxLen; omega)).mono fun x hx hi => by have := hi.2; omega) (by
        intro z hz
        rw [List.mem_singleton] at hz
        subst hz
        exact .inr ⟨n, (((H8.out.no ((Fx.refl No _).alloc _)).f1.set f hf).mono fun x hx hi => by have h1 := HD.out x (H.out.s1 x (H.out.f1.sD f x hx)); have := hi.1; omega).p⟩) (fun x hx => hx) (by simp)).mono ?_
      rintro e w9 ⟨rfl, hfx, hs⟩
      have HS1 : Hid (SetIn w9 (Iv s1 s2) b1 n (nearX n up f)) := Lib.hid hs
      have HS2 := Lib.hid ((HS2.out.no ((Fx.refl No _).alloc _)).keep hfx (Iv.disj (.inr (by omega))))
      have HF9 : Hid (Fx D w w9) := Lib.hid ((HF8.out.alloc _).trans' hfx fun j hj hl => by have := hj.1; omega)
      have H9 := Lib.hid ((H8.out.no ((Fx.refl No _).alloc _)).keep hfx fun x hx hi => by have h1 := HD.out x hx; have := hi.1; omega)
      have hz9 := hfx.size
      simp only [World.size_alloc] at hz9
      have v0 := H9.out.v0
      clear hfx hs
      go_wp2_with fail
      refine (rowsOf_any H9.out.f0 (t : Int)).mono ?_
      rintro e w10 ⟨rfl, hfx⟩
      rw [ofP_in ht]
      have HS1 := Lib.hid (HS1.out.no hfx)
      have HS2 := Lib.hid (HS2.out.no hfx)
      have HF10 := Lib.hid (HF9.out.transNo hfx)
      have H10 := Lib.hid (H9.out.no hfx)
      have hz10 := hfx.size
      clear hfx v0
      go_wp2_with fail
      refine (join_any (L := [(some ⟨k.c0.B t, 0, none⟩, dn t)]) (E := fun x => ¬ Iv (s2 + 1) s3 x) (HS2.out.no ((Fx.refl No _).alloc _)) ((SlV.new w10 82 #[.pointer (some ⟨k.c0.B t, 0, none⟩)] 1 1 rfl (by unfold maxLen; omega)).mono fun x hx hi => by have := hi.2; omega) (by
        intro z hz
        rw [List.mem_singleton] at hz
        subst hz
        exact .inr ⟨n, (((H10.out.no ((Fx.refl No _).alloc _)).f0.set t ht).mono fun x hx hi => by have h1 := HD.out x (H.out.s0 x (H.out.f0.sD t x hx)); have := hi.1; omega).p⟩) (fun x hx => hx) (by simp)).mono ?_
      rintro e w11 ⟨rfl, hfx, hs⟩
      have HS2 : Hid (SetIn w11 (Iv (s2 + 1) s3) b2 n (nearX n dn t)) := Lib.hid hs
      have HS1 := Lib.hid ((HS1.out.no ((Fx.refl No _).alloc _)).keep hfx (Iv.disj (.inl (by omega))))
      have HF11 : Hid (Fx D w w11) := Lib.hid ((HF10.out.alloc _).trans' hfx fun j hj hl => by have := hj.1; omega)
      have H11 := Lib.hid ((H10.out.no ((Fx.refl No _).alloc _)).keep hfx fun x hx hi => by have h1 := HD.out x hx; have := hi.1; omega)
      have hz11 := hfx.size
      simp only [World.size_alloc] at hz11
      have v0 := H11.out.v0
      have hT11 := HT.out.keep HF11.out HTD.out
      have HT11 := Lib.hid hT11
      clear hfx hs hT11
      go_wp2_with fail
      refine (rowsJoin_any (E2 := fun x => w.heap.size ≤ x) ((H11.out.no ((Fx.refl No _).alloc _)).f0) ((HS1.out.no ((Fx.refl No _).alloc _)).p) (Nat.le_refl n) ((SlV.new w11 82 #[.pointer (some ⟨b2, 0, none⟩)] 1 1 rfl (by unfold maxLen; omega)).mono fun x hx => by omega)
        (((HS2.out.no ((Fx.refl No _).alloc _)).mono fun x hx => by have := hx.1; omega).p) (fun x hx hd => by have := HD.out x (H.out.s0 x hd); omega) (HT11.out.keep ((Fx.refl No _).alloc _) (fun h => h))).mono ?_
      rintro e w12 ⟨rfl, hfx, hfam⟩
      have H12 := Lib.hid ((H11.out.no ((Fx.refl No _).alloc _)).put0 hfx hfam)
      have HF12 : Hid (Fx D w w12) := Lib.hid ((HF11.out.alloc _).trans (hfx.mono fun x _ hx => H.out.s0 x hx))
      have HS1 := Lib.hid ((HS1.out.no ((Fx.refl No _).alloc _)).keep hfx fun x hx hd => by have h1 := HD.out x (H.out.s0 x hd); have := hx.1; omega)
      have HS2 := Lib.hid ((HS2.out.no ((Fx.refl No _).alloc _)).keep hfx fun x hx hd => by have h1 := HD.out x (H.out.s0 x hd); have := hx.1; omega)
      have hz12 := hfx.size
      simp only [World.size_alloc] at hz12
      have v1 := H12.out.v1
      have HT12 := Lib.hid (HT.out.keep HF12.out HTD.out)
      clear hfx hfam v0
      go_wp2_with fail
      refine (rowsJoin_any (E2 := fun x => w.heap.size ≤ x) ((H12.out.no ((Fx.refl No _).alloc _)).f1) ((HS2.out.no ((Fx.refl No _).alloc _)).p) (Nat.le_refl n) ((SlV.new w12 82 #[.pointer (some ⟨b1, 0, none⟩)] 1 1 rfl (by unfold maxLen; omega)).mono fun x hx => by omega)
        (((HS1.out.no ((Fx.refl No _).alloc _)).mono fun x hx => by have := hx.1; omega).p) (fun x hx hd => by have := HD.out x (H.out.s1 x hd); omega) (HT12.out.keep ((Fx.refl No _).alloc _) (fun h => h))).mono ?_
      rintro e w13 ⟨rfl, hfx, hfam⟩
      have H13 : Hid (Clo w13 D n (addDn n dn up ed f t) (addUp n dn up ed f t) (addEd n ed f t) k) := Lib.hid (by rw [HDn.out, HUp.out]; exact (H12.out.no ((Fx.refl No _).alloc _)).put1 hfx hfam)
      have HF13 : Hid (Fx D w w13) := Lib.hid ((HF12.out.alloc _).trans (hfx.mono fun x _ hx => H.out.s1 x hx))
      clear hfx hfam v1
      cases cy
      · go_wp2_with fail
        refine (cyclic_any H13.out).mono ?_
        rintro e w14 ⟨rfl, hfx⟩
        have HF14 := Lib.hid (HF13.out.transNo hfx)
        have H14 := Lib.hid (H13.out.no hfx)
        clear hfx
        go_wp2
        go_ret2
        exact ⟨rfl, HF14.out, H14.out⟩
      · go_wp2
        go_ret2
        exact ⟨by simp, HF13.out, H13.out⟩
    · rw [Bool.false_or, if_pos rfl] at HDn HUp
      cases cy
      · go_wp2_with fail
        refine (cyclic_any H5.out).mono ?_
        rintro e w6 ⟨rfl, hfx⟩
        have HF6 := Lib.hid (HF5.out.transNo hfx)
        have H6 := Lib.hid (H5.out.no hfx)
        clear hfx
        go_wp2
        go_ret2
        exact ⟨by rw [HDn.out]; rfl, HF6.out, by rw [HDn.out, HUp.out]; exact H6.out⟩
      · go_wp2
        go_ret2
        exact ⟨by simp, HF5.out, by rw [HDn.out, HUp.out]; exact H5.out⟩
  · rw [Bool.true_or, if_pos rfl] at HDn HUp
    cases cy
    · go_wp2_with fail
      refine (cyclic_any H4.out).mono ?_
      rintro e w6 ⟨rfl, hfx⟩
      have HF6 := Lib.hid (HF4.out.transNo hfx)
      have H6 := Lib.hid (H4.out.no hfx)
      clear hfx
      go_wp2
      go_ret2
      exact ⟨by rw [HDn.out]; rfl, HF6.out, by rw [HDn.out, HUp.out]; exact H6.out⟩
    · go_wp2
      go_ret2
      exact ⟨by simp, HF4.out, by rw [HDn.out, HUp.out]; exact H4.out⟩
end
#print axioms cloAdd_any
end Go.Proofs.YtfpggeiphbekoaaDoor
