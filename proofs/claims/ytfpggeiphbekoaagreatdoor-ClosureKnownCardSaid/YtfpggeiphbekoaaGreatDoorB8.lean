/- cycle: step, way: the least one of the shortest walks. | cycle: way: the least one of the shortest walks from a node. | cycle: node, Path, Far. | cycle: Through: a node's shortest closed walk. | cycle: Shortest: the shortest closed walk. -/
import Derived.Test.YtfpggeiphbekoaaGreatDoorB7
import Derived.Test.YtfpggeiphbekoaaGreatDoorB5
import Derived.Test.YtfpggeiphbekoaaGreatDoorA1

namespace Go.Proofs.YtfpggeiphbekoaaGreatDoor.Gr
open Go.RowKit
set_option linter.unusedVariables false

/-- a searcher: how far it is -/
structure SeV (w : World) (sb fg N : Nat) (fl : List Int) : Prop where
  s1 : w.cell? ⟨sb, 1, none⟩ = some (.slice (some ⟨fg, 0, none⟩) N N)
  far : CellsI w fg 0 fl
  len : fl.length = N
  ls : sb < w.heap.size
  lf : fg < w.heap.size
theorem SeV.keep {w w' : World} {S : Nat → Prop} {sb fg N : Nat} {fl : List Int} (h : SeV w sb fg N fl) (hf : Fx S w w') (h1 : ¬ S sb) (h2 : ¬ S fg) : SeV w' sb fg N fl :=
  ⟨hf.cell' h.s1 h1, h.far.keep hf h2, h.len, Nat.lt_of_lt_of_le h.ls hf.size, Nat.lt_of_lt_of_le h.lf hf.size⟩
theorem SeV.no {w w' : World} {sb fg N : Nat} {fl : List Int} (h : SeV w sb fg N fl) (hf : Fx No w w') : SeV w' sb fg N fl := h.keep hf (fun q => q) fun q => q
theorem SeV.at {w : World} {sb fg N : Nat} {fl : List Int} (h : SeV w sb fg N fl) {k : Nat} (hk : k < N) : w.cell? ⟨fg, k, none⟩ = some (.int .i64 (gF fl k)) := by
  have h1 := (h.far k (by rw [h.len]; exact hk)).1
  rw [Nat.zero_add, gF_gi (by rw [h.len]; exact hk)] at h1
  exact h1
theorem Sr.se {w ws : World} {sb fg b' n : Nat} {L : List Ed} {D' : Nat → Prop} {fl : List Int} (h : Sr w ws sb fg b' n L D' fl) (hn : 0 < n) : SeV ws sb fg n fl :=
  ⟨h.s1, h.far, h.len, World.block_lt_of_cell? ws _ h.s1, World.block_lt_of_cell? ws _ (h.far 0 (by rw [h.len]; exact hn)).1⟩
/-- the test that step makes -/
def farB (fl : List Int) (d : Int) (x : Ed) : Bool := gF fl x.t.toNat == d
theorem fIdx_find (p : Ed → Bool) : ∀ (l : List Ed) (k : Nat), l.any p = true → ∃ j, j < l.length ∧ fIdx p l k = ((k + j : Nat) : Int) ∧ gt l j = (l.find? p).getD noE ∧ p (gt l j) = true
  | [], k, h => by simp at h
  | x :: l, k, h => by
    by_cases hp : p x = true
    · exact ⟨0, by simp, by simp [fIdx, hp], by simp [gt, hp], by simpa [gt] using hp⟩
    · have hp' : p x = false := by simpa using hp
      rw [List.any_cons, hp', Bool.false_or] at h
      obtain ⟨j, h1, h2, h3, h4⟩ := fIdx_find p l (k + 1) h
      refine ⟨j + 1, by simp; omega, ?_, ?_, ?_⟩
      · rw [fIdx, hp', if_neg (by simp), h2]
        congr 1
        omega
      · rw [List.find?_cons, hp']
        simpa [gt] using h3
      · simpa [gt] using h4
section
variable {w w' : World} {D S T : Nat → Prop} {b N sb fg : Nat} {L : List Ed} {fl : List Int}
set_option maxRecDepth 100000 in
set_option maxHeartbeats 1000000 in
theorem step1_any {sp fp : Nat} {d : Int} (h : SeV w sb fg N fl) (hs : w.cell? ⟨sp, 0, none⟩ = some (.pointer (some ⟨sb, 0, none⟩))) (hd : w.cell? ⟨fp, 0, none⟩ = some (.int .i64 d)) (x : Ed) (hx : 0 ≤ x.t ∧ x.t < (N : Int)) (hN : N ≤ 70000) :
    Calls Tryz.prog 93 #[evE x, .pointer (some ⟨sp, 0, none⟩), .pointer (some ⟨fp, 0, none⟩)] w fun r w' => r = .returned (.bool (farB fl d x)) ∧ Fx No w w' := by
  have H := Lib.hid h
  obtain ⟨q0, q1⟩ := hx
  have hF : Fx No w (w.alloc (.cells #[.int .i64 x.f, .int .i64 x.t, .int .i64 x.l] 27)) := (Fx.refl _ _).alloc _
  have hs' := hF.cell' hs (fun q => q)
  have hd' := hF.cell' hd (fun q => q)
  have h1' := hF.cell' h.s1 (fun q => q)
  obtain ⟨t, ht⟩ := Int.eq_ofNat_of_zero_le q0
  have htN : t < N := by omega
  have h2' := hF.cell' (h.at htN) (fun q => q)
  have HF := Lib.hid hF
  have HB : Hid (farB fl d x = (gF fl t == d)) := Lib.hid (by unfold farB; rw [ht]; rfl)
  have q0' : (0 : Int) ≤ (t : Int) := by omega
  have q1' : (t : Int) < (N : Int) := by omega
  unfold evE
  rw [ht] at hF hs' hd' h1' h2' HF ⊢
  obtain ⟨z, hz⟩ : ∃ z, z = gF fl t := ⟨_, rfl⟩
  rw [← hz] at h2' HB
  rw [HB.out]
  clear h hs hd q0 q1 hF ht hz HB
  go_enter Tryz.func93, Tryz.ntmps93
  go_wp2
  go_quiet (fail)
  go_wp2
  go_ret
  exact ⟨rfl, HF.out.drewN _⟩
set_option maxRecDepth 100000 in
set_option maxHeartbeats 1000000 in
theorem indexStep_any {v : Value} {xs : List Ed} {c1 c2 : Value} {p : Ed → Bool} (h : EdsV w D v xs) (hC : ∀ W, Fx No w W → ∀ x ∈ xs, Calls Tryz.prog 93 #[evE x, c1, c2] W fun r w' => r = .returned (.bool (p x)) ∧ Fx No W w') :
    Calls Tryz.prog 87 #[v, .func (.func 93) #[] #[c1, c2]] w fun r w' => r = .returned (.int .i64 (fIdx p xs 0)) ∧ Fx No w w' := by
  have HC := Lib.hid hC
  obtain ⟨ao, cap, rfl, hcl, hcm, hc⟩ := EdsV.facts h
  have HX := Lib.hid hc
  have H0 : Hid (fIdx p xs 0 = fIdx p (xs.drop 0) 0) := Lib.hid (by simp)
  clear hC hc h
  go_enter Tryz.func87, Tryz.ntmps87
  go_wp2
  go_loopw [8] (fun i ws => ∃ k : Nat, i = .int .i64 k ∧ k ≤ xs.length ∧ Fx No w ws ∧ Hid (fIdx p xs 0 = fIdx p (xs.drop k) k)) (fun i _ => xs.length - (intOf i).toNat)
  case atStart => exact ⟨0, rfl, Nat.zero_le _, Fx.refl _ _, H0⟩
  case round =>
    obtain ⟨k, rfl, hk, hf, HK⟩ := hrel
    have HF := Lib.hid hf
    clear hf
    by_cases hlt : k < xs.length
    · obtain ⟨bb, oo, rfl, _, p0, p1, p2⟩ := HX.out k hlt
      have HS := Lib.hid (fIdx_drop p hlt)
      have hmem := gt_mem hlt
      obtain ⟨x, hx⟩ : ∃ x, x = gt xs k := ⟨_, rfl⟩
      rw [← hx] at p0 p1 p2 HS hmem
      have k0 := HF.out.cell' p0 (fun h => h)
      have k1 := HF.out.cell' p1 (fun h => h)
      have k2 := HF.out.cell' p2 (fun h => h)
      have CX : Hid (Calls Tryz.prog 93 #[.agg #[.int .i64 x.f, .int .i64 x.t, .int .i64 x.l], c1, c2] wr fun r w' => r = .returned (.bool (p x)) ∧ Fx No wr w') := Lib.hid (HC.out wr HF.out x hmem)
      have hk0 : (0 : Int) ≤ (k : Int) := by omega
      have hk1 : (k : Int) < (xs.length : Int) := by omega
      clear p0 p1 p2 hx
      obtain ⟨px, hpx⟩ : ∃ t, t = p x := ⟨_, rfl⟩
      rw [← hpx] at HS CX
      clear hpx
      go_wp2_with fail
      refine CX.out.mono ?_
      rintro r w1 ⟨rfl, hf⟩
      have HF1 := Lib.hid (HF.out.trans hf)
      clear hf CX
      cases px
      · go_wp2
        go_roundw
        case rel => exact ⟨k + 1, by go_num, by omega, HF1.out, Lib.hid (by rw [HK.out, HS.out]; simp)⟩
        case measure => simp [intOf]; omega
      · go_wp2
        go_ret
        refine ⟨?_, HF1.out⟩
        rw [HK.out, HS.out]; rfl
    · obtain rfl : k = xs.length := by omega
      go_wp2
      go_ret
      refine ⟨?_, HF.out⟩
      rw [HK.out]; simp [fIdx]
/-- the code's step, where there is one -/
theorem stepE_ok {far : Nat → Int} {n : Nat} {d : Int} (h : ∃ e ∈ outE L n, far e.t.toNat = d) : stepE L far n d ∈ outE L n ∧ far (stepE L far n d).t.toNat = d := by
  unfold stepE
  cases hf : (outE L n).find? fun e => decide (far e.t.toNat = d) with
  | none =>
    obtain ⟨e, he, h1⟩ := h
    have := List.find?_eq_none.1 hf e he
    exact absurd (decide_eq_true h1) this
  | some e =>
    have h1 := List.find?_some hf
    exact ⟨List.mem_of_find?_eq_some hf, by simpa using h1⟩
structure StW (w : World) (sb : Nat) (d : Int) (W : World) : Prop where
  fx : Fx No w W
  size : W.heap.size = w.heap.size + 3
  p0 : W.cell? ⟨w.heap.size, 0, none⟩ = some (.pointer (some ⟨sb, 0, none⟩))
  p1 : W.cell? ⟨w.heap.size + 1, 0, none⟩ = some (.int .i64 d)
  r : ∀ j, j < 3 → W.cell? ⟨w.heap.size + 1 + 1, j, none⟩ = some (.int .i64 0) ∧ W.frozen? ⟨w.heap.size + 1 + 1, j, none⟩ = false
theorem step_world (w : World) (sb : Nat) (d : Int) : StW w sb d (((w.alloc (.cells #[.pointer (some ⟨sb, 0, none⟩)] 112)).alloc (.cells #[.int .i64 d] 3)).alloc (.cells #[.int .i64 0, .int .i64 0, .int .i64 0] 27)) where
  fx := ((Fx.refl No w).alloc _ |>.alloc _ |>.alloc _)
  size := by rw [World.size_alloc, World.size_alloc, World.size_alloc]
  p0 := (((Fx.refl No _).alloc _).alloc _).cell' ((cell_newY (w := w) rfl).trans rfl) (fun q => q)
  p1 := ((Fx.refl No _).alloc _).cell' ((cell_newY (w := w.alloc _) (World.size_alloc _ _).symm).trans rfl) (fun q => q)
  r := fun j hj => by
    have hz : w.heap.size + 1 + 1 = ((w.alloc (.cells #[.pointer (some ⟨sb, 0, none⟩)] 112)).alloc (.cells #[.int .i64 d] 3)).heap.size := by rw [World.size_alloc, World.size_alloc]
    have hh := heap_alloc_new ((w.alloc (.cells #[.pointer (some ⟨sb, 0, none⟩)] 112)).alloc (.cells #[.int .i64 d] 3)) (.cells #[.int .i64 0, .int .i64 0, .int .i64 0] 27)
    rw [← hz] at hh
    refine ⟨?_, frozen_of_row _ _ _ _ _ hh⟩
    rw [cell_of_row _ _ _ _ _ _ hh]
    match j, hj with
    | 0, _ => rfl
    | 1, _ => rfl
    | 2, _ => rfl
set_option maxRecDepth 100000 in
set_option maxHeartbeats 2000000 in
theorem step_any (h : GraphV w D b N L) (hs : SeV w sb fg N fl) {n : Nat} (hn : n < N) {d : Int} (hex : ∃ e ∈ outE L n, gF fl e.t.toNat = d) :
    Calls Tryz.prog 77 #[.pointer (some ⟨sb, 0, none⟩), .pointer (some ⟨b, 0, none⟩), .int .i64 (n : Nat), .int .i64 d] w fun e w' => e = .returned (evE (stepE L (gF fl) n d)) ∧ Fx No w w' := by
  have H := Lib.hid h
  have HS := Lib.hid hs
  have HE := Lib.hid hex
  clear h hs hex
  go_enter Tryz.func77, Tryz.ntmps77
  go_wp2_with fail
  refine calls_hold _ (step_world w sb d) ?_
  rintro W0 ⟨hf0, hz0, hp0, hd0, hr0⟩
  have HF0 := Lib.hid hf0
  have HP0 := Lib.hid hp0
  have HD0 := Lib.hid hd0
  have HR0 := Lib.hid hr0
  have hR : rowI (outE L) N (n : Int) = outE L n := by
    unfold rowI
    rw [if_pos ⟨by omega, by omega⟩]
    rfl
  have CO := Lib.hid (gOut_any (H.out.no HF0.out) (n : Int))
  rw [hR] at CO
  clear hR hf0 hp0 hd0 hr0
  refine CO.out.mono ?_
  rintro e w1 ⟨v1, rfl, hf1, ho1⟩
  have HF1 := Lib.hid (HF0.out.trans hf1)
  have HO1 := Lib.hid ho1
  have HP1 := Lib.hid (hf1.cell' HP0.out (fun q => q))
  have HD1 := Lib.hid (hf1.cell' HD0.out (fun q => q))
  have HR1 : Hid (∀ j, j < 3 → w1.cell? ⟨w.heap.size + 1 + 1, j, none⟩ = some (.int .i64 0) ∧ w1.frozen? ⟨w.heap.size + 1 + 1, j, none⟩ = false) := Lib.hid fun j hj => hf1.cellF (HR0.out j hj).1 (HR0.out j hj).2 (fun q => q)
  have hnn := H.out.nn
  have CI := Lib.hid (indexStep_any (p := farB fl d) HO1.out.row (c1 := .pointer (some ⟨w.heap.size, 0, none⟩)) (c2 := .pointer (some ⟨w.heap.size + 1, 0, none⟩)) fun W hW x hx => step1_any ((HS.out.no HF1.out).no hW) (hW.cell' HP1.out (fun q => q)) (hW.cell' HD1.out (fun q => q)) x (H.out.nodes x (mem_outE.1 hx).1).2 hnn)
  obtain ⟨j, hj1, hj2, hj3, _⟩ := fIdx_find (farB fl d) (outE L n) 0 (by
    obtain ⟨e, he, h1⟩ := HE.out
    exact List.any_eq_true.2 ⟨e, he, by simp [farB, h1]⟩)
  have HJ3 : Hid (gt (outE L n) j = stepE L (gF fl) n d) := Lib.hid hj3
  rw [hj2, Nat.zero_add] at CI
  obtain ⟨ao, cap, rfl, hcl, hcm, hc⟩ := EdsV.facts HO1.out.row
  obtain ⟨bb, oo, rfl, hbb, p0, p1, p2⟩ := hc j hj1
  have HC0 := Lib.hid p0
  have HC1 := Lib.hid p1
  have HC2 := Lib.hid p2
  have hj0 : (0 : Int) ≤ (j : Int) := by omega
  have hj1' : (j : Int) < ((outE L n).length : Int) := by omega
  clear hf1 ho1 CO HP0 HD0 HR0 hj2 hj3 hc p0 p1 p2
  go_wp2_with fail
  refine CI.out.mono ?_
  rintro r w2 ⟨rfl, hf2⟩
  have HF2 := Lib.hid (HF1.out.trans hf2)
  have k0 := hf2.cell' HC0.out (fun q => q)
  have k1 := hf2.cell' HC1.out (fun q => q)
  have k2 := hf2.cell' HC2.out (fun q => q)
  obtain ⟨r0, z0⟩ := hf2.cellF (HR1.out 0 (by omega)).1 (HR1.out 0 (by omega)).2 (fun q => q)
  obtain ⟨r1, z1⟩ := hf2.cellF (HR1.out 1 (by omega)).1 (HR1.out 1 (by omega)).2 (fun q => q)
  obtain ⟨r2, z2⟩ := hf2.cellF (HR1.out 2 (by omega)).1 (HR1.out 2 (by omega)).2 (fun q => q)
  clear hf2 CI HC0 HC1 HC2 HR1 hz0
  obtain ⟨x, hx⟩ : ∃ x, x = gt (outE L n) j := ⟨_, rfl⟩
  have HXE : Hid (evE (stepE L (gF fl) n d) = .agg #[.int .i64 x.f, .int .i64 x.t, .int .i64 x.l]) := Lib.hid (by rw [← HJ3.out, ← hx]; rfl)
  rw [← hx] at k0 k1 k2
  clear hx
  go_wp2
  (try simp only [Exit.inBlock, Exit.then])
  refine bodyPost_ret (v := .agg #[.int .i64 x.f, .int .i64 x.t, .int .i64 x.l]) ?_ rfl ?_
  · have e0 := World.cell?_setCell_same w2 ⟨w.heap.size + 1 + 1, 0, none⟩ (.int .i64 x.f) r0
    have e1 := World.cell?_setCell_same (w2.setCell ⟨w.heap.size + 1 + 1, 0, none⟩ (.int .i64 x.f)) ⟨w.heap.size + 1 + 1, 1, none⟩ (.int .i64 x.t) ((World.cell?_setCell_other _ _ _ _ (by simp)).trans r1)
    have e2 := World.cell?_setCell_same ((w2.setCell ⟨w.heap.size + 1 + 1, 0, none⟩ (.int .i64 x.f)).setCell ⟨w.heap.size + 1 + 1, 1, none⟩ (.int .i64 x.t)) ⟨w.heap.size + 1 + 1, 2, none⟩ (.int .i64 x.l) ((World.cell?_setCell_other _ _ _ _ (by simp)).trans ((World.cell?_setCell_other _ _ _ _ (by simp)).trans r2))
    simp [results, Tryz.results77, go_sem, e0, e1, e2]
  exact ⟨by rw [HXE.out], ((HF2.out.setCell (.inl (by show w.heap.size ≤ w.heap.size + 1 + 1; omega)) _).setCell (.inl (by show w.heap.size ≤ w.heap.size + 1 + 1; omega)) _).setCell (.inl (by show w.heap.size ≤ w.heap.size + 1 + 1; omega)) _⟩
end
#print axioms step_any
end Go.Proofs.YtfpggeiphbekoaaGreatDoor.Gr

namespace Go.Proofs.YtfpggeiphbekoaaGreatDoor.Gr
open Go.RowKit
set_option linter.unusedVariables false

theorem far_step {L : List Ed} {N t : Nat} {far : Nat → Int} (hL : ∀ x ∈ L, (0 ≤ x.f ∧ x.f < (N : Int)) ∧ 0 ≤ x.t ∧ x.t < (N : Int)) (h : FarOk N t (preN L N) far) {n d : Nat} (hn : n < N) (hd : far n = ((d + 1 : Nat) : Int)) : ∃ e ∈ outE L n, far e.t.toNat = (d : Int) := by
  rcases h n hn with ⟨h1, _⟩ | ⟨k, h1, h2⟩
  · rw [h1] at hd; omega
  · have hk : k = d + 1 := by rw [h1] at hd; omega
    subst hk
    obtain ⟨m, hm, hmn, hD⟩ := h2.next
    obtain ⟨e, he, he1, he2⟩ := (mem_preN hm hL).1 hmn
    refine ⟨e, mem_outE.2 ⟨he, he1⟩, ?_⟩
    rw [he2, Int.toNat_natCast]
    rcases h m hm with ⟨_, h4⟩ | ⟨j, h3, h4⟩
    · exact absurd hD.1 (h4 d)
    · rw [h3, h4.uniq hD]
theorem wayE_succ (L : List Ed) (far : Nat → Int) (d n : Nat) : wayE L far (d + 1) n = stepE L far n (d : Int) :: wayE L far d (stepE L far n (d : Int)).t.toNat := rfl
theorem wayE_len (L : List Ed) (far : Nat → Int) : ∀ d n, (wayE L far d n).length = d
  | 0, _ => rfl
  | d + 1, n => by rw [wayE_succ, List.length_cons, wayE_len L far d]
section
variable {w w' : World} {D S T : Nat → Prop} {b N sb fg t : Nat} {L : List Ed} {fl : List Int}
set_option maxRecDepth 100000 in
set_option maxHeartbeats 2000000 in
theorem way_any (h : GraphV w D b N L) (hs : SeV w sb fg N fl) (hok : FarOk N t (preN L N) (gF fl)) {n d : Nat} (hn : n < N) (hd : gF fl n = (d : Int)) :
    Calls Tryz.prog 57 #[.pointer (some ⟨sb, 0, none⟩), .pointer (some ⟨b, 0, none⟩), .int .i64 (n : Nat)] w fun e w' => ∃ v', e = .returned v' ∧ Fx No w w' ∧ OwnT 27 e3 3 w' w.heap.size v' (wayE L (gF fl) d n) := by
  obtain ⟨iif, hif, hzf, hsf, hbf⟩ := info_edge'
  have H := Lib.hid h
  have HS := Lib.hid hs
  have HK := Lib.hid hok
  have HD := Lib.hid hd
  have hnn := h.nn
  have hdn : d < N := by
    rcases hok n hn with ⟨h1, _⟩ | ⟨k, h1, h2⟩
    · rw [h1] at hd; omega
    · have := h2.lt (fun n' m' => preN_lt h.nodes m') hn
      rw [h1] at hd
      omega
  clear h hs hok hd
  go_enter Tryz.func57, Tryz.ntmps57
  go_wp2
  go_loopg [6, 7] d (fun g l i ws => ∃ (n' : Nat) (done : List Ed), i = .int .i64 n' ∧ n' < N ∧ Hid (gF fl n' = (g : Int)) ∧ Hid (done ++ wayE L (gF fl) g n' = wayE L (gF fl) d n) ∧ done.length + g = d ∧ Fx No w ws ∧ OwnT 27 e3 3 ws w.heap.size l done)
  case atStart => exact ⟨n, [], rfl, hn, HD, Lib.hid rfl, by simp, Fx.refl _ _, OwnT.nil _ _⟩
  case round =>
    obtain ⟨n', done, rfl, hn', HG, HW, hlen, hf, ho⟩ := hrel
    have HF := Lib.hid hf
    have HO := Lib.hid ho
    have s1 := (HS.out.no hf).s1
    have kf := (HS.out.no hf).at hn'
    rw [HG.out] at kf
    have hz0 : (0 : Int) ≤ (n' : Int) := by omega
    have hz1 : (n' : Int) < (N : Int) := by omega
    have hzw := hf.size
    clear hf ho
    cases gk with
    | zero =>
      have HE : Hid (done = wayE L (gF fl) d n) := Lib.hid (by rw [← HW.out]; simp [wayE])
      go_wp2
      go_ret
      exact ⟨_, rfl, HF.out, by rw [← HE.out]; exact HO.out⟩
    | succ g =>
      have hpos : (0 : Int) < ((g + 1 : Nat) : Int) := by omega
      have hW1 : IntKind.i64.wrap (((g + 1 : Nat) : Int) - 1) = (g : Int) := by rw [IntKind.wrap_i64]; omega
      have HEX := Lib.hid (far_step H.out.nodes HK.out hn' HG.out)
      obtain ⟨ex, hex⟩ : ∃ ex, ex = stepE L (gF fl) n' (g : Int) := ⟨_, rfl⟩
      have HXm : Hid (ex ∈ outE L n' ∧ gF fl ex.t.toNat = (g : Int)) := Lib.hid (by rw [hex]; exact stepE_ok HEX.out)
      have CS := Lib.hid (step_any (H.out.no HF.out) (HS.out.no HF.out) hn' HEX.out)
      rw [← hex] at CS
      have HX := Lib.hid hex
      have HT : Hid (0 ≤ ex.t ∧ ex.t < (N : Int)) := Lib.hid (H.out.nodes ex (mem_outE.1 HXm.out.1).1).2
      unfold evE at CS
      clear hex
      go_wp2_with fail
      refine CS.out.mono ?_
      rintro e w2 ⟨rfl, hf2⟩
      have HF2 := Lib.hid (HF.out.trans hf2)
      have HO2 := Lib.hid (HO.out.no hf2)
      have hz2 := hf2.size
      clear hf2 CS
      have HSl : Hid (SlV (w2.alloc (.cells #[.int .i64 ex.f, .int .i64 ex.t, .int .i64 ex.l] 27)) (fun _ => True) (.slice (some ⟨w2.heap.size, 0, none⟩) 1 1) 3 1 (ints (e3 ex))) := Lib.hid (SlV.lit w2 27 #[.int .i64 ex.f, .int .i64 ex.t, .int .i64 ex.l] 3 1 rfl (by unfold maxLen; omega))
      go_wp2_with (at_builtin; refine wpList_append_kept rfl _ _ 23 rfl w.heap.size 27 Tryz.underlying23 hif hzf hsf hbf rfl (by decide) rfl (World.ownsRow.alloc HO2.out _) rfl HSl.out (ints_one _) (by omega) (by unfold maxLen; omega) (by omega) (by simp; omega) ?_)
      intro v3 w3 ho3 hf3 _ _
      have hb3 : Fx No w w3 := (HF2.out.alloc _).trans' hf3 fun j hj hk => by have := (OwnT.lt HO2.out hj).1; omega
      have ho3' : OwnT 27 e3 3 w3 w.heap.size v3 (done ++ [ex]) := OwnT.snoc ho3
      have HF3 := Lib.hid hb3
      have HO3 := Lib.hid ho3'
      obtain ⟨ao, cap, rfl, hcl, hcm, hc⟩ := EdsV.facts ho3'.row
      obtain ⟨bb, oo, rfl, hbb, p0, p1, p2⟩ := hc done.length (by simp)
      rw [show gt (done ++ [ex]) done.length = ex by simp [gt]] at p1
      rw [show (done ++ [ex]).length = done.length + 1 by simp] at hcl HO3 ⊢
      obtain ⟨m, hm⟩ := Int.eq_ofNat_of_zero_le HT.out.1
      have hmN : m < N := by have := HT.out.2; omega
      have HM : Hid (gF fl m = (g : Int)) := Lib.hid (by have h1 := HXm.out.2; rw [hm] at h1; exact h1)
      have HW2 : Hid ((done ++ [ex]) ++ wayE L (gF fl) g m = wayE L (gF fl) d n) := Lib.hid (by
        have h1 := HW.out
        rw [wayE_succ, ← HX.out, hm, Int.toNat_natCast] at h1
        rw [← h1]
        simp)
      rw [hm] at p1
      have hW2 : IntKind.i64.wrap (((done.length + 1 : Nat) : Int) - 1) = (done.length : Int) := by rw [IntKind.wrap_i64]; omega
      have hW3 : IntKind.i64.wrap ((done.length : Int) + 1 - 1) = (done.length : Int) := by rw [IntKind.wrap_i64]; omega
      clear ho3 hf3 hb3 ho3' hc p0 p2 hm HX HW
      go_wp2
      go_roundg g
      case measure => omega
      case rel => exact ⟨m, done ++ [ex], rfl, hmN, HM, HW2, by simp; omega, HF3.out, HO3.out⟩
end
#print axioms way_any
end Go.Proofs.YtfpggeiphbekoaaGreatDoor.Gr

namespace Go.Proofs.YtfpggeiphbekoaaGreatDoor.Gr
open Go.RowKit
set_option linter.unusedVariables false

/-- the document's answers -/
def okN (N : Nat) (m : Int) : Prop := 0 ≤ m ∧ m < (N : Int)
instance (N : Nat) (m : Int) : Decidable (okN N m) := inferInstanceAs (Decidable (0 ≤ m ∧ m < (N : Int)))
def pathR (L : List Ed) (N : Nat) (f t : Int) : List Ed × Int :=
  if okN N f ∧ okN N t then (if firstJ L t.toNat N f.toNat 0 < 0 then ([], 150) else (walkR L t.toNat (firstJ L t.toNat N f.toNat 0).toNat f.toNat, 0)) else ([], 130)
def farR (L : List Ed) (N : Nat) (t : Int) : List Int × Int :=
  if okN N t then ((List.range N).map fun m => firstJ L t.toNat N m 0, 0) else ([], 130)
theorem gF_eq {l : List Int} {N : Nat} {f : Nat → Int} (hl : l.length = N) (h : ∀ m, m < N → gF l m = f m) : l = (List.range N).map f := by
  apply List.ext_getElem (by simp [hl])
  intro i h1 h2
  have := h i (by omega)
  simp [gF, h1] at this
  simp [this]
section
variable {w w' : World} {D S T : Nat → Prop} {b N sb fg t : Nat} {L : List Ed} {fl : List Int}
theorem node_any (h : GraphV w D b N L) (m : Int) : Calls Tryz.prog 55 #[.pointer (some ⟨b, 0, none⟩), .int .i64 m] w fun e w' => e = .returned (.bool (decide (okN N m))) ∧ w = w' := by
  have H := Lib.hid h
  clear h
  by_cases h1 : 0 ≤ m
  · have d1 : decide (0 ≤ m) = true := decide_eq_true h1
    have he : decide (okN N m) = decide (m < (N : Int)) := by simp [okN, h1]
    rw [he]
    clear he
    go_enter Tryz.func55, Tryz.ntmps55
    go_wp2_with fail
    refine (gLen_any H.out).mono ?_
    rintro e w' ⟨rfl, rfl⟩
    go_wp2
    go_ret
    exact ⟨rfl, rfl⟩
  · have d1 : decide (0 ≤ m) = false := decide_eq_false h1
    have he : decide (okN N m) = false := by simp [okN, h1]
    rw [he]
    clear he
    go_enter Tryz.func55, Tryz.ntmps55
    go_wp2
    go_ret
    exact ⟨rfl, rfl⟩
set_option maxRecDepth 100000 in
set_option maxHeartbeats 1000000 in
theorem path_any (h : GraphV w D b N L) (hl : L.length ≤ 999999) (f t : Int) :
    Calls Tryz.prog 23 #[.pointer (some ⟨b, 0, none⟩), .int .i64 f, .int .i64 t] w fun e w' => ∃ v', e = .returned (.tuple #[v', .int .i64 (pathR L N f t).2]) ∧ Fx No w w' ∧ OwnT 27 e3 3 w' w.heap.size v' (pathR L N f t).1 := by
  have H := Lib.hid h
  have HL := Lib.hid hl
  clear h hl
  by_cases hf : okN N f
  · have C1 := node_any H.out f
    rw [decide_eq_true hf] at C1
    have HC1 := Lib.hid C1
    clear C1
    by_cases ht : okN N t
    · have C2 := node_any H.out t
      rw [decide_eq_true ht] at C2
      have HC2 := Lib.hid C2
      clear C2
      have HP : Hid (pathR L N f t = if firstJ L t.toNat N f.toNat 0 < 0 then ([], 150) else (walkR L t.toNat (firstJ L t.toNat N f.toNat 0).toNat f.toNat, 0)) := Lib.hid (by rw [pathR, if_pos ⟨hf, ht⟩])
      obtain ⟨f, rfl⟩ := Int.eq_ofNat_of_zero_le hf.1
      obtain ⟨t, rfl⟩ := Int.eq_ofNat_of_zero_le ht.1
      have hfN : f < N := by have := hf.2; omega
      have htN : t < N := by have := ht.2; omega
      have hf0 : (0 : Int) ≤ (f : Int) := by omega
      have hf1 : (f : Int) < (N : Int) := by omega
      clear hf ht
      go_enter Tryz.func23, Tryz.ntmps23
      go_wp2_with fail
      refine HC1.out.mono ?_
      rintro e w1 ⟨rfl, rfl⟩
      go_wp2_with fail
      refine HC2.out.mono ?_
      rintro e w2 ⟨rfl, rfl⟩
      go_wp2_with fail
      refine (search_any H.out HL.out htN).mono ?_
      rintro e w3 ⟨sb, fg, b', fl, D', rfl, hs1, hs2, hs3, hsr, hok⟩
      have HS := Lib.hid (hsr.se (by omega))
      have HF3 := Lib.hid hsr.fx
      have HK := Lib.hid hok
      have hc := (hsr.se (by omega)).at hfN
      have hc1 := hsr.s1
      have HE := Lib.hid (far_first H.out.nodes hok hfN)
      rw [HE.out] at hc
      obtain ⟨z, hz⟩ : ∃ z, z = firstJ L t N f 0 := ⟨_, rfl⟩
      have HZ := Lib.hid hz
      rw [← hz] at hc
      have hzw := hsr.fx.size
      clear hsr hok hz
      by_cases hn : z = -1
      · obtain rfl := hn
        have HP2 : Hid (pathR L N (f : Int) (t : Int) = ([], 150)) := Lib.hid (by rw [HP.out, Int.toNat_natCast, Int.toNat_natCast, ← HZ.out, if_pos (by omega)])
        go_wp2
        go_ret2
        rw [HP2.out]
        exact ⟨_, rfl, HF3.out, OwnT.nil _ _⟩
      · have hzs : ∃ d : Nat, z = (d : Int) := by
          rcases firstJ_spec (L := L) (t := t) (N := N) (m := f) 0 with ⟨h1, _⟩ | ⟨k, h1, _⟩
          · exact absurd (HZ.out.trans h1) hn
          · exact ⟨k, HZ.out.trans h1⟩
        obtain ⟨d, rfl⟩ := hzs
        have hd : ((d : Int) == -1) = false := by simp
        have HD : Hid (gF fl f = (d : Int)) := Lib.hid (HE.out.trans HZ.out.symm)
        have HDs : Hid (Ds N t (preN L N) f d) := Lib.hid (by
          rcases HK.out f hfN with ⟨h1, _⟩ | ⟨k, h1, h2⟩
          · rw [HD.out] at h1; omega
          · have : k = d := by rw [HD.out] at h1; omega
            rw [← this]; exact h2)
        have HP2 : Hid (pathR L N (f : Int) (t : Int) = (wayE L (gF fl) d f, 0)) := Lib.hid (by
          rw [HP.out, Int.toNat_natCast, Int.toNat_natCast, ← HZ.out, if_neg (by omega), Int.toNat_natCast, way_same H.out.nodes HK.out d f hfN HDs.out])
        clear hn
        go_wp2_with fail
        refine (way_any (H.out.no HF3.out) HS.out HK.out hfN HD.out).mono ?_
        rintro e w4 ⟨v4, rfl, hf4, ho4⟩
        have HF4 := Lib.hid (HF3.out.trans hf4)
        have HO4 := Lib.hid (OwnT.base ho4 hzw)
        clear hf4 ho4
        go_wp2
        go_ret2
        rw [HP2.out]
        exact ⟨_, rfl, HF4.out, HO4.out⟩
    · have C2 := node_any H.out t
      rw [decide_eq_false ht] at C2
      have HC2 := Lib.hid C2
      clear C2
      have HP : Hid (pathR L N f t = ([], 130)) := Lib.hid (by rw [pathR, if_neg (fun q => ht q.2)])
      clear hf ht
      go_enter Tryz.func23, Tryz.ntmps23
      go_wp2_with fail
      refine HC1.out.mono ?_
      rintro e w1 ⟨rfl, rfl⟩
      go_wp2_with fail
      refine HC2.out.mono ?_
      rintro e w2 ⟨rfl, rfl⟩
      go_wp2
      go_ret2
      rw [HP.out]
      exact ⟨_, rfl, Fx.refl _ _, OwnT.nil _ _⟩
  · have C1 := node_any H.out f
    rw [decide_eq_false hf] at C1
    have HC1 := Lib.hid C1
    clear C1
    have HP : Hid (pathR L N f t = ([], 130)) := Lib.hid (by rw [pathR, if_neg (fun q => hf q.1)])
    clear hf
    go_enter Tryz.func23, Tryz.ntmps23
    go_wp2_with fail
    refine HC1.out.mono ?_
    rintro e w1 ⟨rfl, rfl⟩
    go_wp2
    go_ret2
    rw [HP.out]
    exact ⟨_, rfl, Fx.refl _ _, OwnT.nil _ _⟩
theorem pathNil_any (f t : Int) : Calls Tryz.prog 23 #[.pointer none, .int .i64 f, .int .i64 t] w fun e w' => e = .returned (.tuple #[.slice none 0 0, .int .i64 1]) ∧ w = w' := by
  go_enter Tryz.func23, Tryz.ntmps23
  go_wp2
  go_ret2
  exact ⟨rfl, rfl⟩
end
#print axioms path_any
end Go.Proofs.YtfpggeiphbekoaaGreatDoor.Gr

namespace Go.Proofs.YtfpggeiphbekoaaGreatDoor.Gr
open Go.RowKit
set_option linter.unusedVariables false

def throughR (L : List Ed) (N : Nat) (n : Int) : List Ed × Int :=
  if okN N n then (if firstJ L n.toNat N n.toNat 1 < 0 then ([], 150) else (walkR L n.toNat (firstJ L n.toNat N n.toNat 1).toNat n.toNat, 0)) else ([], 130)
theorem gF_low {L : List Ed} {N n : Nat} {fl : List Int} (h : FarOk N n (preN L N) (gF fl)) (hl : fl.length = N) : ∀ m, -1 ≤ gF fl m := fun m => by
  by_cases hm : m < N
  · exact h.low hm
  · simp [gF, List.getElem?_eq_none (l := fl) (i := m) (by omega)]
/-- append to an owned row, whatever comes, as a step of a region that draws -/
theorem step_append_sl {P : Program} {c : Bool} (hc : c = true) {o : Oper} {a : Act} {w : World} {K : Act → World → Prop} {Q : Exit → Act → World → Prop} {E : Prop}
    (hg : o.guard = none) (s x : Operand) (t : TypeId) (hop : o.op = Op.call { callee := Callee.builtin Builtin.append, args := #[s, x], argTypes := #[t, t] })
    (base : Nat) (e : TypeId) {i : TypeInfo} {z : Value} {size bytes : Nat} (ht : P.underlying t = some (.slice e)) (hi : P.info? e = some i) (hz : i.zero = some z)
    (hsize : i.size = size) (hby : i.bytes = bytes) (hzs : z.cells.size = size) (hsz : 0 < size)
    (v : Value) (n : Nat) (xs : List Value) (hs : a.eval s = v) (hown : w.ownsRow base e size v n xs)
    (D : Nat → Prop) (u : Value) (m : Nat) (news : List Value) (hx : a.eval x = u) (hsl : SlV w D u size m news) (h1 : One news)
    (h63 : n + m ≤ maxLen) (hbytes : (n + m) * bytes ≤ 140737488355328) (hbase : base ≤ w.heap.size)
    (hK : ∀ v' w', w'.ownsRow base e size v' (n + m) (xs ++ news) → Fx (fun k => v.ownBlock = some k) w w' → K (a.put o.dst v') w') :
    if c = true then Oper.wp P o a w K Q else E := by
  rw [if_pos hc]
  obtain ⟨ao, cap, rfl, h2, h3, h4, h5, h6⟩ := hsl
  cases ao with
  | none =>
    obtain rfl := h5 rfl
    obtain rfl : m = 0 := by omega
    obtain rfl := List.eq_nil_of_length_eq_zero (by simpa using h4 : news.length = 0)
    have hrun := run_append_owned_none (P := P) w base t o.type e i size ht hi v n xs hown
    unfold Oper.wp
    simp [execOp, hop, resolve, invoke, builtin, hs, hx, hrun, Result.andThen]
    exact hK v w (by simpa using hown) (Fx.refl _ _)
  | some ad =>
    obtain ⟨v', w', hr, g1, g2, g3⟩ := run_append_own (P := P) w base t o.type e i z size bytes ht hi hz hsize hby hzs hsz v n xs hown ad m cap news h4 h6.cells h1 h63 hbytes hbase
    unfold Oper.wp
    simp [execOp, hop, resolve, invoke, builtin, hs, hx, hr, Result.andThen]
    exact hK _ _ g1 (Fx.ofGrown g2 fun k hk _ => hk)
structure T17I (w0 : World) (bx sb b : Nat) (ex : Ed) (way : List Ed) (L : Nat → Bool) (x : Nat → Value) (w : World) : Prop where
  base : Fx No w0 w
  f0 : L 0 = true → (x 0 = .agg #[.int .i64 ex.f, .int .i64 ex.t, .int .i64 ex.l])
  f1 : L 1 = true → L 7 = false → (∃ q : Nat, x 1 = .slice (some ⟨q, 0, none⟩) 1 1 ∧ w.ownsRow w0.heap.size 27 3 (.slice (some ⟨q, 0, none⟩) 1 1) 1 (ints (e3 ex)))
  f2 : L 2 = true → (x 2 = .pointer (some ⟨sb, 0, none⟩))
  f3 : L 3 = true → (x 3 = .pointer (some ⟨b, 0, none⟩))
  f4 : L 4 = true → (x 4 = .pointer (some ⟨bx, 1, none⟩))
  f5 : L 5 = true → (x 5 = .int .i64 ex.t)
  f6 : L 6 = true → L 7 = false → (OwnT 27 e3 3 w w0.heap.size (x 6) way)
  f7 : L 7 = true → (OwnT 27 e3 3 w w0.heap.size (x 7) (ex :: way))
  f8 : L 8 = true → (x 8 = x 7)
  f9 : L 9 = true → (x 9 = .int .i64 0)
section
variable {w w' : World} {D S T : Nat → Prop} {b N sb fg t : Nat} {L : List Ed} {fl : List Int}
set_option maxRecDepth 100000 in
set_option maxHeartbeats 4000000 in
theorem through_any (h : GraphV w D b N L) (hl : L.length ≤ 999999) (n : Int) :
    Calls Tryz.prog 52 #[.pointer (some ⟨b, 0, none⟩), .int .i64 n] w fun e w' => ∃ v', e = .returned (.tuple #[v', .int .i64 (throughR L N n).2]) ∧ Fx No w w' ∧ OwnT 27 e3 3 w' w.heap.size v' (throughR L N n).1 := by
  obtain ⟨iif, hif, hzf, hsf, hbf⟩ := info_edge'
  have H := Lib.hid h
  have HL := Lib.hid hl
  have hnn := h.nn
  clear h hl
  by_cases hn : okN N n
  · have C2 := node_any H.out n
    rw [decide_eq_true hn] at C2
    have HC2 := Lib.hid C2
    clear C2
    obtain ⟨n, rfl⟩ := Int.eq_ofNat_of_zero_le hn.1
    have hnN : n < N := by have := hn.2; omega
    have HP : Hid (throughR L N (n : Int) = if firstJ L n N n 1 < 0 then ([], 150) else (walkR L n (firstJ L n N n 1).toNat n, 0)) := Lib.hid (by rw [throughR, if_pos hn, Int.toNat_natCast])
    clear hn
    go_enter Tryz.func52, Tryz.ntmps52
    go_wp2_with fail
    refine HC2.out.mono ?_
    rintro e w2 ⟨rfl, rfl⟩
    go_wp2_with fail
    refine (search_any H.out HL.out hnN).mono ?_
    rintro e w3 ⟨sb, fg, b', fl, D', rfl, hs1, hs2, hs3, hsr, hok⟩
    have HS := Lib.hid (hsr.se (by omega))
    have HF3 := Lib.hid hsr.fx
    have HK := Lib.hid hok
    have HLo := Lib.hid (gF_low hok hsr.len)
    obtain ⟨xs, hxs⟩ : ∃ xs, xs = nextI L N (n : Int) := ⟨_, rfl⟩
    have HXS := Lib.hid hxs
    have CN : Hid (Calls Tryz.prog 22 #[.pointer (some ⟨b, 0, none⟩), .int .i64 (n : Nat)] w3 fun e w' => ∃ v', e = .returned v' ∧ Fx No w3 w' ∧ RowI w' w3.heap.size v' xs) := Lib.hid (by rw [hxs]; exact gNext_any (H.out.no hsr.fx) (n : Int))
    clear hsr hok hs1 hs2 hs3 hxs
    go_wp2_with fail
    refine CN.out.mono ?_
    rintro e w4 ⟨v4, rfl, hf4, hr4⟩
    obtain ⟨ao, acap, rfl, hlx, hcx⟩ := hr4.toInts.facts
    have HF4 := Lib.hid (HF3.out.trans hf4)
    have HC := Lib.hid hcx
    have HS4 := Lib.hid (HS.out.no hf4)
    have hz4 := HF4.out.size
    clear hf4 hr4 hcx CN HS HF3
    go_wp2
    go_loopw [7, 27] (fun bst i ws => ∃ q : Nat, i = .int .i64 q ∧ q ≤ xs.length ∧ bst = .int .i64 (bestF (gF fl) (xs.take q)) ∧ Fx No w4 ws) (fun _ i _ => xs.length - (intOf i).toNat)
    case atStart => exact ⟨0, rfl, Nat.zero_le _, rfl, Fx.refl _ _⟩
    case round =>
      obtain ⟨q, rfl, hq, rfl, hf⟩ := hrel
      have HF := Lib.hid hf
      have s1 := (HS4.out.no hf).s1
      clear hf
      by_cases hlt : q < xs.length
      · obtain ⟨cb, co, rfl, _, hcell⟩ := HC.out q hlt
        have k1 := HF.out.cell' hcell (fun q => q)
        have hq0 : (0 : Int) ≤ (q : Int) := by omega
        have hq1 : (q : Int) < (xs.length : Int) := by omega
        have hm : ∃ m : Nat, gi xs q = (m : Int) ∧ m < N := by
          have h1 : gi xs q ∈ nextI L N (n : Int) := by rw [← HXS.out]; exact gi_mem hlt
          obtain ⟨e, he, _, h2⟩ := (mem_nextI hnN).1 h1
          have h3 := (H.out.nodes e he).2
          rw [h2] at h3
          exact ⟨(gi xs q).toNat, by omega, by omega⟩
        obtain ⟨m, hm1, hmN⟩ := hm
        have kf := (HS4.out.no HF.out).at hmN
        have HT : Hid (bestF (gF fl) (xs.take (q + 1)) = bestStep (gF fl) (bestF (gF fl) (xs.take q)) (m : Int)) := Lib.hid (by rw [take_gi hlt, bestF_snoc, hm1])
        rw [hm1] at k1
        have hm0 : (0 : Int) ≤ (m : Int) := by omega
        have hmN' : (m : Int) < (N : Int) := by omega
        obtain ⟨z, hz⟩ : ∃ z, z = gF fl m := ⟨_, rfl⟩
        obtain ⟨bst, hb⟩ : ∃ bst, bst = bestF (gF fl) (xs.take q) := ⟨_, rfl⟩
        have HT2 : Hid (bestF (gF fl) (xs.take (q + 1)) = if z ≠ -1 ∧ (bst = -1 ∨ z < bst) then z else bst) := Lib.hid (by rw [HT.out, ← hb]; unfold bestStep; rw [Int.toNat_natCast, ← hz])
        rw [← hz] at kf
        rw [← hb]
        clear hcell hm1 HT hz hb
        by_cases h1 : z = -1
        · have d1 : (z != -1) = false := by simp [h1]
          have HE : Hid (bestF (gF fl) (xs.take (q + 1)) = bst) := Lib.hid (by rw [HT2.out, if_neg (fun c => c.1 h1)])
          clear h1
          go_wp2
          go_roundw
          case rel => exact ⟨q + 1, by go_num, by omega, by rw [HE.out], HF.out⟩
          case measure => simp [intOf]; omega
        · have d1 : (z != -1) = true := by simpa using h1
          by_cases h2 : bst = -1
          · have d2 : (bst == -1) = true := by simp [h2]
            have HE : Hid (bestF (gF fl) (xs.take (q + 1)) = z) := Lib.hid (by rw [HT2.out, if_pos ⟨h1, .inl h2⟩])
            clear h1 h2
            go_wp2
            go_roundw
            case rel => exact ⟨q + 1, by go_num, by omega, by rw [HE.out], HF.out⟩
            case measure => simp [intOf]; omega
          · have d2 : (bst == -1) = false := by simpa using h2
            by_cases h3 : z < bst
            · have d3 : decide (z < bst) = true := decide_eq_true h3
              have HE : Hid (bestF (gF fl) (xs.take (q + 1)) = z) := Lib.hid (by rw [HT2.out, if_pos ⟨h1, .inr h3⟩])
              clear h1 h2
              go_wp2
              go_roundw
              case rel => exact ⟨q + 1, by go_num, by omega, by rw [HE.out], HF.out⟩
              case measure => simp [intOf]; omega
            · have d3 : decide (z < bst) = false := decide_eq_false h3
              have HE : Hid (bestF (gF fl) (xs.take (q + 1)) = bst) := Lib.hid (by rw [HT2.out, if_neg (fun c => c.2.elim h2 h3)])
              clear h1 h2
              go_wp2
              go_roundw
              case rel => exact ⟨q + 1, by go_num, by omega, by rw [HE.out], HF.out⟩
              case measure => simp [intOf]; omega
      · obtain rfl : q = xs.length := by omega
        have HF5 := Lib.hid (HF4.out.trans HF.out)
        have HS5 := Lib.hid (HS4.out.no HF.out)
        rw [List.take_length, HXS.out]
        rcases through_first H.out.nodes HK.out HLo.out hnN with ⟨h1, h2⟩ | ⟨d, h1, h2, h3, h4, h5⟩
        · have HP2 : Hid (throughR L N (n : Int) = ([], 150)) := Lib.hid (by rw [HP.out, h2, if_pos (by omega)])
          rw [h1]
          clear h1 h2
          go_wp2
          go_ret2
          rw [HP2.out]
          exact ⟨_, rfl, HF5.out, OwnT.nil _ _⟩
        · have hdd : ((d : Int) == -1) = false := by simp
          rw [h1]
          have htt := (H.out.nodes _ h4.1).2
          have htN : (stepR L n d n).t.toNat < N := by omega
          have hfd : gF fl (stepR L n d n).t.toNat = (d : Int) := by
            rcases HK.out _ htN with ⟨g1, g2⟩ | ⟨k, g1, g2⟩
            · exact absurd h5.1 (g2 d)
            · rw [g1, g2.uniq h5]
          have HEX : Hid (∃ e ∈ outE L n, gF fl e.t.toNat = (d : Int)) := Lib.hid ⟨_, mem_outE.2 h4, hfd⟩
          have CS := Lib.hid (step_any (H.out.no HF5.out) HS5.out hnN HEX.out)
          rw [h3] at CS
          have hdN : d < N := h5.lt (fun n' m' => preN_lt H.out.nodes m') htN
          have HP2 : Hid (throughR L N (n : Int) = (stepR L n d n :: wayE L (gF fl) d (stepR L n d n).t.toNat, 0)) := Lib.hid (by
            rw [HP.out, h2, if_neg (by omega), Int.toNat_natCast, way_same H.out.nodes HK.out d _ htN h5]
            rfl)
          obtain ⟨ex, hex⟩ : ∃ ex, ex = stepR L n d n := ⟨_, rfl⟩
          rw [← hex] at CS HP2 hfd htN htt
          obtain ⟨m, hm⟩ := Int.eq_ofNat_of_zero_le htt.1
          have hmN : m < N := by rw [hm] at htN; simpa using htN
          have HM : Hid (gF fl m = (d : Int)) := Lib.hid (by rw [hm] at hfd; simpa using hfd)
          have HP3 : Hid (throughR L N (n : Int) = (ex :: wayE L (gF fl) d m, 0)) := Lib.hid (by rw [HP2.out, hm]; rfl)
          have HTm := Lib.hid hm
          unfold evE at CS
          clear h1 h2 h3 h4 h5 htt htN hfd hex hm HP2
          go_wp2_with fail
          refine CS.out.mono ?_
          rintro e w6 ⟨rfl, hf6⟩
          have HF6 := Lib.hid (HF5.out.trans hf6)
          have HS6 := Lib.hid (HS5.out.no hf6)
          have hz6 := HF6.out.size
          clear hf6 CS
          go_wp2
          have hb7 : Fx No w6 (w6.alloc (.cells #[.int .i64 ex.f, .int .i64 ex.t, .int .i64 ex.l] 27)) := (Fx.refl _ _).alloc _
          have k0 : (w6.alloc (.cells #[.int .i64 ex.f, .int .i64 ex.t, .int .i64 ex.l] 27)).cell? ⟨w6.heap.size, 0, none⟩ = some (.int .i64 ex.f) := (cell_newY rfl).trans rfl
          have k1 : (w6.alloc (.cells #[.int .i64 ex.f, .int .i64 ex.t, .int .i64 ex.l] 27)).cell? ⟨w6.heap.size, 1, none⟩ = some (.int .i64 ex.t) := (cell_newY rfl).trans rfl
          have k2 : (w6.alloc (.cells #[.int .i64 ex.f, .int .i64 ex.t, .int .i64 ex.l] 27)).cell? ⟨w6.heap.size, 2, none⟩ = some (.int .i64 ex.l) := (cell_newY rfl).trans rfl
          obtain ⟨w7, hw7⟩ : ∃ w7, w7 = w6.alloc (.cells #[.int .i64 ex.f, .int .i64 ex.t, .int .i64 ex.l] 27) := ⟨_, rfl⟩
          rw [← hw7] at hb7 k0 k1 k2 ⊢
          have HF7 := Lib.hid (HF6.out.trans hb7)
          have HS7 := Lib.hid (HS6.out.no hb7)
          have b0 : ∀ W, Fx No w7 W → W.cell? ⟨w6.heap.size, 0, none⟩ = some (.int .i64 ex.f) := fun W h => h.cell' k0 (fun q => q)
          have b1 : ∀ W, Fx No w7 W → W.cell? ⟨w6.heap.size, 1, none⟩ = some (.int .i64 ex.t) := fun W h => h.cell' k1 (fun q => q)
          have b2 : ∀ W, Fx No w7 W → W.cell? ⟨w6.heap.size, 2, none⟩ = some (.int .i64 ex.l) := fun W h => h.cell' k2 (fun q => q)
          have CW : Hid (∀ W, Fx No w7 W → Calls Tryz.prog 57 #[.pointer (some ⟨sb, 0, none⟩), .pointer (some ⟨b, 0, none⟩), .int .i64 (m : Nat)] W fun e w' => ∃ v', e = .returned v' ∧ Fx No W w' ∧ OwnT 27 e3 3 w' w7.heap.size v' (wayE L (gF fl) d m)) := Lib.hid fun W hW => by
            refine (way_any ((H.out.no HF7.out).no hW) (HS7.out.no hW) HK.out hmN HM.out).mono ?_
            rintro e w' ⟨v', h1, h2, h3⟩
            exact ⟨v', h1, h2, OwnT.base h3 hW.size⟩
          clear hb7 k0 k1 k2 hw7
          refine wp_region_inv (act := ?act) (Inv := T17I w7 w6.heap.size sb b ex (wayE L (gF fl) d m)) (by kernel_rfl) (by kernel_rfl) (by kernel_rfl) ?hact ?h0 ?hs ?hdone
          case hact => intro x; simp only [actX, setAll, List.setIfInBounds_toArray, List.set_cons_zero, List.set_cons_succ]; rfl
          case h0 => exact ⟨(Fx.refl _ _).drew, fun h0 => Bool.noConfusion h0, fun h0 h1 => Bool.noConfusion h0, fun h0 => Bool.noConfusion h0, fun h0 => Bool.noConfusion h0, fun h0 => Bool.noConfusion h0, fun h0 => Bool.noConfusion h0, fun h0 h1 => Bool.noConfusion h0, fun h0 => Bool.noConfusion h0, fun h0 => Bool.noConfusion h0, fun h0 => Bool.noConfusion h0⟩
          case hs =>
            refine ⟨?_, ?_, ?_, ?_, ?_, ?_, ?_, ?_, ?_, ?_, trivial⟩
            · intro LL xx ww hI hL hD hC K hK
              dsimp only at hK ⊢
              have n1 : LL 1 = false := off_of hC hL 1 (by kernel_rfl)
              have n7 : LL 7 = false := off_of hC n1 7 (by kernel_rfl)
              have n8 : LL 8 = false := off_of hC hL 8 (by kernel_rfl)
              have n9 : LL 9 = false := off_of hC hL 9 (by kernel_rfl)
              have p0 := b0 _ hI.base
              have p1 := b1 _ hI.base
              have p2 := b2 _ hI.base
              clear hD hC
              go_simp
              refine hK.out (.agg #[.int .i64 ex.f, .int .i64 ex.t, .int .i64 ex.l]) _ _ rfl ⟨hI.base, fun h0 => rfl, fun h0 h1 => Bool.noConfusion ((show false = LL 1 from n1.symm).trans h0), hI.f2, hI.f3, hI.f4, hI.f5, hI.f6, fun h0 => Bool.noConfusion ((show false = LL 7 from n7.symm).trans h0), fun h0 => Bool.noConfusion ((show false = LL 8 from n8.symm).trans h0), fun h0 => Bool.noConfusion ((show false = LL 9 from n9.symm).trans h0)⟩
            · intro LL xx ww hI hL hD hC K hK
              dsimp only at hK ⊢
              have d0 : LL 0 = true := dep_of hD 0 (by kernel_rfl)
              have n7 : LL 7 = false := off_of hC hL 7 (by kernel_rfl)
              have n8 : LL 8 = false := off_of hC hL 8 (by kernel_rfl)
              have n9 : LL 9 = false := off_of hC hL 9 (by kernel_rfl)
              have e1 := hI.f0 d0
              have hfi : Fx No ww (ww.alloc (.cells #[.int .i64 ex.f, .int .i64 ex.t, .int .i64 ex.l] 27)) := (Fx.refl No _).alloc _
              simp only [e1] at hK ⊢
              clear hD hC
              go_simp
              refine hK.out (.slice (some ⟨ww.heap.size, 0, none⟩) 1 1) _ _ rfl ⟨hI.base.trans hfi, hI.f0, fun h0 h1 => ⟨_, rfl, World.ownsRow_lit (base := w7.heap.size) (e := 27) (size := 3) ww #[.int .i64 ex.f, .int .i64 ex.t, .int .i64 ex.l] 1 hI.base.size (by unfold maxLen; omega) rfl⟩, hI.f2, hI.f3, hI.f4, hI.f5, fun h0 h1 => (OwnT.no (hI.f6 h0 h1) hfi), fun h0 => Bool.noConfusion ((show false = LL 7 from n7.symm).trans h0), fun h0 => Bool.noConfusion ((show false = LL 8 from n8.symm).trans h0), fun h0 => Bool.noConfusion ((show false = LL 9 from n9.symm).trans h0)⟩
            · intro LL xx ww hI hL hD hC K hK
              dsimp only at hK ⊢
              have n6 : LL 6 = false := off_of hC hL 6 (by kernel_rfl)
              have n7 : LL 7 = false := off_of hC n6 7 (by kernel_rfl)
              have n8 : LL 8 = false := off_of hC hL 8 (by kernel_rfl)
              have n9 : LL 9 = false := off_of hC hL 9 (by kernel_rfl)
              clear hD hC
              go_simp
              refine hK.out (.pointer (some ⟨sb, 0, none⟩)) _ _ rfl ⟨hI.base, hI.f0, hI.f1, fun h0 => rfl, hI.f3, hI.f4, hI.f5, fun h0 h1 => Bool.noConfusion ((show false = LL 6 from n6.symm).trans h0), fun h0 => Bool.noConfusion ((show false = LL 7 from n7.symm).trans h0), fun h0 => Bool.noConfusion ((show false = LL 8 from n8.symm).trans h0), fun h0 => Bool.noConfusion ((show false = LL 9 from n9.symm).trans h0)⟩
            · intro LL xx ww hI hL hD hC K hK
              dsimp only at hK ⊢
              have n6 : LL 6 = false := off_of hC hL 6 (by kernel_rfl)
              have n7 : LL 7 = false := off_of hC n6 7 (by kernel_rfl)
              have n8 : LL 8 = false := off_of hC hL 8 (by kernel_rfl)
              have n9 : LL 9 = false := off_of hC hL 9 (by kernel_rfl)
              clear hD hC
              go_simp
              refine hK.out (.pointer (some ⟨b, 0, none⟩)) _ _ rfl ⟨hI.base, hI.f0, hI.f1, hI.f2, fun h0 => rfl, hI.f4, hI.f5, fun h0 h1 => Bool.noConfusion ((show false = LL 6 from n6.symm).trans h0), fun h0 => Bool.noConfusion ((show false = LL 7 from n7.symm).trans h0), fun h0 => Bool.noConfusion ((show false = LL 8 from n8.symm).trans h0), fun h0 => Bool.noConfusion ((show false = LL 9 from n9.symm).trans h0)⟩
            · intro LL xx ww hI hL hD hC K hK
              dsimp only at hK ⊢
              have n5 : LL 5 = false := off_of hC hL 5 (by kernel_rfl)
              have n6 : LL 6 = false := off_of hC n5 6 (by kernel_rfl)
              have n7 : LL 7 = false := off_of hC n6 7 (by kernel_rfl)
              have n8 : LL 8 = false := off_of hC hL 8 (by kernel_rfl)
              have n9 : LL 9 = false := off_of hC hL 9 (by kernel_rfl)
              clear hD hC
              go_simp
              refine hK.out (.pointer (some ⟨w6.heap.size, 1, none⟩)) _ _ rfl ⟨hI.base, hI.f0, hI.f1, hI.f2, hI.f3, fun h0 => rfl, fun h0 => Bool.noConfusion ((show false = LL 5 from n5.symm).trans h0), fun h0 h1 => Bool.noConfusion ((show false = LL 6 from n6.symm).trans h0), fun h0 => Bool.noConfusion ((show false = LL 7 from n7.symm).trans h0), fun h0 => Bool.noConfusion ((show false = LL 8 from n8.symm).trans h0), fun h0 => Bool.noConfusion ((show false = LL 9 from n9.symm).trans h0)⟩
            · intro LL xx ww hI hL hD hC K hK
              dsimp only at hK ⊢
              have d4 : LL 4 = true := dep_of hD 4 (by kernel_rfl)
              have n6 : LL 6 = false := off_of hC hL 6 (by kernel_rfl)
              have n7 : LL 7 = false := off_of hC n6 7 (by kernel_rfl)
              have n8 : LL 8 = false := off_of hC hL 8 (by kernel_rfl)
              have n9 : LL 9 = false := off_of hC hL 9 (by kernel_rfl)
              have e1 := hI.f4 d4
              simp only [e1] at hK ⊢
              have p1 := b1 _ hI.base
              clear hD hC
              go_simp
              refine hK.out (.int .i64 ex.t) _ _ rfl ⟨hI.base, hI.f0, hI.f1, hI.f2, hI.f3, hI.f4, fun h0 => rfl, fun h0 h1 => Bool.noConfusion ((show false = LL 6 from n6.symm).trans h0), fun h0 => Bool.noConfusion ((show false = LL 7 from n7.symm).trans h0), fun h0 => Bool.noConfusion ((show false = LL 8 from n8.symm).trans h0), fun h0 => Bool.noConfusion ((show false = LL 9 from n9.symm).trans h0)⟩
            · intro LL xx ww hI hL hD hC K hK
              dsimp only at hK ⊢
              have d2 : LL 2 = true := dep_of hD 2 (by kernel_rfl)
              have d3 : LL 3 = true := dep_of hD 3 (by kernel_rfl)
              have d5 : LL 5 = true := dep_of hD 5 (by kernel_rfl)
              have n7 : LL 7 = false := off_of hC hL 7 (by kernel_rfl)
              have n8 : LL 8 = false := off_of hC hL 8 (by kernel_rfl)
              have n9 : LL 9 = false := off_of hC hL 9 (by kernel_rfl)
              have e1 := hI.f2 d2
              have e2 := hI.f3 d3
              have e3' := hI.f5 d5
              rw [HTm.out] at e3'
              simp only [e1, e2, e3'] at hK ⊢
              clear hD hC
              go_simp
              refine (CW.out _ hI.base).mono ?_
              rintro e w' ⟨v6, rfl, hfi, ho6⟩
              refine hK.out (v6) _ _ rfl ⟨hI.base.trans hfi, hI.f0, fun h0 h1 => (let ⟨q, e, h⟩ := (hI.f1 h0 h1); ⟨q, e, ownsRow_fx h hfi (fun _ _ h => h)⟩), hI.f2, hI.f3, hI.f4, hI.f5, fun h0 h1 => ho6, fun h0 => Bool.noConfusion ((show false = LL 7 from n7.symm).trans h0), fun h0 => Bool.noConfusion ((show false = LL 8 from n8.symm).trans h0), fun h0 => Bool.noConfusion ((show false = LL 9 from n9.symm).trans h0)⟩
            · intro LL xx ww hI hL hD hC K hK
              dsimp only at hK ⊢
              have d1 : LL 1 = true := dep_of hD 1 (by kernel_rfl)
              have d6 : LL 6 = true := dep_of hD 6 (by kernel_rfl)
              have n8 : LL 8 = false := off_of hC hL 8 (by kernel_rfl)
              have n9 : LL 9 = false := off_of hC hL 9 (by kernel_rfl)
              obtain ⟨q, e1, ho⟩ := hI.f1 d1 hL
              have ho6 := hI.f6 d6 hL
              obtain ⟨v6, e6⟩ : ∃ v6, xx 6 = v6 := ⟨_, rfl⟩
              rw [e6] at ho6
              simp only [e1, e6] at hK ⊢
              clear hD hC
              refine step_append_sl ?g0 ?g1 (.tmp 59) (.tmp 64) 23 ?g2 w7.heap.size 27 Tryz.underlying23 hif hzf hsf hbf rfl (by decide) (.slice (some ⟨q, 0, none⟩) 1 1) 1 (ints (e3 ex)) ?g3 ho _ v6 (wayE L (gF fl) d m).length (icells e3 (wayE L (gF fl) d m)) ?g4 ho6.row (icells_one _) ?g5 ?g6 hI.base.size ?g7
              case g0 => rfl
              case g1 => rfl
              case g2 => rfl
              case g3 => rfl
              case g4 => rfl
              case g5 => rw [wayE_len]; unfold maxLen; omega
              case g6 => rw [wayE_len]; omega
              intro v7 w' ho7 hfi
              refine hK.out (v7) _ _ rfl ⟨hI.base.trans' hfi (fun j hj hk => by have := (World.ownsRow.lt ho j hj).1; omega), hI.f0, fun h0 h1 => Bool.noConfusion (show true = false from h1), hI.f2, hI.f3, hI.f4, hI.f5, fun h0 h1 => Bool.noConfusion (show true = false from h1), fun h0 => (show w'.ownsRow w7.heap.size 27 3 v7 (ex :: wayE L (gF fl) d m).length (icells e3 (ex :: wayE L (gF fl) d m)) from (by rw [List.length_cons, Nat.add_comm, icells_cons]; exact ho7)), fun h0 => Bool.noConfusion ((show false = LL 8 from n8.symm).trans h0), fun h0 => Bool.noConfusion ((show false = LL 9 from n9.symm).trans h0)⟩
            · intro LL xx ww hI hL hD hC K hK
              dsimp only at hK ⊢
              have d0 : LL 0 = true := dep_of hD 0 (by kernel_rfl)
              have d1 : LL 1 = true := dep_of hD 1 (by kernel_rfl)
              have d2 : LL 2 = true := dep_of hD 2 (by kernel_rfl)
              have d3 : LL 3 = true := dep_of hD 3 (by kernel_rfl)
              have d4 : LL 4 = true := dep_of hD 4 (by kernel_rfl)
              have d5 : LL 5 = true := dep_of hD 5 (by kernel_rfl)
              have d6 : LL 6 = true := dep_of hD 6 (by kernel_rfl)
              have d7 : LL 7 = true := dep_of hD 7 (by kernel_rfl)
              have n9 : LL 9 = false := off_of hC hL 9 (by kernel_rfl)
              obtain ⟨v7, e7⟩ : ∃ v7, xx 7 = v7 := ⟨_, rfl⟩
              simp only [e7] at hK ⊢
              clear hD hC
              go_simp
              refine hK.out (v7) _ _ rfl ⟨hI.base, hI.f0, hI.f1, hI.f2, hI.f3, hI.f4, hI.f5, hI.f6, hI.f7, fun h0 => e7.symm, fun h0 => Bool.noConfusion ((show false = LL 9 from n9.symm).trans h0)⟩
            · intro LL xx ww hI hL hD hC K hK
              dsimp only at hK ⊢
              have d0 : LL 0 = true := dep_of hD 0 (by kernel_rfl)
              have d1 : LL 1 = true := dep_of hD 1 (by kernel_rfl)
              have d2 : LL 2 = true := dep_of hD 2 (by kernel_rfl)
              have d3 : LL 3 = true := dep_of hD 3 (by kernel_rfl)
              have d4 : LL 4 = true := dep_of hD 4 (by kernel_rfl)
              have d5 : LL 5 = true := dep_of hD 5 (by kernel_rfl)
              have d6 : LL 6 = true := dep_of hD 6 (by kernel_rfl)
              have d7 : LL 7 = true := dep_of hD 7 (by kernel_rfl)
              have d8 : LL 8 = true := dep_of hD 8 (by kernel_rfl)
              clear hD hC
              go_simp
              refine hK.out (.int .i64 0) _ _ rfl ⟨hI.base, hI.f0, hI.f1, hI.f2, hI.f3, hI.f4, hI.f5, hI.f6, hI.f7, hI.f8, fun h0 => rfl⟩
          case hdone =>
            intro LL xx ww hI hL
            have l0 := hL 0 (by decide)
            have l1 := hL 1 (by decide)
            have l2 := hL 2 (by decide)
            have l3 := hL 3 (by decide)
            have l4 := hL 4 (by decide)
            have l5 := hL 5 (by decide)
            have l6 := hL 6 (by decide)
            have l7 := hL 7 (by decide)
            have l8 := hL 8 (by decide)
            have l9 := hL 9 (by decide)
            clear hL
            try dsimp only
            have e8 := hI.f8 l8
            have e9 := hI.f9 l9
            have HO := Lib.hid (hI.f7 l7)
            have HFl := Lib.hid (HF7.out.trans hI.base)
            simp only [e8, e9]
            go_wp2
            go_ret2
            rw [HP3.out]
            exact ⟨_, rfl, HFl.out, OwnT.base HO.out HF7.out.size⟩
  · have C2 := node_any H.out n
    rw [decide_eq_false hn] at C2
    have HC2 := Lib.hid C2
    clear C2
    have HP : Hid (throughR L N n = ([], 130)) := Lib.hid (by rw [throughR, if_neg hn])
    clear hn
    go_enter Tryz.func52, Tryz.ntmps52
    go_wp2_with fail
    refine HC2.out.mono ?_
    rintro e w2 ⟨rfl, rfl⟩
    go_wp2
    go_ret2
    rw [HP.out]
    exact ⟨_, rfl, Fx.refl _ _, OwnT.nil _ _⟩
end
#print axioms through_any
end Go.Proofs.YtfpggeiphbekoaaGreatDoor.Gr

namespace Go.Proofs.YtfpggeiphbekoaaGreatDoor.Gr
open Go.RowKit
set_option linter.unusedVariables false

def bestR (L : List Ed) (N : Nat) : Nat → List Ed
  | 0 => []
  | k + 1 => if (throughR L N (k : Int)).2 = 0 ∧ (bestR L N k = [] ∨ (throughR L N (k : Int)).1.length < (bestR L N k).length) then (throughR L N (k : Int)).1 else bestR L N k
def shortR (L : List Ed) (N : Nat) : List Ed × Int := if bestR L N N = [] then ([], 150) else (bestR L N N, 0)
theorem walkR_len (L : List Ed) (t : Nat) : ∀ k n, (walkR L t k n).length = k
  | 0, _ => rfl
  | k + 1, n => by rw [walkR, List.length_cons, walkR_len L t k]
theorem firstJ_le {L : List Ed} {t N m least : Nat} : firstJ L t N m least ≤ (N : Int) := by
  rcases firstJ_spec (L := L) (t := t) (N := N) (m := m) least with ⟨h, _⟩ | ⟨k, h, _, h2, _⟩ <;> rw [h] <;> omega
theorem through_len (L : List Ed) (N : Nat) (n : Int) : (throughR L N n).1.length ≤ N := by
  unfold throughR
  split
  · split
    · simp
    · rw [walkR_len]
      have := firstJ_le (L := L) (t := n.toNat) (N := N) (m := n.toNat) (least := 1)
      omega
  · simp
theorem through_pos {L : List Ed} {N : Nat} {n : Int} (h : (throughR L N n).2 = 0) : 0 < (throughR L N n).1.length := by
  unfold throughR at h ⊢
  split at h
  · rename_i h1
    rw [if_pos h1]
    split at h
    · simp at h
    · rename_i h2
      rw [if_neg h2, walkR_len]
      rcases firstJ_spec (L := L) (t := n.toNat) (N := N) (m := n.toNat) 1 with ⟨h3, _⟩ | ⟨k, h3, h4, _⟩
      · rw [h3] at h2; omega
      · rw [h3]; omega
  · simp at h
theorem best_len (L : List Ed) (N : Nat) : ∀ k, (bestR L N k).length ≤ N
  | 0 => by simp [bestR]
  | k + 1 => by
    unfold bestR
    split
    · exact through_len L N _
    · exact best_len L N k
section
variable {w w' : World} {D S T : Nat → Prop} {b N : Nat} {L : List Ed}
theorem throughNil_any (n : Int) : Calls Tryz.prog 52 #[.pointer none, .int .i64 n] w fun e w' => e = .returned (.tuple #[.slice none 0 0, .int .i64 1]) ∧ w = w' := by
  go_enter Tryz.func52, Tryz.ntmps52
  go_wp2
  go_ret2
  exact ⟨rfl, rfl⟩
theorem shortNil_any : Calls Tryz.prog 19 #[.pointer none] w fun e w' => e = .returned (.tuple #[.slice none 0 0, .int .i64 1]) ∧ w = w' := by
  go_enter Tryz.func19, Tryz.ntmps19
  go_wp2
  go_ret2
  exact ⟨rfl, rfl⟩
theorem eqNil (W : World) : (binOp .eql 23 (.slice none 0 0) (.slice none 0 0)).run Tryz.prog W = .ok (.bool true) W := by
  kernel_rfl
theorem eqSome (a : Addr) (n c : Nat) (W : World) : (binOp .eql 23 (.slice (some a) n c) (.slice none 0 0)).run Tryz.prog W = .ok (.bool false) W := by
  kernel_rfl
set_option maxRecDepth 100000 in
set_option maxHeartbeats 2000000 in
theorem short_any (h : GraphV w D b N L) (hl : L.length ≤ 999999) :
    Calls Tryz.prog 19 #[.pointer (some ⟨b, 0, none⟩)] w fun e w' => ∃ v', e = .returned (.tuple #[v', .int .i64 (shortR L N).2]) ∧ Fx No w w' ∧ OwnT 27 e3 3 w' w.heap.size v' (shortR L N).1 := by
  have H := Lib.hid h
  have HL := Lib.hid hl
  have hnn := h.nn
  have hq0 := eqNil
  have hq1 := eqSome
  clear h hl
  go_enter Tryz.func19, Tryz.ntmps19
  go_wp2_with fail
  refine (gLen_any H.out).mono ?_
  rintro e w2 ⟨rfl, rfl⟩
  go_wp2
  go_loopw [2, 11] (fun bv i ws => ∃ k : Nat, i = .int .i64 k ∧ k ≤ N ∧ Fx No w ws ∧ OwnT 27 e3 3 ws w.heap.size bv (bestR L N k) ∧ (bestR L N k = [] → bv = .slice none 0 0)) (fun _ i _ => N - (intOf i).toNat)
  case atStart => exact ⟨0, rfl, Nat.zero_le _, Fx.refl _ _, OwnT.nil _ _, fun _ => rfl⟩
  case round =>
    obtain ⟨k, rfl, hk, hf, ho, hn⟩ := hrel
    have HF := Lib.hid hf
    have HO := Lib.hid ho
    have HN := Lib.hid hn
    have hzr := hf.size
    by_cases hlt : k < N
    · have hk0 : (0 : Int) ≤ (k : Int) := by omega
      have hk1 : (k : Int) < (N : Int) := by omega
      have CT := Lib.hid (through_any (H.out.no hf) HL.out (k : Int))
      have HB : Hid (bestR L N (k + 1) = if (throughR L N (k : Int)).2 = 0 ∧ (bestR L N k = [] ∨ (throughR L N (k : Int)).1.length < (bestR L N k).length) then (throughR L N (k : Int)).1 else bestR L N k) := Lib.hid rfl
      have HPo : Hid ((throughR L N (k : Int)).2 = 0 → 0 < (throughR L N (k : Int)).1.length) := Lib.hid through_pos
      have HLe := Lib.hid (through_len L N (k : Int))
      obtain ⟨⟨tl, tc⟩, ht⟩ : ∃ t, t = throughR L N (k : Int) := ⟨_, rfl⟩
      rw [← ht] at CT HB HPo HLe
      obtain ⟨bs, hbs⟩ : ∃ bs, bs = bestR L N k := ⟨_, rfl⟩
      have hlen := best_len L N k
      rw [← hbs] at HB HO HN hlen
      clear hf ho hn ht hbs
      go_wp2_with fail
      refine CT.out.mono ?_
      rintro e w3 ⟨v3, rfl, hf3, ho3⟩
      have HF3 := Lib.hid (HF.out.trans hf3)
      have HO3 := Lib.hid (OwnT.base ho3 hzr)
      have HOb := Lib.hid (HO.out.no hf3)
      clear hf3 ho3 CT HO
      by_cases h1 : tc = 0
      · subst h1
        have htl := HPo.out rfl
        obtain ⟨g3, c3, rfl, _, _⟩ := ownsRow_pos HO3.out htl
        by_cases h2 : bs = []
        · subst h2
          obtain rfl := HN.out rfl
          have HE : Hid (bestR L N (k + 1) = tl) := Lib.hid (by rw [HB.out, if_pos ⟨rfl, .inl rfl⟩])
          go_wp2
          go_roundw
          case rel => exact ⟨k + 1, by go_num, by omega, HF3.out, by rw [HE.out]; exact HO3.out, fun q => by rw [HE.out] at q; rw [q] at htl; simp at htl⟩
          case measure => simp [intOf]; omega
        · have hbl : 0 < bs.length := List.length_pos_iff.2 h2
          obtain ⟨gb, cb, rfl, _, _⟩ := ownsRow_pos HOb.out hbl
          by_cases h3 : tl.length < bs.length
          · have HE : Hid (bestR L N (k + 1) = tl) := Lib.hid (by rw [HB.out, if_pos ⟨rfl, .inr h3⟩])
            have d3 : decide ((tl.length : Int) < (bs.length : Int)) = true := decide_eq_true (by omega)
            clear h2
            go_wp2
            go_roundw
            case rel => exact ⟨k + 1, by go_num, by omega, HF3.out, by rw [HE.out]; exact HO3.out, fun q => by rw [HE.out] at q; rw [q] at htl; simp at htl⟩
            case measure => simp [intOf]; omega
          · have HE : Hid (bestR L N (k + 1) = bs) := Lib.hid (by rw [HB.out, if_neg (fun c => c.2.elim h2 h3)])
            have d3 : decide ((tl.length : Int) < (bs.length : Int)) = false := decide_eq_false (by omega)
            clear h2
            go_wp2
            go_roundw
            case rel => exact ⟨k + 1, by go_num, by omega, HF3.out, by rw [HE.out]; exact HOb.out, fun q => by rw [HE.out] at q; rw [q] at hbl; simp at hbl⟩
            case measure => simp [intOf]; omega
      · have d1 : (tc == 0) = false := by simpa using h1
        have HE : Hid (bestR L N (k + 1) = bs) := Lib.hid (by rw [HB.out, if_neg (fun c => h1 c.1)])
        clear h1
        go_wp2
        go_roundw
        case rel => exact ⟨k + 1, by go_num, by omega, HF3.out, by rw [HE.out]; exact HOb.out, fun q => HN.out (by rw [← HE.out]; exact q)⟩
        case measure => simp [intOf]; omega
    · obtain rfl : k = N := by omega
      have HR : Hid (shortR L k = if bestR L k k = [] then ([], 150) else (bestR L k k, 0)) := Lib.hid rfl
      by_cases h2 : bestR L k k = []
      · obtain rfl := hn h2
        have HR2 : Hid (shortR L k = ([], 150)) := Lib.hid (by rw [HR.out, if_pos h2])
        clear hf ho hn h2
        go_wp2
        go_ret2
        rw [HR2.out]
        exact ⟨_, rfl, HF.out, OwnT.nil _ _⟩
      · have hbl : 0 < (bestR L k k).length := List.length_pos_iff.2 h2
        obtain ⟨gb, cb, rfl, _, _⟩ := ownsRow_pos ho hbl
        have HR2 : Hid (shortR L k = (bestR L k k, 0)) := Lib.hid (by rw [HR.out, if_neg h2])
        clear hf ho hn h2
        go_wp2
        go_ret2
        rw [HR2.out]
        exact ⟨_, rfl, HF.out, HO.out⟩
end
#print axioms short_any
end Go.Proofs.YtfpggeiphbekoaaGreatDoor.Gr
