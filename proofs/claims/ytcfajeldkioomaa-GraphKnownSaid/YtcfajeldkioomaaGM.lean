/- graph: Add. -/
import Derived.Test.YtcfajeldkioomaaGL
namespace Go.Proofs.Ytcfajeldkioomaa
open Go.RowKit
set_option linter.unusedVariables false

/-- edges more -/
def addL (L xs : List Ed) : List Ed := xs.foldl (fun l x => insE x l) L
theorem addL_snoc (L xs : List Ed) (x : Ed) : addL L (xs ++ [x]) = insE x (addL L xs) := by simp [addL]
theorem addL_asc {L : List Ed} (h : Asc L) : ∀ xs, Asc (addL L xs) := by
  intro xs
  induction xs generalizing L with
  | nil => exact h
  | cons x xs ih => exact ih h.ins
theorem mem_addL {L : List Ed} {y : Ed} : ∀ {xs}, y ∈ addL L xs ↔ y ∈ L ∨ y ∈ xs := by
  intro xs
  induction xs generalizing L with
  | nil => simp [addL]
  | cons x xs ih =>
    show y ∈ addL (insE x L) xs ↔ _
    rw [ih, mem_insE, List.mem_cons]
    constructor
    · rintro ((h | h) | h)
      · exact .inr (.inl h)
      · exact .inl h
      · exact .inr (.inr h)
    · rintro (h | h | h)
      · exact .inl (.inr h)
      · exact .inl (.inl h)
      · exact .inr h
theorem insE_len (e : Ed) : ∀ l : List Ed, l.length ≤ (insE e l).length ∧ (insE e l).length ≤ l.length + 1
  | [] => by simp [insE]
  | x :: l => by
    unfold insE
    have := insE_len e l
    split
    · simp
    · split
      · simp
      · simp; omega
theorem addL_len (L xs : List Ed) : L.length ≤ (addL L xs).length ∧ (addL L xs).length ≤ L.length + xs.length := by
  induction xs generalizing L with
  | nil => simp [addL]
  | cons x xs ih =>
    have h1 := ih (insE x L)
    have h2 := insE_len x L
    show _ ≤ (addL (insE x L) xs).length ∧ (addL (insE x L) xs).length ≤ _
    rw [List.length_cons]; omega
theorem DU.du {D : Nat → Prop} {a b c : World} (h1 : a.heap.size ≤ b.heap.size) (h2 : b.heap.size ≤ c.heap.size) {x : Nat} (h : DU (DU D a b) b c x) : DU D a c x := by
  rcases h with (h | ⟨h3, h4⟩) | ⟨h3, h4⟩
  · exact .inl h
  · exact .inr ⟨h3, by omega⟩
  · exact .inr ⟨by omega, h4⟩
theorem good_of {n : Nat} {xs : List Ed} (h : xs.any (badE n) = false) : ∀ x ∈ xs, (0 ≤ x.f ∧ x.f < (n : Int)) ∧ 0 ≤ x.t ∧ x.t < (n : Int) := by
  intro x hx
  have := List.any_eq_false.1 h x hx
  simpa [badE] using this
section
variable {w w' : World} {D S T E : Nat → Prop} {b n : Nat} {L : List Ed} {v : Value} {xs : List Ed}
set_option maxRecDepth 100000 in
set_option maxHeartbeats 2000000 in
theorem gAdd_no (h : GraphV w D b n L) (hx : EdsV w E v xs) (hbad : xs.any (badE n) = true) : Calls Try.prog 19 #[.pointer (some ⟨b, 0, none⟩), v] w fun r w' => r = .returned (.tuple #[.int .i64 0, .int .i64 130]) ∧ Fx No w w' := by
  have H := Lib.hid h
  have HX := Lib.hid hx
  have CF : Hid (∀ W, W = w.alloc (.cells #[.pointer (some ⟨b, 0, none⟩)] 27) → Calls Try.prog 47 #[v, .func (.func 48) #[] #[.pointer (some ⟨w.heap.size, 0, none⟩)]] W fun r w' => r = .returned (.bool true) ∧ Fx No W w') := Lib.hid fun W hW => by
    subst hW
    have hf : Fx No w (w.alloc (.cells #[.pointer (some ⟨b, 0, none⟩)] 27)) := (Fx.refl No w).alloc _
    refine (containsFunc_any (p := badE n) (HX.out.no hf) (fun W hf2 x hx => add1_any (H.out.no (hf.trans hf2)) (hf2.cell' (by simp) (fun h => h)) x)).mono ?_
    rintro r w' ⟨h1, h2⟩
    exact ⟨by rw [h1, hbad], h2⟩
  clear h hx hbad
  go_enter Try.func19, Try.ntmps19
  go_wp2_with fail
  refine (CF.out _ rfl).mono ?_
  rintro r w1 ⟨rfl, hf⟩
  have HF : Hid (Fx No w w1) := Lib.hid (((Fx.refl No w).alloc _).trans hf)
  clear hf CF
  go_wp2
  go_ret2
  exact ⟨rfl, HF.out⟩
set_option maxRecDepth 100000 in
set_option maxHeartbeats 8000000 in
theorem gAdd_any (h : GraphV w D b n L) (hx : EdsV w E v xs) (hE : ∀ k, E k → ¬ D k) (hok : ∀ x ∈ xs, x.ok) (hgood : xs.any (badE n) = false) (hlen : L.length + xs.length ≤ 1000000) :
    Calls Try.prog 19 #[.pointer (some ⟨b, 0, none⟩), v] w fun r w' => r = .returned (.tuple #[.int .i64 ((addL L xs).length - L.length : Nat), .int .i64 0]) ∧ Fx D w w' ∧ GraphV w' (DU D w w') b n (addL L xs) := by
  have H := Lib.hid h
  have HX0 := Lib.hid (RowV.bound hx)
  have HOk := Lib.hid hok
  have HGo := Lib.hid (good_of hgood)
  have HEd := Lib.hid hE
  have CF : Hid (∀ W, W = w.alloc (.cells #[.pointer (some ⟨b, 0, none⟩)] 27) → Calls Try.prog 47 #[v, .func (.func 48) #[] #[.pointer (some ⟨w.heap.size, 0, none⟩)]] W fun r w' => r = .returned (.bool false) ∧ Fx No W w') := Lib.hid fun W hW => by
    subst hW
    have hf : Fx No w (w.alloc (.cells #[.pointer (some ⟨b, 0, none⟩)] 27)) := (Fx.refl No w).alloc _
    refine (containsFunc_any (p := badE n) (hx.no hf) (fun W hf2 x hx => add1_any (H.out.no (hf.trans hf2)) (hf2.cell' (by simp) (fun h => h)) x)).mono ?_
    rintro r w' ⟨h1, h2⟩
    exact ⟨by rw [h1, hgood], h2⟩
  have hbD : D b := by obtain ⟨_, _, _, _, _, hp⟩ := h.ex; exact hp.db
  have hal := addL_len L xs
  clear h hx hok hgood hE
  obtain ⟨ao, cap, rfl, hcl, hcm, hc⟩ := EdsV.facts HX0.out
  have HC := Lib.hid hc
  clear hc
  go_enter Try.func19, Try.ntmps19
  go_wp2_with fail
  refine (CF.out _ rfl).mono ?_
  rintro r wx ⟨rfl, hf⟩
  have HFx : Hid (Fx No w wx) := Lib.hid (((Fx.refl No w).alloc _).trans hf)
  obtain ⟨gb, hgb⟩ : ∃ q, q = w.heap.size := ⟨_, rfl⟩
  have cg : wx.cell? ⟨gb, 0, none⟩ = some (.pointer (some ⟨b, 0, none⟩)) := by rw [hgb]; exact hf.cell' (by simp) (fun h => h)
  rw [← hgb]
  have HGb := Lib.hid hgb
  have HG := Lib.hid cg
  have hgD : Hid (¬ D gb) := Lib.hid fun h => by have := H.out.lt gb h; omega
  have hgx : gb < wx.heap.size := World.block_lt_of_cell? wx _ cg
  obtain ⟨ob0, ib0, mb0, DO0, DI0, hp0⟩ := (H.out.no HFx.out).ex
  have c2 := hp0.c2
  have hlenm : ∀ ty, (Builtin.len_ #[76] ty #[.map (some mb0)]).run Try.prog wx = .ok (.int .i64 (L.length : Nat)) wx := hp0.map.len
  clear hf CF hgb hp0
  go_wp2
  clear c2 hlenm
  go_loopw [21] (fun i ws => ∃ k : Nat, i = .int .i64 k ∧ k ≤ xs.length ∧ Fx D wx ws ∧ GraphV ws (DU D wx ws) b n (addL L (xs.take k))) (fun i _ => xs.length - (intOf i).toNat)
  case atStart => exact ⟨0, rfl, Nat.zero_le _, Fx.refl _ _, (H.out.no HFx.out).mono (fun _ => .inl) (DU.lt (H.out.no HFx.out).lt (Nat.le_refl _))⟩
  case round =>
    obtain ⟨k, rfl, hk, hf, hg⟩ := hrel
    have HFr := Lib.hid hf
    have HGr := Lib.hid hg
    have cg := hf.cell' HG.out hgD.out
    have hwr := hf.size
    have HGD : Hid (¬ DU D wx wr gb) := Lib.hid fun h => by
      rcases h with h | h
      · exact hgD.out h
      · have := h.1; omega
    clear hf hg
    by_cases hlt : k < xs.length
    · obtain ⟨bb, oo, rfl, hbb, p0, p1, p2⟩ := HC.out k hlt
      have hmem := gt_mem hlt
      have HTk := Lib.hid (take_gt hlt)
      obtain ⟨x, hxe⟩ : ∃ x, x = gt xs k := ⟨_, rfl⟩
      rw [← hxe] at p0 p1 p2 hmem HTk
      have hnD : ¬ D bb := HEd.out bb hbb.1
      have k0 := HFr.out.cell' (HFx.out.cell' p0 (fun h => h)) hnD
      have k1 := HFr.out.cell' (HFx.out.cell' p1 (fun h => h)) hnD
      have k2 := HFr.out.cell' (HFx.out.cell' p2 (fun h => h)) hnD
      have hnx := HGo.out x hmem
      have hox := HOk.out x hmem
      have HAd : Hid (addL L (xs.take (k + 1)) = insE x (addL L (xs.take k))) := Lib.hid (by rw [HTk.out]; exact addL_snoc _ _ _)
      have hal1 := addL_len L (xs.take k)
      have htk : (xs.take k).length ≤ k := by rw [List.length_take]; omega
      obtain ⟨M, hM⟩ : ∃ M, M = addL L (xs.take k) := ⟨_, rfl⟩
      rw [← hM] at HAd HGr hal1
      have hMl : (insE x M).length ≤ 1000000 := by have := insE_len x M; omega
      have H2 : Hid (GraphV wr (DU D wx wr) b n M) := HGr
      have CH : Hid (∀ W, Fx No wr W → Calls Try.prog 35 #[.pointer (some ⟨b, 0, none⟩), evE x] W fun r w' => r = .returned (.bool (decide (x ∈ M))) ∧ Fx No W w') := Lib.hid fun W hf => gHas_any (HGr.out.no hf) x hox
      obtain ⟨t, ht⟩ : ∃ t, t = decide (x ∈ M) := ⟨_, rfl⟩
      rw [← ht] at CH
      have HT := Lib.hid ht
      obtain ⟨ef, et, el⟩ := x
      simp only at hnx
      obtain ⟨i, rfl⟩ := Int.eq_ofNat_of_zero_le hnx.1.1
      obtain ⟨j, rfl⟩ := Int.eq_ofNat_of_zero_le hnx.2.1
      have hi : i < n := by omega
      have hj : j < n := by omega
      have hk0 : (0 : Int) ≤ (k : Int) := by omega
      have hk1 : (k : Int) < (xs.length : Int) := by omega
      unfold evE at CH
      simp only at CH k0 k1 k2
      have hgr : gb < wr.heap.size := by omega
      have hgne : ¬ gb = wr.heap.size := by omega
      clear p0 p1 p2 hxe ht hM
      go_wp2_with fail
      refine (CH.out _ ((Fx.refl No wr).alloc _)).mono ?_
      rintro r w1 ⟨rfl, hf⟩
      have HF1 : Hid (Fx No wr w1) := Lib.hid (((Fx.refl No wr).alloc _).trans hf)
      obtain ⟨q, hq⟩ : ∃ q, q = wr.heap.size := ⟨_, rfl⟩
      have c0 : w1.cell? ⟨q, 0, none⟩ = some (.int .i64 (i : Int)) := by rw [hq]; exact hf.cell' (by simp) (fun h => h)
      have c1 : w1.cell? ⟨q, 1, none⟩ = some (.int .i64 (j : Int)) := by rw [hq]; exact hf.cell' (by simp) (fun h => h)
      have c2 : w1.cell? ⟨q, 2, none⟩ = some (.int .i64 el) := by rw [hq]; exact hf.cell' (by simp) (fun h => h)
      rw [← hq]
      have HQ0 := Lib.hid c0
      have HQ1 := Lib.hid c1
      have HQ2 := Lib.hid c2
      have Hq := Lib.hid hq
      have HG1 := Lib.hid (HF1.out.cell' cg (fun h => h))
      clear hf c0 c1 c2 CH hgne hgr cg k0 k1 k2
      cases t
      · have HMem : Hid ((⟨i, j, el⟩ : Ed) ∉ M) := Lib.hid (of_decide_eq_false HT.out.symm)
        clear HT
        have HW0 := H
        clear H
        have H := HGr
        obtain ⟨ob, ib, mb, DO, DI, hp⟩ := HGr.out.ex
        have HP := Lib.hid hp
        have hmw := HGr.out.lt mb hp.dm
        have hbm : b ≠ mb := hp.bm
        have hqm : q ≠ mb := by omega
        have hgm : gb ≠ mb := fun e => HGD.out (by rw [e]; exact hp.dm)
        have HP1 := Lib.hid (HP.out.keep HF1.out No.disj)
        clear hp hq
        have g0 : ∀ W, Fx (fun k => k = mb) w1 W → W.cell? ⟨q, 0, none⟩ = some (.int .i64 (i : Int)) := fun W h => h.cell' HQ0.out hqm
        have g1 : ∀ W, Fx (fun k => k = mb) w1 W → W.cell? ⟨q, 1, none⟩ = some (.int .i64 (j : Int)) := fun W h => h.cell' HQ1.out hqm
        have g2 : ∀ W, Fx (fun k => k = mb) w1 W → W.cell? ⟨q, 2, none⟩ = some (.int .i64 el) := fun W h => h.cell' HQ2.out hqm
        have g3 : ∀ W, Fx (fun k => k = mb) w1 W → W.cell? ⟨b, 2, none⟩ = some (.map (some mb)) := fun W h => h.cell' HP1.out.c2 hbm
        have g4 : ∀ W, Fx (fun k => k = mb) w1 W → W.cell? ⟨gb, 0, none⟩ = some (.pointer (some ⟨b, 0, none⟩)) := fun W h => h.cell' HG1.out hgm
        have s0 : Fx (fun k => k = mb) w1 w1 := Fx.refl _ _
        go_wp2_with fail
        refine wp_region_H (fun W => Fx (fun k => k = mb) w1 W) (by kernel_rfl) s0.drew ?_
        intro hS
        refine wpAnyH_take (i := 0) (v := ?_) rfl (by kernel_rfl) (by kernel_rfl) (by kernel_rfl) (fun _ _ _ h => h) (Or.inl ⟨by rfl, ?_⟩) hS ?_
        rotate_left
        · (intro W hs; go_simp; first | done | with_reducible rfl)
        try simp only [Act.put, List.getElem_toArray, List.getElem_cons_zero, List.getElem_cons_succ, List.setIfInBounds_toArray, List.set_cons_zero, List.set_cons_succ]
        refine wpAnyH_take (i := 1) (v := ?_) rfl (by kernel_rfl) (by kernel_rfl) (by kernel_rfl) (fun _ _ _ h => h) (Or.inl ⟨by rfl, ?_⟩) hS ?_
        rotate_left
        · (intro W hs; go_simp; first | done | with_reducible rfl)
        try simp only [Act.put, List.getElem_toArray, List.getElem_cons_zero, List.getElem_cons_succ, List.setIfInBounds_toArray, List.set_cons_zero, List.set_cons_succ]
        refine wpAnyH_take (i := 2) (v := ?_) rfl (by kernel_rfl) (by kernel_rfl) (by kernel_rfl) (fun _ _ _ h => h) (Or.inl ⟨by rfl, ?_⟩) hS ?_
        rotate_left
        · (intro W hs; go_simp; first | done | with_reducible rfl)
        try simp only [Act.put, List.getElem_toArray, List.getElem_cons_zero, List.getElem_cons_succ, List.setIfInBounds_toArray, List.set_cons_zero, List.set_cons_succ]
        refine wpAnyH_take (i := 3) (v := ?_) rfl (by kernel_rfl) (by kernel_rfl) (by kernel_rfl) (fun _ _ _ h => h) (Or.inl ⟨by rfl, ?_⟩) hS ?_
        rotate_left
        · (intro W hs; go_simp; first | done | with_reducible rfl)
        try simp only [Act.put, List.getElem_toArray, List.getElem_cons_zero, List.getElem_cons_succ, List.setIfInBounds_toArray, List.set_cons_zero, List.set_cons_succ]
        refine wpAnyH_take (i := 4) (v := ?_) rfl (by kernel_rfl) (by kernel_rfl) (by kernel_rfl) (fun _ _ _ h => h) (Or.inl ⟨by rfl, ?_⟩) hS ?_
        rotate_left
        · (intro W hs; go_simp; first | done | with_reducible rfl)
        try simp only [Act.put, List.getElem_toArray, List.getElem_cons_zero, List.getElem_cons_succ, List.setIfInBounds_toArray, List.set_cons_zero, List.set_cons_succ]
        refine wpAnyH_take (i := 5) (v := ?_) rfl (by kernel_rfl) (by kernel_rfl) (by kernel_rfl) (fun _ _ _ h => h) (Or.inl ⟨by rfl, ?_⟩) hS ?_
        rotate_left
        · (intro W hs; go_simp; first | done | with_reducible rfl)
        try simp only [Act.put, List.getElem_toArray, List.getElem_cons_zero, List.getElem_cons_succ, List.setIfInBounds_toArray, List.set_cons_zero, List.set_cons_succ]
        obtain ⟨w2, hr2, HM2, HF2⟩ := MapE.store (HP1.out.map.no ((Fx.refl No w1).drew)) H.out.asc H.out.small hox HMem.out
        unfold evE at hr2
        simp only at hr2
        refine wpH_one (i := 6) (by kernel_rfl) rfl (fun K hK => ?_)
        go_simp
        have HF12 : Hid (Fx (fun k => k = mb) w1 w2) := Lib.hid (s0.drew.trans HF2.out)
        refine hK.out _ _ HF12.out (fun _ => ?_)
        clear hK K hS hr2 HF2
        refine wpAnyH_done (by kernel_rfl) ?_ _
        clear g0 g1 g2 g3 g4 s0
        have HO2 := Lib.hid (HP1.out.outs.keep HF12.out (fun k hk e => HP1.out.mO (by have e : k = mb := e; rw [← e]; exact hk)))
        go_wp2_with fail
        have hqDO : ¬ DO q := fun h => by have := H.out.lt q (HP.out.dO q h); rw [Hq.out] at this; omega
        have hqDI : ¬ DI q := fun h => by have := H.out.lt q (HP.out.dI q h); rw [Hq.out] at this; omega
        have HB0 := Lib.hid (HF12.out.cell' HQ0.out hqm)
        have HB1 := Lib.hid (HF12.out.cell' HQ1.out hqm)
        have HB2 := Lib.hid (HF12.out.cell' HQ2.out hqm)
        have HC0 := Lib.hid (HF12.out.cell' HP1.out.c0 hbm)
        have HBg := Lib.hid (HF12.out.cell' HG1.out hgm)
        have hgDO : ¬ DO gb := fun h => HGD.out (HP.out.dO gb h)
        have hgDI : ¬ DI gb := fun h => HGD.out (HP.out.dI gb h)
        have z0 : ∀ W, Fx DO w2 W → W.cell? ⟨q, 0, none⟩ = some (.int .i64 (i : Int)) := fun W h => h.cell' HB0.out hqDO
        have z1 : ∀ W, Fx DO w2 W → W.cell? ⟨q, 1, none⟩ = some (.int .i64 (j : Int)) := fun W h => h.cell' HB1.out hqDO
        have z2 : ∀ W, Fx DO w2 W → W.cell? ⟨q, 2, none⟩ = some (.int .i64 el) := fun W h => h.cell' HB2.out hqDO
        have CD : Hid (∀ W, Fx No w2 W → Calls Try.prog 50 #[.pointer (some ⟨b, 0, none⟩), .int .i64 (i : Nat), .agg #[.int .i64 (i : Int), .int .i64 (j : Int), .int .i64 el]] W fun r w' => r = .returned (.tuple #[]) ∧ Hid (Fx DO W w') ∧ Hid (RowsV w' (DU DO W w') ob n (upd (outE M) i (insE ⟨i, j, el⟩ (outE M i))))) := Lib.hid fun W hf => (put_any (hf.cell' HC0.out (fun h => h)) (HO2.out.no hf) hi H.out.nn (Asc.out H.out.asc i) (Nat.le_trans (outE_len M i) H.out.small) HP.out.bO ⟨i, j, el⟩ (fun h => HMem.out (mem_outE.1 h).1)).mono fun r w' ⟨h1, h2, h3⟩ => ⟨h1, Lib.hid h2, Lib.hid h3⟩
        have zg : ∀ W, Fx DO w2 W → W.cell? ⟨gb, 0, none⟩ = some (.pointer (some ⟨b, 0, none⟩)) := fun W h => h.cell' HBg.out hgDO
        refine wp_region_H (fun W => Fx DO w2 W) (by kernel_rfl) (Fx.refl _ _).drew ?_
        intro hS
        refine wpAnyH_take (i := 0) (v := ?_) rfl (by kernel_rfl) (by kernel_rfl) (by kernel_rfl) (fun _ _ _ h => h) (Or.inl ⟨by rfl, ?_⟩) hS ?_
        rotate_left
        · (intro W hs; go_simp; first | done | with_reducible rfl)
        try simp only [Act.put, List.getElem_toArray, List.getElem_cons_zero, List.getElem_cons_succ, List.setIfInBounds_toArray, List.set_cons_zero, List.set_cons_succ]
        refine wpAnyH_take (i := 1) (v := ?_) rfl (by kernel_rfl) (by kernel_rfl) (by kernel_rfl) (fun _ _ _ h => h) (Or.inl ⟨by rfl, ?_⟩) hS ?_
        rotate_left
        · (intro W hs; go_simp; first | done | with_reducible rfl)
        try simp only [Act.put, List.getElem_toArray, List.getElem_cons_zero, List.getElem_cons_succ, List.setIfInBounds_toArray, List.set_cons_zero, List.set_cons_succ]
        refine wpAnyH_take (i := 2) (v := ?_) rfl (by kernel_rfl) (by kernel_rfl) (by kernel_rfl) (fun _ _ _ h => h) (Or.inl ⟨by rfl, ?_⟩) hS ?_
        rotate_left
        · (intro W hs; go_simp; first | done | with_reducible rfl)
        try simp only [Act.put, List.getElem_toArray, List.getElem_cons_zero, List.getElem_cons_succ, List.setIfInBounds_toArray, List.set_cons_zero, List.set_cons_succ]
        refine wpAnyH_take (i := 3) (v := ?_) rfl (by kernel_rfl) (by kernel_rfl) (by kernel_rfl) (fun _ _ _ h => h) (Or.inl ⟨by rfl, ?_⟩) hS ?_
        rotate_left
        · (intro W hs; go_simp; first | done | with_reducible rfl)
        try simp only [Act.put, List.getElem_toArray, List.getElem_cons_zero, List.getElem_cons_succ, List.setIfInBounds_toArray, List.set_cons_zero, List.set_cons_succ]
        refine wpAnyH_take (i := 4) (v := ?_) rfl (by kernel_rfl) (by kernel_rfl) (by kernel_rfl) (fun _ _ _ h => h) (Or.inl ⟨by rfl, ?_⟩) hS ?_
        rotate_left
        · (intro W hs; go_simp; first | done | with_reducible rfl)
        try simp only [Act.put, List.getElem_toArray, List.getElem_cons_zero, List.getElem_cons_succ, List.setIfInBounds_toArray, List.set_cons_zero, List.set_cons_succ]
        refine wpAnyH_take (i := 5) (v := ?_) rfl (by kernel_rfl) (by kernel_rfl) (by kernel_rfl) (fun _ _ _ h => h) (Or.inl ⟨by rfl, ?_⟩) hS ?_
        rotate_left
        · (intro W hs; go_simp; first | done | with_reducible rfl)
        try simp only [Act.put, List.getElem_toArray, List.getElem_cons_zero, List.getElem_cons_succ, List.setIfInBounds_toArray, List.set_cons_zero, List.set_cons_succ]
        refine wpAnyH_take (i := 6) (v := ?_) rfl (by kernel_rfl) (by kernel_rfl) (by kernel_rfl) (fun _ _ _ h => h) (Or.inl ⟨by rfl, ?_⟩) hS ?_
        rotate_left
        · (intro W hs; go_simp; first | done | with_reducible rfl)
        try simp only [Act.put, List.getElem_toArray, List.getElem_cons_zero, List.getElem_cons_succ, List.setIfInBounds_toArray, List.set_cons_zero, List.set_cons_succ]
        refine wpH_one (i := 7) (by kernel_rfl) rfl (fun K hK => ?_)
        go_simp
        refine (CD.out _ ((Fx.refl No w2).drew)).mono ?_
        rintro r w3 ⟨rfl, HF23, HO3⟩
        have HF23' : Hid (Fx DO w2 w3) := Lib.hid ((Fx.refl DO w2).drew.trans HF23.out)
        refine hK.out _ _ (HF23'.out) (fun hS' => ?_)
        clear hK K hS
        have hS := hS'
        clear hS'
        try simp only [Act.put, List.getElem_toArray, List.getElem_cons_zero, List.getElem_cons_succ, List.setIfInBounds_toArray, List.set_cons_zero, List.set_cons_succ]
        refine wpAnyH_done (by kernel_rfl) ?_ _
        clear z0 z1 z2 zg hS CD HB0 HB1 HB2 HC0 HBg
        have hnb : ¬ DO b := HP.out.bO
        have HB0 := Lib.hid (HF23'.out.cell' (HF12.out.cell' HQ0.out hqm) hqDO)
        have HB1 := Lib.hid (HF23'.out.cell' (HF12.out.cell' HQ1.out hqm) hqDO)
        have HB2 := Lib.hid (HF23'.out.cell' (HF12.out.cell' HQ2.out hqm) hqDO)
        have HBg := Lib.hid (HF23'.out.cell' (HF12.out.cell' HG1.out hgm) hgDO)
        have HC0 := Lib.hid (HF23'.out.cell' (HF12.out.cell' HP1.out.c1 hbm) hnb)
        have HI3 := Lib.hid ((HP1.out.ins.keep HF12.out (fun k hk e => HP1.out.mI (by have e : k = mb := e; rw [← e]; exact hk))).keep HF23'.out (fun k hk e => HP1.out.ap k e hk))
        go_wp2_with fail
        have z0 : ∀ W, Fx DI w3 W → W.cell? ⟨q, 0, none⟩ = some (.int .i64 (i : Int)) := fun W h => h.cell' HB0.out hqDI
        have z1 : ∀ W, Fx DI w3 W → W.cell? ⟨q, 1, none⟩ = some (.int .i64 (j : Int)) := fun W h => h.cell' HB1.out hqDI
        have z2 : ∀ W, Fx DI w3 W → W.cell? ⟨q, 2, none⟩ = some (.int .i64 el) := fun W h => h.cell' HB2.out hqDI
        have CD : Hid (∀ W, Fx No w3 W → Calls Try.prog 50 #[.pointer (some ⟨b, 1, none⟩), .int .i64 (j : Nat), .agg #[.int .i64 (i : Int), .int .i64 (j : Int), .int .i64 el]] W fun r w' => r = .returned (.tuple #[]) ∧ Hid (Fx DI W w') ∧ Hid (RowsV w' (DU DI W w') ib n (upd (inE M) j (insE ⟨i, j, el⟩ (inE M j))))) := Lib.hid fun W hf => (put_any (hf.cell' HC0.out (fun h => h)) (HI3.out.no hf) hj H.out.nn (Asc.inn H.out.asc j) (Nat.le_trans (inE_len M j) H.out.small) HP.out.bI ⟨i, j, el⟩ (fun h => HMem.out (mem_inE.1 h).1)).mono fun r w' ⟨h1, h2, h3⟩ => ⟨h1, Lib.hid h2, Lib.hid h3⟩
        have zg : ∀ W, Fx DI w3 W → W.cell? ⟨gb, 0, none⟩ = some (.pointer (some ⟨b, 0, none⟩)) := fun W h => h.cell' HBg.out hgDI
        refine wp_region_H (fun W => Fx DI w3 W) (by kernel_rfl) (Fx.refl _ _).drew ?_
        intro hS
        refine wpAnyH_take (i := 0) (v := ?_) rfl (by kernel_rfl) (by kernel_rfl) (by kernel_rfl) (fun _ _ _ h => h) (Or.inl ⟨by rfl, ?_⟩) hS ?_
        rotate_left
        · (intro W hs; go_simp; first | done | with_reducible rfl)
        try simp only [Act.put, List.getElem_toArray, List.getElem_cons_zero, List.getElem_cons_succ, List.setIfInBounds_toArray, List.set_cons_zero, List.set_cons_succ]
        refine wpAnyH_take (i := 1) (v := ?_) rfl (by kernel_rfl) (by kernel_rfl) (by kernel_rfl) (fun _ _ _ h => h) (Or.inl ⟨by rfl, ?_⟩) hS ?_
        rotate_left
        · (intro W hs; go_simp; first | done | with_reducible rfl)
        try simp only [Act.put, List.getElem_toArray, List.getElem_cons_zero, List.getElem_cons_succ, List.setIfInBounds_toArray, List.set_cons_zero, List.set_cons_succ]
        refine wpAnyH_take (i := 2) (v := ?_) rfl (by kernel_rfl) (by kernel_rfl) (by kernel_rfl) (fun _ _ _ h => h) (Or.inl ⟨by rfl, ?_⟩) hS ?_
        rotate_left
        · (intro W hs; go_simp; first | done | with_reducible rfl)
        try simp only [Act.put, List.getElem_toArray, List.getElem_cons_zero, List.getElem_cons_succ, List.setIfInBounds_toArray, List.set_cons_zero, List.set_cons_succ]
        refine wpAnyH_take (i := 3) (v := ?_) rfl (by kernel_rfl) (by kernel_rfl) (by kernel_rfl) (fun _ _ _ h => h) (Or.inl ⟨by rfl, ?_⟩) hS ?_
        rotate_left
        · (intro W hs; go_simp; first | done | with_reducible rfl)
        try simp only [Act.put, List.getElem_toArray, List.getElem_cons_zero, List.getElem_cons_succ, List.setIfInBounds_toArray, List.set_cons_zero, List.set_cons_succ]
        refine wpAnyH_take (i := 4) (v := ?_) rfl (by kernel_rfl) (by kernel_rfl) (by kernel_rfl) (fun _ _ _ h => h) (Or.inl ⟨by rfl, ?_⟩) hS ?_
        rotate_left
        · (intro W hs; go_simp; first | done | with_reducible rfl)
        try simp only [Act.put, List.getElem_toArray, List.getElem_cons_zero, List.getElem_cons_succ, List.setIfInBounds_toArray, List.set_cons_zero, List.set_cons_succ]
        refine wpAnyH_take (i := 5) (v := ?_) rfl (by kernel_rfl) (by kernel_rfl) (by kernel_rfl) (fun _ _ _ h => h) (Or.inl ⟨by rfl, ?_⟩) hS ?_
        rotate_left
        · (intro W hs; go_simp; first | done | with_reducible rfl)
        try simp only [Act.put, List.getElem_toArray, List.getElem_cons_zero, List.getElem_cons_succ, List.setIfInBounds_toArray, List.set_cons_zero, List.set_cons_succ]
        refine wpAnyH_take (i := 6) (v := ?_) rfl (by kernel_rfl) (by kernel_rfl) (by kernel_rfl) (fun _ _ _ h => h) (Or.inl ⟨by rfl, ?_⟩) hS ?_
        rotate_left
        · (intro W hs; go_simp; first | done | with_reducible rfl)
        try simp only [Act.put, List.getElem_toArray, List.getElem_cons_zero, List.getElem_cons_succ, List.setIfInBounds_toArray, List.set_cons_zero, List.set_cons_succ]
        refine wpH_one (i := 7) (by kernel_rfl) rfl (fun K hK => ?_)
        go_simp
        refine (CD.out _ ((Fx.refl No w3).drew)).mono ?_
        rintro r w4 ⟨rfl, HF34, HI4⟩
        have HF34' : Hid (Fx DI w3 w4) := Lib.hid ((Fx.refl DI w3).drew.trans HF34.out)
        refine hK.out _ _ (HF34'.out) (fun hS' => ?_)
        clear hK K hS
        have hS := hS'
        clear hS'
        try simp only [Act.put, List.getElem_toArray, List.getElem_cons_zero, List.getElem_cons_succ, List.setIfInBounds_toArray, List.set_cons_zero, List.set_cons_succ]
        refine wpAnyH_done (by kernel_rfl) ?_ _
        clear z0 z1 z2 zg hS CD HB0 HB1 HB2 HC0 HBg
        have HZ := Lib.hid (gparts_step HP1.out (fun x hx => Nat.lt_of_lt_of_le (H.out.lt x hx) HF1.out.size) HM2.out HF12.out HO3.out HF23'.out HI4.out HF34'.out (fun k _ => upd_out_ins H.out.asc rfl k) (fun k _ => upd_in_ins H.out.asc rfl k))
        have HZ2 := Lib.hid (graph_end H.out HF1.out HZ.out H.out.asc.ins (fun y hy => by
          rcases mem_insE.1 hy with rfl | hy
          · exact hnx
          · exact H.out.nodes y hy) hMl)
        have HR1 : Hid (Fx D wx w4) := Lib.hid (HFr.out.trans' HZ2.out.1 fun y hy hl => by
          rcases hy with hy | hy
          · exact hy
          · have := hy.1; omega)
        have HR2 : Hid (GraphV w4 (DU D wx w4) b n (addL L (xs.take (k + 1)))) := Lib.hid (by
          rw [HAd.out]
          have hs4 := HZ2.out.1.size
          exact HZ2.out.2.mono (fun y hy => DU.du hwr hs4 hy) (DU.lt (fun y hy => Nat.lt_of_lt_of_le (HW0.out.lt y hy) HFx.out.size) HR1.out.size))
        clear HZ HZ2 HI3 HI4 HO2 HO3 HM2
        go_wp2
        go_roundw
        case rel => exact ⟨k + 1, by go_num, by omega, HR1.out, HR2.out⟩
        case measure => simp [intOf]; omega
      · have HMem : (⟨i, j, el⟩ : Ed) ∈ M := of_decide_eq_true HT.out.symm
        have HR1 : Hid (Fx D wx w1) := Lib.hid (HFr.out.trans HF1.out.no)
        have HR2 : Hid (GraphV w1 (DU D wx w1) b n (addL L (xs.take (k + 1)))) := Lib.hid (by
          rw [HAd.out, insE_mem HGr.out.asc HMem]
          have hs1 := HF1.out.size
          exact (HGr.out.no HF1.out).mono (fun y hy => DU.du hwr hs1 (.inl hy)) (DU.lt (fun y hy => Nat.lt_of_lt_of_le (H.out.lt y hy) HFx.out.size) HR1.out.size))
        clear HMem HT
        go_wp2
        go_roundw
        case rel => exact ⟨k + 1, by go_num, by omega, HR1.out, HR2.out⟩
        case measure => simp [intOf]; omega
    · obtain rfl : k = xs.length := by omega
      have HGe : Hid (GraphV wr (DU D wx wr) b n (addL L xs)) := Lib.hid (by have h1 := HGr.out; rw [List.take_length] at h1; exact h1)
      obtain ⟨ob, ib, mb, DO, DI, hp⟩ := HGe.out.ex
      have c2 := hp.c2
      have hlenm : ∀ ty, (Builtin.len_ #[76] ty #[.map (some mb)]).run Try.prog wr = .ok (.int .i64 ((addL L xs).length : Nat)) wr := hp.map.len
      obtain ⟨A, hA⟩ : ∃ A, A = (addL L xs).length := ⟨_, rfl⟩
      rw [← hA] at hlenm hal
      have HA := Lib.hid hA
      have hw : IntKind.i64.wrap ((A : Int) - (L.length : Int)) = ((A - L.length : Nat) : Int) := by rw [IntKind.wrap_i64]; omega
      clear hp hA
      go_wp2
      go_ret2
      refine ⟨by rw [← HA.out]; rfl, HFx.out.no.trans HFr.out, ?_⟩
      have z1 := HFx.out.size
      exact HGe.out.mono (fun y hy => by
        rcases hy with hy | ⟨h1, h2⟩
        · exact .inl hy
        · exact .inr ⟨by omega, h2⟩) (DU.lt H.out.lt (by omega))
end
#print axioms gAdd_no
#print axioms gAdd_any
end Go.Proofs.Ytcfajeldkioomaa
