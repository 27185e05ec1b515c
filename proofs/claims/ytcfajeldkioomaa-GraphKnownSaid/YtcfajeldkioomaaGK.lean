/- graph: one edge more, one edge less; Remove. -/
import Derived.Test.YtcfajeldkioomaaGJ
namespace Go.Proofs.Ytcfajeldkioomaa
open Go.RowKit
set_option linter.unusedVariables false

section
variable {w w' : World} {D S T : Nat → Prop} {b n : Nat} {L : List Ed} {ob ib mb : Nat} {DO DI : Nat → Prop}
theorem DU.lt {D : Nat → Prop} {w w' : World} (h : ∀ x, D x → x < w.heap.size) (hs : w.heap.size ≤ w'.heap.size) : ∀ x, DU D w w' x → x < w'.heap.size := by
  rintro x (hx | hx)
  · have := h x hx; omega
  · exact hx.2
theorem GraphV.mono (h : GraphV w D b n L) (hd : ∀ k, D k → T k) (ht : ∀ k, T k → k < w.heap.size) : GraphV w T b n L := by
  obtain ⟨ob, ib, mb, DO, DI, hp⟩ := h.ex
  exact ⟨h.asc, h.nodes, h.small, h.nn, ht, ob, ib, mb, DO, DI, { hp with db := hd _ hp.db, dm := hd _ hp.dm, dO := fun x hx => hd x (hp.dO x hx), dI := fun x hx => hd x (hp.dI x hx) }⟩
theorem GraphV.du (h : GraphV w D b n L) (hf : Fx No w w') : GraphV w' (DU D w w') b n L := (h.no hf).mono (fun _ => .inl) (DU.lt h.lt hf.size)
/-- behind a turn of the map, of a row out, of a row in -/
theorem gparts_step {wc wd we wf : World} {L' : List Ed} {i j : Nat} {xo xi : List Ed} (h : GParts wc D b n L ob ib mb DO DI) (hlt : ∀ x, D x → x < wc.heap.size) (hm : MapE wd mb L') (f1 : Fx (fun k => k = mb) wc wd)
    (ho : RowsV we (DU DO wd we) ob n (upd (outE L) i xo)) (f2 : Fx DO wd we) (hi : RowsV wf (DU DI we wf) ib n (upd (inE L) j xi)) (f3 : Fx DI we wf)
    (eo : ∀ k, k < n → upd (outE L) i xo k = outE L' k) (ei : ∀ k, k < n → upd (inE L) j xi k = inE L' k) : GParts wf (DU D wc wf) b n L' ob ib mb (DU DO wd we) (DU DI we wf) ∧ Fx D wc wf := by
  have z1 := f1.size
  have z2 := f2.size
  have z3 := f3.size
  have ltO : ∀ x, DO x → x < wc.heap.size := fun x hx => hlt x (h.dO x hx)
  have ltI : ∀ x, DI x → x < wc.heap.size := fun x hx => hlt x (h.dI x hx)
  have lb := hlt _ h.db
  have lm := hlt _ h.dm
  have f13 : Fx D wc wf := ((f1.mono fun k _ hk => by have hk : k = mb := hk; rw [hk]; exact h.dm).trans (f2.mono fun k _ hk => h.dO k hk)).trans (f3.mono fun k _ hk => h.dI k hk)
  refine ⟨{ db := .inl h.db, dm := .inl h.dm, dO := ?_, dI := ?_, ap := ?_, bO := ?_, bI := ?_, mO := ?_, mI := ?_, bm := h.bm,
            c0 := f3.cell' (f2.cell' (f1.cell' h.c0 (fun e => h.bm e)) h.bO) h.bI, c1 := f3.cell' (f2.cell' (f1.cell' h.c1 (fun e => h.bm e)) h.bO) h.bI, c2 := f3.cell' (f2.cell' (f1.cell' h.c2 (fun e => h.bm e)) h.bO) h.bI,
            outs := (ho.congr eo).keep f3 ?_, ins := hi.congr ei, map := (hm.keep f2 h.mO).keep f3 h.mI }, f13⟩
  · rintro x (hx | ⟨h1, h2⟩)
    · exact .inl (h.dO x hx)
    · exact .inr ⟨by omega, by omega⟩
  · rintro x (hx | ⟨h1, h2⟩)
    · exact .inl (h.dI x hx)
    · exact .inr ⟨by omega, by omega⟩
  · rintro x (hx | ⟨h1, h2⟩) (hy | ⟨h3, h4⟩)
    · exact h.ap x hx hy
    · have := ltO x hx; omega
    · have := ltI x hy; omega
    · omega
  · rintro (hx | ⟨h1, h2⟩)
    · exact h.bO hx
    · omega
  · rintro (hx | ⟨h1, h2⟩)
    · exact h.bI hx
    · omega
  · rintro (hx | ⟨h1, h2⟩)
    · exact h.mO hx
    · omega
  · rintro (hx | ⟨h1, h2⟩)
    · exact h.mI hx
    · omega
  · rintro x (hx | ⟨h1, h2⟩) hy
    · exact h.ap x hx hy
    · have := ltI x hy; omega
theorem graph_end {w1 w4 : World} {L' : List Ed} {ob ib mb : Nat} {DO DI : Nat → Prop} (h : GraphV w D b n L) (f1 : Fx No w w1) (hz : GParts w4 (DU D w1 w4) b n L' ob ib mb DO DI ∧ Fx D w1 w4) (ha : Asc L') (hn : ∀ x ∈ L', (0 ≤ x.f ∧ x.f < (n : Int)) ∧ 0 ≤ x.t ∧ x.t < (n : Int)) (hs : L'.length ≤ 1000000) :
    Fx D w w4 ∧ GraphV w4 (DU D w w4) b n L' := by
  have z1 := f1.size
  have hp := hz.1
  have hd : ∀ x, DU D w1 w4 x → DU D w w4 x := by
    rintro x (hx | ⟨h1, h2⟩)
    · exact .inl hx
    · exact .inr ⟨by omega, h2⟩
  have hf : Fx D w w4 := f1.no.trans hz.2
  exact ⟨hf, ha, hn, hs, h.nn, DU.lt h.lt hf.size, ob, ib, mb, DO, DI, { hp with db := hd _ hp.db, dm := hd _ hp.dm, dO := fun x hx => hd x (hp.dO x hx), dI := fun x hx => hd x (hp.dI x hx) }⟩
theorem upd_out_del (ha : Asc L) {e : Ed} {i : Nat} (he : e.f = (i : Int)) (k : Nat) : upd (outE L) i (delE e (outE L i)) k = outE (delE e L) k := by
  rw [outE_del ha]
  unfold upd
  split
  · rename_i h; rw [h]
  · rename_i h; rw [delE_outE_other (by omega)]
theorem upd_in_del (ha : Asc L) {e : Ed} {i : Nat} (he : e.t = (i : Int)) (k : Nat) : upd (inE L) i (delE e (inE L i)) k = inE (delE e L) k := by
  rw [inE_del ha]
  unfold upd
  split
  · rename_i h; rw [h]
  · rename_i h; rw [delE_inE_other (by omega)]
theorem upd_out_ins (ha : Asc L) {e : Ed} {i : Nat} (he : e.f = (i : Int)) (k : Nat) : upd (outE L) i (insE e (outE L i)) k = outE (insE e L) k := by
  rw [outE_ins ha]
  unfold upd
  split
  · rename_i h; rw [if_pos (by omega), h]
  · rename_i h; rw [if_neg (by omega)]
theorem upd_in_ins (ha : Asc L) {e : Ed} {i : Nat} (he : e.t = (i : Int)) (k : Nat) : upd (inE L) i (insE e (inE L i)) k = inE (insE e L) k := by
  rw [inE_ins ha]
  unfold upd
  split
  · rename_i h; rw [if_pos (by omega), h]
  · rename_i h; rw [if_neg (by omega)]
set_option maxRecDepth 100000 in
set_option maxHeartbeats 2000000 in
theorem gRemove_any (h : GraphV w D b n L) (e : Ed) (he : e.ok) : Calls Try.prog 27 #[.pointer (some ⟨b, 0, none⟩), evE e] w fun r w' => r = .returned (.bool (decide (e ∈ L))) ∧ Fx D w w' ∧ GraphV w' (DU D w w') b n (delE e L) := by
  have H := Lib.hid h
  by_cases hmem : e ∈ L
  · have hde : decide (e ∈ L) = true := decide_eq_true hmem
    have hnodes := h.nodes e hmem
    obtain ⟨ob, ib, mb, DO, DI, hp⟩ := h.ex
    have HP := Lib.hid hp
    have hbw := h.lt b hp.db
    have hmw := h.lt mb hp.dm
    have hbm : b ≠ mb := hp.bm
    have CH : Hid (∀ W, Fx No w W → Calls Try.prog 35 #[.pointer (some ⟨b, 0, none⟩), evE e] W fun r w' => r = .returned (.bool true) ∧ Fx No W w') := Lib.hid fun W hf => (gHas_any (H.out.no hf) e he).mono fun r w' ⟨h1, h2⟩ => ⟨by rw [h1, hde], h2⟩
    rw [hde]
    obtain ⟨ef, et, el⟩ := e
    simp only at hnodes
    obtain ⟨i, rfl⟩ := Int.eq_ofNat_of_zero_le hnodes.1.1
    obtain ⟨j, rfl⟩ := Int.eq_ofNat_of_zero_le hnodes.2.1
    have hi : i < n := by omega
    have hj : j < n := by omega
    have HMem := Lib.hid hmem
    unfold evE at CH ⊢
    simp only at CH ⊢
    clear h hp hnodes hde hmem he
    go_enter Try.func27, Try.ntmps27
    go_wp2_with fail
    refine (CH.out _ ((Fx.refl No w).alloc _)).mono ?_
    rintro r w1 ⟨rfl, hf⟩
    have HF1 : Hid (Fx No w w1) := Lib.hid (((Fx.refl No w).alloc _).trans hf)
    obtain ⟨q, hq⟩ : ∃ q, q = w.heap.size := ⟨_, rfl⟩
    have c0 : w1.cell? ⟨q, 0, none⟩ = some (.int .i64 (i : Int)) := by rw [hq]; exact hf.cell' (by simp) (fun h => h)
    have c1 : w1.cell? ⟨q, 1, none⟩ = some (.int .i64 (j : Int)) := by rw [hq]; exact hf.cell' (by simp) (fun h => h)
    have c2 : w1.cell? ⟨q, 2, none⟩ = some (.int .i64 el) := by rw [hq]; exact hf.cell' (by simp) (fun h => h)
    rw [← hq]
    have HQ0 := Lib.hid c0
    have HQ1 := Lib.hid c1
    have HQ2 := Lib.hid c2
    have Hq := Lib.hid hq
    have hqm : q ≠ mb := by omega
    have HP1 := Lib.hid (HP.out.keep HF1.out No.disj)
    clear hf c0 c1 c2 CH hq
    have g0 : ∀ W, Fx (fun k => k = mb) w1 W → W.cell? ⟨q, 0, none⟩ = some (.int .i64 (i : Int)) := fun W h => h.cell' HQ0.out hqm
    have g1 : ∀ W, Fx (fun k => k = mb) w1 W → W.cell? ⟨q, 1, none⟩ = some (.int .i64 (j : Int)) := fun W h => h.cell' HQ1.out hqm
    have g2 : ∀ W, Fx (fun k => k = mb) w1 W → W.cell? ⟨q, 2, none⟩ = some (.int .i64 el) := fun W h => h.cell' HQ2.out hqm
    have g3 : ∀ W, Fx (fun k => k = mb) w1 W → W.cell? ⟨b, 2, none⟩ = some (.map (some mb)) := fun W h => h.cell' HP1.out.c2 hbm
    have s0 : Fx (fun k => k = mb) w1 w1 := Fx.refl _ _
    go_wp2_with fail
    refine wp_region_H (fun W => Fx (fun k => k = mb) w1 W) (by kernel_rfl) s0.drew ?_
    intro hS
    refine wpAnyH_take (i := 0) (v := ?_) rfl (by kernel_rfl) (by kernel_rfl) (by kernel_rfl) (fun _ _ _ h => h) (Or.inl ⟨by rfl, ?_⟩) hS ?_
    rotate_left
    · (intro W hs; go_simp; first | done | with_reducible rfl)
    try simp only [Act.put, List.getElem_toArray, List.getElem_cons_zero, List.getElem_cons_succ, List.setIfInBounds_toArray, List.set_cons_zero, List.set_cons_succ]
    refine wpAnyH_take (i := 1) (v := ?_) rfl (by kernel_rfl) (by kernel_rfl) (by kernel_rfl) (fun _ _ _ h => h) (Or.inl ⟨by rfl, ?_⟩) hS ?_
    rotate_left
    · (intro W hs; go_simp; first | done | with_reducible rfl)
    try simp only [Act.put, List.getElem_toArray, List.getElem_cons_zero, List.getElem_cons_succ, List.setIfInBounds_toArray, List.set_cons_zero, List.set_cons_succ]
    refine wpAnyH_take (i := 2) (v := ?_) rfl (by kernel_rfl) (by kernel_rfl) (by kernel_rfl) (fun _ _ _ h => h) (Or.inl ⟨by rfl, ?_⟩) hS ?_
    rotate_left
    · (intro W hs; go_simp; first | done | with_reducible rfl)
    try simp only [Act.put, List.getElem_toArray, List.getElem_cons_zero, List.getElem_cons_succ, List.setIfInBounds_toArray, List.set_cons_zero, List.set_cons_succ]
    refine wpAnyH_take (i := 3) (v := ?_) rfl (by kernel_rfl) (by kernel_rfl) (by kernel_rfl) (fun _ _ _ h => h) (Or.inl ⟨by rfl, ?_⟩) hS ?_
    rotate_left
    · (intro W hs; go_simp; first | done | with_reducible rfl)
    try simp only [Act.put, List.getElem_toArray, List.getElem_cons_zero, List.getElem_cons_succ, List.setIfInBounds_toArray, List.set_cons_zero, List.set_cons_succ]
    refine wpAnyH_take (i := 4) (v := ?_) rfl (by kernel_rfl) (by kernel_rfl) (by kernel_rfl) (fun _ _ _ h => h) (Or.inl ⟨by rfl, ?_⟩) hS ?_
    rotate_left
    · (intro W hs; go_simp; first | done | with_reducible rfl)
    try simp only [Act.put, List.getElem_toArray, List.getElem_cons_zero, List.getElem_cons_succ, List.setIfInBounds_toArray, List.set_cons_zero, List.set_cons_succ]
    obtain ⟨w2, hr2, HM2, HF2⟩ := MapE.drop (HP1.out.map.no ((Fx.refl No w1).drew)) H.out.asc HMem.out 0
    unfold evE at hr2
    simp only at hr2
    refine wpH_one (i := 5) (by kernel_rfl) rfl (fun K hK => ?_)
    go_simp
    have HF12 : Hid (Fx (fun k => k = mb) w1 w2) := Lib.hid (s0.drew.trans HF2.out)
    refine hK.out _ _ HF12.out (fun _ => ?_)
    clear hK K hS hr2 HF2
    refine wpAnyH_done (by kernel_rfl) ?_ _
    clear g0 g1 g2 g3 s0
    have HO2 := Lib.hid (HP1.out.outs.keep HF12.out (fun k hk e => HP1.out.mO (by have e : k = mb := e; rw [← e]; exact hk)))
    go_wp2_with fail
    have hqDO : ¬ DO q := fun h => by have := H.out.lt q (HP.out.dO q h); rw [Hq.out] at this; omega
    have hqDI : ¬ DI q := fun h => by have := H.out.lt q (HP.out.dI q h); rw [Hq.out] at this; omega
    have HB0 := Lib.hid (HF12.out.cell' HQ0.out hqm)
    have HB1 := Lib.hid (HF12.out.cell' HQ1.out hqm)
    have HB2 := Lib.hid (HF12.out.cell' HQ2.out hqm)
    have HC0 := Lib.hid (HF12.out.cell' HP1.out.c0 hbm)
    have z0 : ∀ W, Fx DO w2 W → W.cell? ⟨q, 0, none⟩ = some (.int .i64 (i : Int)) := fun W h => h.cell' HB0.out hqDO
    have z1 : ∀ W, Fx DO w2 W → W.cell? ⟨q, 1, none⟩ = some (.int .i64 (j : Int)) := fun W h => h.cell' HB1.out hqDO
    have z2 : ∀ W, Fx DO w2 W → W.cell? ⟨q, 2, none⟩ = some (.int .i64 el) := fun W h => h.cell' HB2.out hqDO
    have CD : Hid (∀ W, Fx No w2 W → Calls Try.prog 52 #[.pointer (some ⟨b, 0, none⟩), .int .i64 (i : Nat), .agg #[.int .i64 (i : Int), .int .i64 (j : Int), .int .i64 el]] W fun r w' => r = .returned (.tuple #[]) ∧ Hid (Fx DO W w') ∧ Hid (RowsV w' (DU DO W w') ob n (upd (outE L) i (delE ⟨i, j, el⟩ (outE L i))))) := Lib.hid fun W hf => (drop_any (hf.cell' HC0.out (fun h => h)) (HO2.out.no hf) hi H.out.nn (Asc.out H.out.asc i) (Nat.le_trans (outE_len L i) H.out.small) HP.out.bO ⟨i, j, el⟩ (mem_outE.2 ⟨HMem.out, rfl⟩)).mono fun r w' ⟨h1, h2, h3⟩ => ⟨h1, Lib.hid h2, Lib.hid h3⟩
    refine wp_region_H (fun W => Fx DO w2 W) (by kernel_rfl) (Fx.refl _ _).drew ?_
    intro hS
    refine wpAnyH_take (i := 0) (v := ?_) rfl (by kernel_rfl) (by kernel_rfl) (by kernel_rfl) (fun _ _ _ h => h) (Or.inl ⟨by rfl, ?_⟩) hS ?_
    rotate_left
    · (intro W hs; go_simp; first | done | with_reducible rfl)
    try simp only [Act.put, List.getElem_toArray, List.getElem_cons_zero, List.getElem_cons_succ, List.setIfInBounds_toArray, List.set_cons_zero, List.set_cons_succ]
    refine wpAnyH_take (i := 1) (v := ?_) rfl (by kernel_rfl) (by kernel_rfl) (by kernel_rfl) (fun _ _ _ h => h) (Or.inl ⟨by rfl, ?_⟩) hS ?_
    rotate_left
    · (intro W hs; go_simp; first | done | with_reducible rfl)
    try simp only [Act.put, List.getElem_toArray, List.getElem_cons_zero, List.getElem_cons_succ, List.setIfInBounds_toArray, List.set_cons_zero, List.set_cons_succ]
    refine wpAnyH_take (i := 2) (v := ?_) rfl (by kernel_rfl) (by kernel_rfl) (by kernel_rfl) (fun _ _ _ h => h) (Or.inl ⟨by rfl, ?_⟩) hS ?_
    rotate_left
    · (intro W hs; go_simp; first | done | with_reducible rfl)
    try simp only [Act.put, List.getElem_toArray, List.getElem_cons_zero, List.getElem_cons_succ, List.setIfInBounds_toArray, List.set_cons_zero, List.set_cons_succ]
    refine wpAnyH_take (i := 3) (v := ?_) rfl (by kernel_rfl) (by kernel_rfl) (by kernel_rfl) (fun _ _ _ h => h) (Or.inl ⟨by rfl, ?_⟩) hS ?_
    rotate_left
    · (intro W hs; go_simp; first | done | with_reducible rfl)
    try simp only [Act.put, List.getElem_toArray, List.getElem_cons_zero, List.getElem_cons_succ, List.setIfInBounds_toArray, List.set_cons_zero, List.set_cons_succ]
    refine wpAnyH_take (i := 4) (v := ?_) rfl (by kernel_rfl) (by kernel_rfl) (by kernel_rfl) (fun _ _ _ h => h) (Or.inl ⟨by rfl, ?_⟩) hS ?_
    rotate_left
    · (intro W hs; go_simp; first | done | with_reducible rfl)
    try simp only [Act.put, List.getElem_toArray, List.getElem_cons_zero, List.getElem_cons_succ, List.setIfInBounds_toArray, List.set_cons_zero, List.set_cons_succ]
    refine wpAnyH_take (i := 5) (v := ?_) rfl (by kernel_rfl) (by kernel_rfl) (by kernel_rfl) (fun _ _ _ h => h) (Or.inl ⟨by rfl, ?_⟩) hS ?_
    rotate_left
    · (intro W hs; go_simp; first | done | with_reducible rfl)
    try simp only [Act.put, List.getElem_toArray, List.getElem_cons_zero, List.getElem_cons_succ, List.setIfInBounds_toArray, List.set_cons_zero, List.set_cons_succ]
    refine wpAnyH_take (i := 6) (v := ?_) rfl (by kernel_rfl) (by kernel_rfl) (by kernel_rfl) (fun _ _ _ h => h) (Or.inl ⟨by rfl, ?_⟩) hS ?_
    rotate_left
    · (intro W hs; go_simp; first | done | with_reducible rfl)
    try simp only [Act.put, List.getElem_toArray, List.getElem_cons_zero, List.getElem_cons_succ, List.setIfInBounds_toArray, List.set_cons_zero, List.set_cons_succ]
    refine wpH_one (i := 7) (by kernel_rfl) rfl (fun K hK => ?_)
    go_simp
    refine (CD.out _ ((Fx.refl No w2).drew)).mono ?_
    rintro r w3 ⟨rfl, HF23, HO3⟩
    have HF23' : Hid (Fx DO w2 w3) := Lib.hid ((Fx.refl DO w2).drew.trans HF23.out)
    refine hK.out _ _ (HF23'.out) (fun hS' => ?_)
    clear hK K hS
    have hS := hS'
    clear hS'
    try simp only [Act.put, List.getElem_toArray, List.getElem_cons_zero, List.getElem_cons_succ, List.setIfInBounds_toArray, List.set_cons_zero, List.set_cons_succ]
    refine wpAnyH_done (by kernel_rfl) ?_ _
    clear z0 z1 z2 hS CD HB0 HB1 HB2 HC0
    have hnb : ¬ DO b := HP.out.bO
    have HB0 := Lib.hid (HF23'.out.cell' (HF12.out.cell' HQ0.out hqm) hqDO)
    have HB1 := Lib.hid (HF23'.out.cell' (HF12.out.cell' HQ1.out hqm) hqDO)
    have HB2 := Lib.hid (HF23'.out.cell' (HF12.out.cell' HQ2.out hqm) hqDO)
    have HC0 := Lib.hid (HF23'.out.cell' (HF12.out.cell' HP1.out.c1 hbm) hnb)
    have HI3 := Lib.hid ((HP1.out.ins.keep HF12.out (fun k hk e => HP1.out.mI (by have e : k = mb := e; rw [← e]; exact hk))).keep HF23'.out (fun k hk e => HP1.out.ap k e hk))
    go_wp2_with fail
    have z0 : ∀ W, Fx DI w3 W → W.cell? ⟨q, 0, none⟩ = some (.int .i64 (i : Int)) := fun W h => h.cell' HB0.out hqDI
    have z1 : ∀ W, Fx DI w3 W → W.cell? ⟨q, 1, none⟩ = some (.int .i64 (j : Int)) := fun W h => h.cell' HB1.out hqDI
    have z2 : ∀ W, Fx DI w3 W → W.cell? ⟨q, 2, none⟩ = some (.int .i64 el) := fun W h => h.cell' HB2.out hqDI
    have CD : Hid (∀ W, Fx No w3 W → Calls Try.prog 52 #[.pointer (some ⟨b, 1, none⟩), .int .i64 (j : Nat), .agg #[.int .i64 (i : Int), .int .i64 (j : Int), .int .i64 el]] W fun r w' => r = .returned (.tuple #[]) ∧ Hid (Fx DI W w') ∧ Hid (RowsV w' (DU DI W w') ib n (upd (inE L) j (delE ⟨i, j, el⟩ (inE L j))))) := Lib.hid fun W hf => (drop_any (hf.cell' HC0.out (fun h => h)) (HI3.out.no hf) hj H.out.nn (Asc.inn H.out.asc j) (Nat.le_trans (inE_len L j) H.out.small) HP.out.bI ⟨i, j, el⟩ (mem_inE.2 ⟨HMem.out, rfl⟩)).mono fun r w' ⟨h1, h2, h3⟩ => ⟨h1, Lib.hid h2, Lib.hid h3⟩
    refine wp_region_H (fun W => Fx DI w3 W) (by kernel_rfl) (Fx.refl _ _).drew ?_
    intro hS
    refine wpAnyH_take (i := 0) (v := ?_) rfl (by kernel_rfl) (by kernel_rfl) (by kernel_rfl) (fun _ _ _ h => h) (Or.inl ⟨by rfl, ?_⟩) hS ?_
    rotate_left
    · (intro W hs; go_simp; first | done | with_reducible rfl)
    try simp only [Act.put, List.getElem_toArray, List.getElem_cons_zero, List.getElem_cons_succ, List.setIfInBounds_toArray, List.set_cons_zero, List.set_cons_succ]
    refine wpAnyH_take (i := 1) (v := ?_) rfl (by kernel_rfl) (by kernel_rfl) (by kernel_rfl) (fun _ _ _ h => h) (Or.inl ⟨by rfl, ?_⟩) hS ?_
    rotate_left
    · (intro W hs; go_simp; first | done | with_reducible rfl)
    try simp only [Act.put, List.getElem_toArray, List.getElem_cons_zero, List.getElem_cons_succ, List.setIfInBounds_toArray, List.set_cons_zero, List.set_cons_succ]
    refine wpAnyH_take (i := 2) (v := ?_) rfl (by kernel_rfl) (by kernel_rfl) (by kernel_rfl) (fun _ _ _ h => h) (Or.inl ⟨by rfl, ?_⟩) hS ?_
    rotate_left
    · (intro W hs; go_simp; first | done | with_reducible rfl)
    try simp only [Act.put, List.getElem_toArray, List.getElem_cons_zero, List.getElem_cons_succ, List.setIfInBounds_toArray, List.set_cons_zero, List.set_cons_succ]
    refine wpAnyH_take (i := 3) (v := ?_) rfl (by kernel_rfl) (by kernel_rfl) (by kernel_rfl) (fun _ _ _ h => h) (Or.inl ⟨by rfl, ?_⟩) hS ?_
    rotate_left
    · (intro W hs; go_simp; first | done | with_reducible rfl)
    try simp only [Act.put, List.getElem_toArray, List.getElem_cons_zero, List.getElem_cons_succ, List.setIfInBounds_toArray, List.set_cons_zero, List.set_cons_succ]
    refine wpAnyH_take (i := 4) (v := ?_) rfl (by kernel_rfl) (by kernel_rfl) (by kernel_rfl) (fun _ _ _ h => h) (Or.inl ⟨by rfl, ?_⟩) hS ?_
    rotate_left
    · (intro W hs; go_simp; first | done | with_reducible rfl)
    try simp only [Act.put, List.getElem_toArray, List.getElem_cons_zero, List.getElem_cons_succ, List.setIfInBounds_toArray, List.set_cons_zero, List.set_cons_succ]
    refine wpAnyH_take (i := 5) (v := ?_) rfl (by kernel_rfl) (by kernel_rfl) (by kernel_rfl) (fun _ _ _ h => h) (Or.inl ⟨by rfl, ?_⟩) hS ?_
    rotate_left
    · (intro W hs; go_simp; first | done | with_reducible rfl)
    try simp only [Act.put, List.getElem_toArray, List.getElem_cons_zero, List.getElem_cons_succ, List.setIfInBounds_toArray, List.set_cons_zero, List.set_cons_succ]
    refine wpAnyH_take (i := 6) (v := ?_) rfl (by kernel_rfl) (by kernel_rfl) (by kernel_rfl) (fun _ _ _ h => h) (Or.inl ⟨by rfl, ?_⟩) hS ?_
    rotate_left
    · (intro W hs; go_simp; first | done | with_reducible rfl)
    try simp only [Act.put, List.getElem_toArray, List.getElem_cons_zero, List.getElem_cons_succ, List.setIfInBounds_toArray, List.set_cons_zero, List.set_cons_succ]
    refine wpH_one (i := 7) (by kernel_rfl) rfl (fun K hK => ?_)
    go_simp
    refine (CD.out _ ((Fx.refl No w3).drew)).mono ?_
    rintro r w4 ⟨rfl, HF34, HI4⟩
    have HF34' : Hid (Fx DI w3 w4) := Lib.hid ((Fx.refl DI w3).drew.trans HF34.out)
    refine hK.out _ _ (HF34'.out) (fun hS' => ?_)
    clear hK K hS
    have hS := hS'
    clear hS'
    try simp only [Act.put, List.getElem_toArray, List.getElem_cons_zero, List.getElem_cons_succ, List.setIfInBounds_toArray, List.set_cons_zero, List.set_cons_succ]
    refine wpAnyH_done (by kernel_rfl) ?_ _
    clear z0 z1 z2 hS CD HB0 HB1 HB2 HC0
    have HZ := Lib.hid (gparts_step HP1.out (fun x hx => Nat.lt_of_lt_of_le (H.out.lt x hx) HF1.out.size) HM2.out HF12.out HO3.out HF23'.out HI4.out HF34'.out (fun k _ => upd_out_del H.out.asc rfl k) (fun k _ => upd_in_del H.out.asc rfl k))
    go_wp2
    go_ret
    exact ⟨rfl, graph_end H.out HF1.out HZ.out H.out.asc.del (fun x hx => H.out.nodes x (mem_delE.1 hx).1) (Nat.le_trans (List.length_filter_le _ _) H.out.small)⟩
  · have hde : decide (e ∈ L) = false := decide_eq_false hmem
    have HN := Lib.hid hmem
    rw [hde]
    have CH : Hid (∀ W, Fx No w W → Calls Try.prog 35 #[.pointer (some ⟨b, 0, none⟩), evE e] W fun r w' => r = .returned (.bool false) ∧ Fx No W w') := Lib.hid fun W hf => (gHas_any (H.out.no hf) e he).mono fun r w' ⟨h1, h2⟩ => ⟨by rw [h1, hde], h2⟩
    unfold evE at CH ⊢
    clear h hmem hde
    go_enter Try.func27, Try.ntmps27
    go_wp2_with fail
    refine (CH.out _ ((Fx.refl No w).alloc _)).mono ?_
    rintro r w1 ⟨rfl, hf⟩
    have HF1 : Hid (Fx No w w1) := Lib.hid (((Fx.refl No w).alloc _).trans hf)
    clear hf CH
    go_wp2
    go_ret
    exact ⟨rfl, HF1.out.no, by rw [delE_not HN.out]; exact H.out.du HF1.out⟩
end
#print axioms gRemove_any
end Go.Proofs.Ytcfajeldkioomaa
