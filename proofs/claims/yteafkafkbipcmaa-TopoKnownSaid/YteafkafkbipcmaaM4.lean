/- graph: slices.IndexFunc, slices.ContainsFunc at edges; the test that Add makes. | graph: Add. | graph: Copy, Between. | slices.Compact at ints, on a row of the call's own. | graph: Next. | graph: maps.Equal, Same. | graph: Only. -/
import Derived.Test.YteafkafkbipcmaaM3
import Derived.Laws.IdiomCopy

namespace Go.Proofs.Yteafkafkbipcmaa
open Go.RowKit
set_option linter.unusedVariables false

/-- where the first one is that is so; -1: none -/
def fIdx (p : Ed → Bool) : List Ed → Nat → Int
  | [], _ => -1
  | x :: l, k => if p x then (k : Int) else fIdx p l (k + 1)
theorem cell?_alloc_some' {W : World} {a : Addr} {v : Value} (h : W.cell? a = some v) (o : Obj) : (W.alloc o).cell? a = some v := ((Fx.refl No W).alloc o).cell' h (fun h => h)
theorem fIdx_drop (p : Ed → Bool) {l : List Ed} {k : Nat} (hk : k < l.length) : fIdx p (l.drop k) k = if p (gt l k) then (k : Int) else fIdx p (l.drop (k + 1)) (k + 1) := by
  rw [List.drop_eq_getElem_cons hk]
  simp [fIdx, gt, hk]
theorem fIdx_any (p : Ed → Bool) : ∀ (l : List Ed) (k : Nat), decide (0 ≤ fIdx p l k) = l.any p
  | [], k => by simp [fIdx]
  | x :: l, k => by
    unfold fIdx
    rw [List.any_cons]
    cases p x
    · simpa using fIdx_any p l (k + 1)
    · simp
section
variable {w w' : World} {D S T : Nat → Prop} {b n : Nat} {L : List Ed}
set_option maxRecDepth 100000 in
set_option maxHeartbeats 1000000 in
theorem indexFunc_any {v : Value} {xs : List Ed} {c : Value} {p : Ed → Bool} (h : EdsV w D v xs) (hC : ∀ W, Fx No w W → ∀ x ∈ xs, Calls Try.prog 41 #[evE x, c] W fun r w' => r = .returned (.bool (p x)) ∧ Fx No W w') :
    Calls Try.prog 51 #[v, .func (.func 41) #[] #[c]] w fun r w' => r = .returned (.int .i64 (fIdx p xs 0)) ∧ Fx No w w' := by
  have HC := Lib.hid hC
  obtain ⟨ao, cap, rfl, hcl, hcm, hc⟩ := EdsV.facts h
  have HX := Lib.hid hc
  have H0 : Hid (fIdx p xs 0 = fIdx p (xs.drop 0) 0) := Lib.hid (by simp)
  clear hC hc h
  go_enter Try.func51, Try.ntmps51
  go_wp2
  go_loopw [8] (fun i ws => ∃ k : Nat, i = .int .i64 k ∧ k ≤ xs.length ∧ Fx No w ws ∧ Hid (fIdx p xs 0 = fIdx p (xs.drop k) k)) (fun i _ => xs.length - (intOf i).toNat)
  case atStart => exact ⟨0, rfl, Nat.zero_le _, Fx.refl _ _, H0⟩
  case round =>
    obtain ⟨k, rfl, hk, hf, HK⟩ := hrel
    have HF := Lib.hid hf
    clear hf
    by_cases hlt : k < xs.length
    · obtain ⟨bb, oo, rfl, _, p0, p1, p2⟩ := HX.out k hlt
      have HS := Lib.hid (fIdx_drop p hlt)
      have hmem := gt_mem hlt
      obtain ⟨x, hx⟩ : ∃ x, x = gt xs k := ⟨_, rfl⟩
      rw [← hx] at p0 p1 p2 HS hmem
      have k0 := HF.out.cell' p0 (fun h => h)
      have k1 := HF.out.cell' p1 (fun h => h)
      have k2 := HF.out.cell' p2 (fun h => h)
      have CX : Hid (Calls Try.prog 41 #[.agg #[.int .i64 x.f, .int .i64 x.t, .int .i64 x.l], c] wr fun r w' => r = .returned (.bool (p x)) ∧ Fx No wr w') := Lib.hid (HC.out wr HF.out x hmem)
      have hk0 : (0 : Int) ≤ (k : Int) := by omega
      have hk1 : (k : Int) < (xs.length : Int) := by omega
      clear p0 p1 p2 hx
      obtain ⟨px, hpx⟩ : ∃ t, t = p x := ⟨_, rfl⟩
      rw [← hpx] at HS CX
      clear hpx
      go_wp2_with fail
      refine CX.out.mono ?_
      rintro r w1 ⟨rfl, hf⟩
      have HF1 := Lib.hid (HF.out.trans hf)
      clear hf CX
      cases px
      · go_wp2
        go_roundw
        case rel => exact ⟨k + 1, by go_num, by omega, HF1.out, Lib.hid (by rw [HK.out, HS.out]; simp)⟩
        case measure => simp [intOf]; omega
      · go_wp2
        go_ret
        refine ⟨?_, HF1.out⟩
        rw [HK.out, HS.out]; rfl
    · obtain rfl : k = xs.length := by omega
      go_wp2
      go_ret
      refine ⟨?_, HF.out⟩
      rw [HK.out]; simp [fIdx]
theorem containsFunc_any {v : Value} {xs : List Ed} {c : Value} {p : Ed → Bool} (h : EdsV w D v xs) (hC : ∀ W, Fx No w W → ∀ x ∈ xs, Calls Try.prog 41 #[evE x, c] W fun r w' => r = .returned (.bool (p x)) ∧ Fx No W w') :
    Calls Try.prog 36 #[v, .func (.func 41) #[] #[c]] w fun r w' => r = .returned (.bool (xs.any p)) ∧ Fx No w w' := by
  have H := Lib.hid h
  have HC := Lib.hid hC
  have d1 : decide (0 ≤ fIdx p xs 0) = xs.any p := fIdx_any p xs 0
  obtain ⟨z, hz⟩ : ∃ z, z = fIdx p xs 0 := ⟨_, rfl⟩
  have HZ := Lib.hid hz
  rw [← hz] at d1
  obtain ⟨t, ht⟩ : ∃ t, t = xs.any p := ⟨_, rfl⟩
  rw [← ht] at d1 ⊢
  clear h hC hz ht
  go_enter Try.func36, Try.ntmps36
  go_wp2_with fail
  refine (indexFunc_any H.out HC.out).mono ?_
  rintro r w1 ⟨rfl, hf⟩
  have HF := Lib.hid hf
  rw [← HZ.out]
  clear hf
  go_wp2
  go_ret
  exact ⟨rfl, HF.out⟩
/-- an edge has a node that is not there -/
def badE (n : Nat) (x : Ed) : Bool := !(decide (0 ≤ x.f ∧ x.f < (n : Int)) && decide (0 ≤ x.t ∧ x.t < (n : Int)))
set_option maxRecDepth 100000 in
set_option maxHeartbeats 1000000 in
theorem add1_any {gb : Nat} (h : GraphV w D b n L) (hg : w.cell? ⟨gb, 0, none⟩ = some (.pointer (some ⟨b, 0, none⟩))) (x : Ed) :
    Calls Try.prog 41 #[evE x, .pointer (some ⟨gb, 0, none⟩)] w fun r w' => r = .returned (.bool (badE n x)) ∧ Fx No w w' := by
  have H := Lib.hid h
  have hgb := World.block_lt_of_cell? w _ hg
  have hgb : gb < w.heap.size := hgb
  have HG := Lib.hid hg
  obtain ⟨t1, ht1⟩ : ∃ t, t = decide (0 ≤ x.f ∧ x.f < (n : Int)) := ⟨_, rfl⟩
  obtain ⟨t2, ht2⟩ : ∃ t, t = decide (0 ≤ x.t ∧ x.t < (n : Int)) := ⟨_, rfl⟩
  have HB : Hid (badE n x = !(t1 && t2)) := Lib.hid (by rw [ht1, ht2]; rfl)
  have C1 : Hid (∀ W, Fx No w W → Calls Try.prog 42 #[.pointer (some ⟨b, 0, none⟩), .int .i64 x.f] W fun r w' => r = .returned (.bool t1) ∧ W = w') := Lib.hid fun W hf => by rw [ht1]; exact gNode_any (H.out.no hf) x.f
  have C2 : Hid (∀ W, Fx No w W → Calls Try.prog 42 #[.pointer (some ⟨b, 0, none⟩), .int .i64 x.t] W fun r w' => r = .returned (.bool t2) ∧ W = w') := Lib.hid fun W hf => by rw [ht2]; exact gNode_any (H.out.no hf) x.t
  have g0 := cell?_alloc_some' hg (.cells #[.int .i64 x.f, .int .i64 x.t, .int .i64 x.l] 57)
  have HF : Hid (Fx No w (w.alloc (.cells #[.int .i64 x.f, .int .i64 x.t, .int .i64 x.l] 57))) := Lib.hid ((Fx.refl No w).alloc _)
  unfold evE
  rw [HB.out]
  clear h ht1 ht2 hg
  go_enter Try.func41, Try.ntmps41
  go_wp2_with fail
  refine (C1.out _ HF.out).mono ?_
  rintro r w1 ⟨rfl, rfl⟩
  cases t1
  · go_wp2
    go_ret
    exact ⟨rfl, HF.out⟩
  · go_wp2_with fail
    refine (C2.out _ HF.out).mono ?_
    rintro r w1 ⟨rfl, rfl⟩
    go_wp2
    go_ret
    exact ⟨by simp, HF.out⟩
end
#print axioms containsFunc_any
#print axioms add1_any
#print axioms indexFunc_any
end Go.Proofs.Yteafkafkbipcmaa

namespace Go.Proofs.Yteafkafkbipcmaa
open Go.RowKit
set_option linter.unusedVariables false

/-- edges more -/
def addL (L xs : List Ed) : List Ed := xs.foldl (fun l x => insE x l) L
theorem addL_snoc (L xs : List Ed) (x : Ed) : addL L (xs ++ [x]) = insE x (addL L xs) := by simp [addL]
theorem addL_asc {L : List Ed} (h : Asc L) : ∀ xs, Asc (addL L xs) := by
  intro xs
  induction xs generalizing L with
  | nil => exact h
  | cons x xs ih => exact ih h.ins
theorem mem_addL {L : List Ed} {y : Ed} : ∀ {xs}, y ∈ addL L xs ↔ y ∈ L ∨ y ∈ xs := by
  intro xs
  induction xs generalizing L with
  | nil => simp [addL]
  | cons x xs ih =>
    show y ∈ addL (insE x L) xs ↔ _
    rw [ih, mem_insE, List.mem_cons]
    constructor
    · rintro ((h | h) | h)
      · exact .inr (.inl h)
      · exact .inl h
      · exact .inr (.inr h)
    · rintro (h | h | h)
      · exact .inl (.inr h)
      · exact .inl (.inl h)
      · exact .inr h
theorem insE_len (e : Ed) : ∀ l : List Ed, l.length ≤ (insE e l).length ∧ (insE e l).length ≤ l.length + 1
  | [] => by simp [insE]
  | x :: l => by
    unfold insE
    have := insE_len e l
    split
    · simp
    · split
      · simp
      · simp; omega
theorem addL_len (L xs : List Ed) : L.length ≤ (addL L xs).length ∧ (addL L xs).length ≤ L.length + xs.length := by
  induction xs generalizing L with
  | nil => simp [addL]
  | cons x xs ih =>
    have h1 := ih (insE x L)
    have h2 := insE_len x L
    show _ ≤ (addL (insE x L) xs).length ∧ (addL (insE x L) xs).length ≤ _
    rw [List.length_cons]; omega
theorem DU.du {D : Nat → Prop} {a b c : World} (h1 : a.heap.size ≤ b.heap.size) (h2 : b.heap.size ≤ c.heap.size) {x : Nat} (h : DU (DU D a b) b c x) : DU D a c x := by
  rcases h with (h | ⟨h3, h4⟩) | ⟨h3, h4⟩
  · exact .inl h
  · exact .inr ⟨h3, by omega⟩
  · exact .inr ⟨by omega, h4⟩
theorem good_of {n : Nat} {xs : List Ed} (h : xs.any (badE n) = false) : ∀ x ∈ xs, (0 ≤ x.f ∧ x.f < (n : Int)) ∧ 0 ≤ x.t ∧ x.t < (n : Int) := by
  intro x hx
  have := List.any_eq_false.1 h x hx
  simpa [badE] using this
section
variable {w w' : World} {D S T E : Nat → Prop} {b n : Nat} {L : List Ed} {v : Value} {xs : List Ed}
set_option maxRecDepth 100000 in
set_option maxHeartbeats 2000000 in
theorem gAdd_no (h : GraphV w D b n L) (hx : EdsV w E v xs) (hbad : xs.any (badE n) = true) : Calls Try.prog 28 #[.pointer (some ⟨b, 0, none⟩), v] w fun r w' => r = .returned (.tuple #[.int .i64 0, .int .i64 130]) ∧ Fx No w w' := by
  have H := Lib.hid h
  have HX := Lib.hid hx
  have CF : Hid (∀ W, W = w.alloc (.cells #[.pointer (some ⟨b, 0, none⟩)] 24) → Calls Try.prog 36 #[v, .func (.func 41) #[] #[.pointer (some ⟨w.heap.size, 0, none⟩)]] W fun r w' => r = .returned (.bool true) ∧ Fx No W w') := Lib.hid fun W hW => by
    subst hW
    have hf : Fx No w (w.alloc (.cells #[.pointer (some ⟨b, 0, none⟩)] 24)) := (Fx.refl No w).alloc _
    refine (containsFunc_any (p := badE n) (HX.out.no hf) (fun W hf2 x hx => add1_any (H.out.no (hf.trans hf2)) (hf2.cell' (by simp) (fun h => h)) x)).mono ?_
    rintro r w' ⟨h1, h2⟩
    exact ⟨by rw [h1, hbad], h2⟩
  clear h hx hbad
  go_enter Try.func28, Try.ntmps28
  go_wp2_with fail
  refine (CF.out _ rfl).mono ?_
  rintro r w1 ⟨rfl, hf⟩
  have HF : Hid (Fx No w w1) := Lib.hid (((Fx.refl No w).alloc _).trans hf)
  clear hf CF
  go_wp2
  go_ret2
  exact ⟨rfl, HF.out⟩
set_option maxRecDepth 100000 in
set_option maxHeartbeats 8000000 in
theorem gAdd_any (h : GraphV w D b n L) (hx : EdsV w E v xs) (hE : ∀ k, E k → ¬ D k) (hok : ∀ x ∈ xs, x.ok) (hgood : xs.any (badE n) = false) (hlen : L.length + xs.length ≤ 1000000) :
    Calls Try.prog 28 #[.pointer (some ⟨b, 0, none⟩), v] w fun r w' => r = .returned (.tuple #[.int .i64 ((addL L xs).length - L.length : Nat), .int .i64 0]) ∧ Fx D w w' ∧ GraphV w' (DU D w w') b n (addL L xs) := by
  have H := Lib.hid h
  have HX0 := Lib.hid (RowV.bound hx)
  have HOk := Lib.hid hok
  have HGo := Lib.hid (good_of hgood)
  have HEd := Lib.hid hE
  have CF : Hid (∀ W, W = w.alloc (.cells #[.pointer (some ⟨b, 0, none⟩)] 24) → Calls Try.prog 36 #[v, .func (.func 41) #[] #[.pointer (some ⟨w.heap.size, 0, none⟩)]] W fun r w' => r = .returned (.bool false) ∧ Fx No W w') := Lib.hid fun W hW => by
    subst hW
    have hf : Fx No w (w.alloc (.cells #[.pointer (some ⟨b, 0, none⟩)] 24)) := (Fx.refl No w).alloc _
    refine (containsFunc_any (p := badE n) (hx.no hf) (fun W hf2 x hx => add1_any (H.out.no (hf.trans hf2)) (hf2.cell' (by simp) (fun h => h)) x)).mono ?_
    rintro r w' ⟨h1, h2⟩
    exact ⟨by rw [h1, hgood], h2⟩
  have hbD : D b := by obtain ⟨_, _, _, _, _, hp⟩ := h.ex; exact hp.db
  have hal := addL_len L xs
  clear h hx hok hgood hE
  obtain ⟨ao, cap, rfl, hcl, hcm, hc⟩ := EdsV.facts HX0.out
  have HC := Lib.hid hc
  clear hc
  go_enter Try.func28, Try.ntmps28
  go_wp2_with fail
  refine (CF.out _ rfl).mono ?_
  rintro r wx ⟨rfl, hf⟩
  have HFx : Hid (Fx No w wx) := Lib.hid (((Fx.refl No w).alloc _).trans hf)
  obtain ⟨gb, hgb⟩ : ∃ q, q = w.heap.size := ⟨_, rfl⟩
  have cg : wx.cell? ⟨gb, 0, none⟩ = some (.pointer (some ⟨b, 0, none⟩)) := by rw [hgb]; exact hf.cell' (by simp) (fun h => h)
  rw [← hgb]
  have HGb := Lib.hid hgb
  have HG := Lib.hid cg
  have hgD : Hid (¬ D gb) := Lib.hid fun h => by have := H.out.lt gb h; omega
  have hgx : gb < wx.heap.size := World.block_lt_of_cell? wx _ cg
  obtain ⟨ob0, ib0, mb0, DO0, DI0, hp0⟩ := (H.out.no HFx.out).ex
  have c2 := hp0.c2
  have hlenm : ∀ ty, (Builtin.len_ #[88] ty #[.map (some mb0)]).run Try.prog wx = .ok (.int .i64 (L.length : Nat)) wx := hp0.map.len
  clear hf CF hgb hp0
  go_wp2
  clear c2 hlenm
  go_loopw [21] (fun i ws => ∃ k : Nat, i = .int .i64 k ∧ k ≤ xs.length ∧ Fx D wx ws ∧ GraphV ws (DU D wx ws) b n (addL L (xs.take k))) (fun i _ => xs.length - (intOf i).toNat)
  case atStart => exact ⟨0, rfl, Nat.zero_le _, Fx.refl _ _, (H.out.no HFx.out).mono (fun _ => .inl) (DU.lt (H.out.no HFx.out).lt (Nat.le_refl _))⟩
  case round =>
    obtain ⟨k, rfl, hk, hf, hg⟩ := hrel
    have HFr := Lib.hid hf
    have HGr := Lib.hid hg
    have cg := hf.cell' HG.out hgD.out
    have hwr := hf.size
    have HGD : Hid (¬ DU D wx wr gb) := Lib.hid fun h => by
      rcases h with h | h
      · exact hgD.out h
      · have := h.1; omega
    clear hf hg
    by_cases hlt : k < xs.length
    · obtain ⟨bb, oo, rfl, hbb, p0, p1, p2⟩ := HC.out k hlt
      have hmem := gt_mem hlt
      have HTk := Lib.hid (take_gt hlt)
      obtain ⟨x, hxe⟩ : ∃ x, x = gt xs k := ⟨_, rfl⟩
      rw [← hxe] at p0 p1 p2 hmem HTk
      have hnD : ¬ D bb := HEd.out bb hbb.1
      have k0 := HFr.out.cell' (HFx.out.cell' p0 (fun h => h)) hnD
      have k1 := HFr.out.cell' (HFx.out.cell' p1 (fun h => h)) hnD
      have k2 := HFr.out.cell' (HFx.out.cell' p2 (fun h => h)) hnD
      have hnx := HGo.out x hmem
      have hox := HOk.out x hmem
      have HAd : Hid (addL L (xs.take (k + 1)) = insE x (addL L (xs.take k))) := Lib.hid (by rw [HTk.out]; exact addL_snoc _ _ _)
      have hal1 := addL_len L (xs.take k)
      have htk : (xs.take k).length ≤ k := by rw [List.length_take]; omega
      obtain ⟨M, hM⟩ : ∃ M, M = addL L (xs.take k) := ⟨_, rfl⟩
      rw [← hM] at HAd HGr hal1
      have hMl : (insE x M).length ≤ 1000000 := by have := insE_len x M; omega
      have H2 : Hid (GraphV wr (DU D wx wr) b n M) := HGr
      have CH : Hid (∀ W, Fx No wr W → Calls Try.prog 43 #[.pointer (some ⟨b, 0, none⟩), evE x] W fun r w' => r = .returned (.bool (decide (x ∈ M))) ∧ Fx No W w') := Lib.hid fun W hf => gHas_any (HGr.out.no hf) x hox
      obtain ⟨t, ht⟩ : ∃ t, t = decide (x ∈ M) := ⟨_, rfl⟩
      rw [← ht] at CH
      have HT := Lib.hid ht
      obtain ⟨ef, et, el⟩ := x
      simp only at hnx
      obtain ⟨i, rfl⟩ := Int.eq_ofNat_of_zero_le hnx.1.1
      obtain ⟨j, rfl⟩ := Int.eq_ofNat_of_zero_le hnx.2.1
      have hi : i < n := by omega
      have hj : j < n := by omega
      have hk0 : (0 : Int) ≤ (k : Int) := by omega
      have hk1 : (k : Int) < (xs.length : Int) := by omega
      unfold evE at CH
      simp only at CH k0 k1 k2
      have hgr : gb < wr.heap.size := by omega
      have hgne : ¬ gb = wr.heap.size := by omega
      clear p0 p1 p2 hxe ht hM
      go_wp2_with fail
      refine (CH.out _ ((Fx.refl No wr).alloc _)).mono ?_
      rintro r w1 ⟨rfl, hf⟩
      have HF1 : Hid (Fx No wr w1) := Lib.hid (((Fx.refl No wr).alloc _).trans hf)
      obtain ⟨q, hq⟩ : ∃ q, q = wr.heap.size := ⟨_, rfl⟩
      have c0 : w1.cell? ⟨q, 0, none⟩ = some (.int .i64 (i : Int)) := by rw [hq]; exact hf.cell' (by simp) (fun h => h)
      have c1 : w1.cell? ⟨q, 1, none⟩ = some (.int .i64 (j : Int)) := by rw [hq]; exact hf.cell' (by simp) (fun h => h)
      have c2 : w1.cell? ⟨q, 2, none⟩ = some (.int .i64 el) := by rw [hq]; exact hf.cell' (by simp) (fun h => h)
      rw [← hq]
      have HQ0 := Lib.hid c0
      have HQ1 := Lib.hid c1
      have HQ2 := Lib.hid c2
      have Hq := Lib.hid hq
      have HG1 := Lib.hid (HF1.out.cell' cg (fun h => h))
      clear hf c0 c1 c2 CH hgne hgr cg k0 k1 k2
      cases t
      · have HMem : Hid ((⟨i, j, el⟩ : Ed) ∉ M) := Lib.hid (of_decide_eq_false HT.out.symm)
        clear HT
        have HW0 := H
        clear H
        have H := HGr
        obtain ⟨ob, ib, mb, DO, DI, hp⟩ := HGr.out.ex
        have HP := Lib.hid hp
        have hmw := HGr.out.lt mb hp.dm
        have hbm : b ≠ mb := hp.bm
        have hqm : q ≠ mb := by omega
        have hgm : gb ≠ mb := fun e => HGD.out (by rw [e]; exact hp.dm)
        have HP1 := Lib.hid (HP.out.keep HF1.out No.disj)
        clear hp hq
        have g0 : ∀ W, Fx (fun k => k = mb) w1 W → W.cell? ⟨q, 0, none⟩ = some (.int .i64 (i : Int)) := fun W h => h.cell' HQ0.out hqm
        have g1 : ∀ W, Fx (fun k => k = mb) w1 W → W.cell? ⟨q, 1, none⟩ = some (.int .i64 (j : Int)) := fun W h => h.cell' HQ1.out hqm
        have g2 : ∀ W, Fx (fun k => k = mb) w1 W → W.cell? ⟨q, 2, none⟩ = some (.int .i64 el) := fun W h => h.cell' HQ2.out hqm
        have g3 : ∀ W, Fx (fun k => k = mb) w1 W → W.cell? ⟨b, 2, none⟩ = some (.map (some mb)) := fun W h => h.cell' HP1.out.c2 hbm
        have g4 : ∀ W, Fx (fun k => k = mb) w1 W → W.cell? ⟨gb, 0, none⟩ = some (.pointer (some ⟨b, 0, none⟩)) := fun W h => h.cell' HG1.out hgm
        have s0 : Fx (fun k => k = mb) w1 w1 := Fx.refl _ _
        go_wp2_with fail
        refine wp_region_H (fun W => Fx (fun k => k = mb) w1 W) (by kernel_rfl) s0.drew ?_
        intro hS
        refine wpAnyH_take (i := 0) (v := ?_) rfl (by kernel_rfl) (by kernel_rfl) (by kernel_rfl) (fun _ _ _ h => h) (Or.inl ⟨by rfl, ?_⟩) hS ?_
        rotate_left
        · (intro W hs; go_simp; first | done | with_reducible rfl)
        try simp only [Act.put, List.getElem_toArray, List.getElem_cons_zero, List.setIfInBounds_toArray, List.set_cons_zero, List.set_cons_succ]
        refine wpAnyH_take (i := 1) (v := ?_) rfl (by kernel_rfl) (by kernel_rfl) (by kernel_rfl) (fun _ _ _ h => h) (Or.inl ⟨by rfl, ?_⟩) hS ?_
        rotate_left
        · (intro W hs; go_simp; first | done | with_reducible rfl)
        try simp only [Act.put, List.getElem_toArray, List.getElem_cons_zero, List.getElem_cons_succ, List.setIfInBounds_toArray, List.set_cons_zero, List.set_cons_succ]
        refine wpAnyH_take (i := 2) (v := ?_) rfl (by kernel_rfl) (by kernel_rfl) (by kernel_rfl) (fun _ _ _ h => h) (Or.inl ⟨by rfl, ?_⟩) hS ?_
        rotate_left
        · (intro W hs; go_simp; first | done | with_reducible rfl)
        try simp only [Act.put, List.getElem_toArray, List.getElem_cons_zero, List.getElem_cons_succ, List.setIfInBounds_toArray, List.set_cons_zero, List.set_cons_succ]
        refine wpAnyH_take (i := 3) (v := ?_) rfl (by kernel_rfl) (by kernel_rfl) (by kernel_rfl) (fun _ _ _ h => h) (Or.inl ⟨by rfl, ?_⟩) hS ?_
        rotate_left
        · (intro W hs; go_simp; first | done | with_reducible rfl)
        try simp only [Act.put, List.getElem_toArray, List.getElem_cons_zero, List.getElem_cons_succ, List.setIfInBounds_toArray, List.set_cons_zero, List.set_cons_succ]
        refine wpAnyH_take (i := 4) (v := ?_) rfl (by kernel_rfl) (by kernel_rfl) (by kernel_rfl) (fun _ _ _ h => h) (Or.inl ⟨by rfl, ?_⟩) hS ?_
        rotate_left
        · (intro W hs; go_simp; first | done | with_reducible rfl)
        try simp only [Act.put, List.getElem_toArray, List.getElem_cons_zero, List.getElem_cons_succ, List.setIfInBounds_toArray, List.set_cons_zero, List.set_cons_succ]
        refine wpAnyH_take (i := 5) (v := ?_) rfl (by kernel_rfl) (by kernel_rfl) (by kernel_rfl) (fun _ _ _ h => h) (Or.inl ⟨by rfl, ?_⟩) hS ?_
        rotate_left
        · (intro W hs; go_simp; first | done | with_reducible rfl)
        try simp only [Act.put, List.getElem_toArray, List.getElem_cons_zero, List.getElem_cons_succ, List.setIfInBounds_toArray, List.set_cons_zero, List.set_cons_succ]
        obtain ⟨w2, hr2, HM2, HF2⟩ := MapE.store (HP1.out.map.no ((Fx.refl No w1).drew)) H.out.asc H.out.small hox HMem.out
        unfold evE at hr2
        simp only at hr2
        refine wpH_one (i := 6) (by kernel_rfl) rfl (fun K hK => ?_)
        go_simp
        have HF12 : Hid (Fx (fun k => k = mb) w1 w2) := Lib.hid (s0.drew.trans HF2.out)
        refine hK.out _ _ HF12.out (fun _ => ?_)
        clear hK K hS hr2 HF2
        refine wpAnyH_done (by kernel_rfl) ?_ _
        clear g0 g1 g2 g3 g4 s0
        have HO2 := Lib.hid (HP1.out.outs.keep HF12.out (fun k hk e => HP1.out.mO (by have e : k = mb := e; rw [← e]; exact hk)))
        go_wp2_with fail
        have hqDO : ¬ DO q := fun h => by have := H.out.lt q (HP.out.dO q h); rw [Hq.out] at this; omega
        have hqDI : ¬ DI q := fun h => by have := H.out.lt q (HP.out.dI q h); rw [Hq.out] at this; omega
        have HB0 := Lib.hid (HF12.out.cell' HQ0.out hqm)
        have HB1 := Lib.hid (HF12.out.cell' HQ1.out hqm)
        have HB2 := Lib.hid (HF12.out.cell' HQ2.out hqm)
        have HC0 := Lib.hid (HF12.out.cell' HP1.out.c0 hbm)
        have HBg := Lib.hid (HF12.out.cell' HG1.out hgm)
        have hgDO : ¬ DO gb := fun h => HGD.out (HP.out.dO gb h)
        have hgDI : ¬ DI gb := fun h => HGD.out (HP.out.dI gb h)
        have z0 : ∀ W, Fx DO w2 W → W.cell? ⟨q, 0, none⟩ = some (.int .i64 (i : Int)) := fun W h => h.cell' HB0.out hqDO
        have z1 : ∀ W, Fx DO w2 W → W.cell? ⟨q, 1, none⟩ = some (.int .i64 (j : Int)) := fun W h => h.cell' HB1.out hqDO
        have z2 : ∀ W, Fx DO w2 W → W.cell? ⟨q, 2, none⟩ = some (.int .i64 el) := fun W h => h.cell' HB2.out hqDO
        have CD : Hid (∀ W, Fx No w2 W → Calls Try.prog 44 #[.pointer (some ⟨b, 0, none⟩), .int .i64 (i : Nat), .agg #[.int .i64 (i : Int), .int .i64 (j : Int), .int .i64 el]] W fun r w' => r = .returned (.tuple #[]) ∧ Hid (Fx DO W w') ∧ Hid (RowsV w' (DU DO W w') ob n (upd (outE M) i (insE ⟨i, j, el⟩ (outE M i))))) := Lib.hid fun W hf => (put_any (hf.cell' HC0.out (fun h => h)) (HO2.out.no hf) hi H.out.nn (Asc.out H.out.asc i) (Nat.le_trans (outE_len M i) H.out.small) HP.out.bO ⟨i, j, el⟩ (fun h => HMem.out (mem_outE.1 h).1)).mono fun r w' ⟨h1, h2, h3⟩ => ⟨h1, Lib.hid h2, Lib.hid h3⟩
        have zg : ∀ W, Fx DO w2 W → W.cell? ⟨gb, 0, none⟩ = some (.pointer (some ⟨b, 0, none⟩)) := fun W h => h.cell' HBg.out hgDO
        refine wp_region_H (fun W => Fx DO w2 W) (by kernel_rfl) (Fx.refl _ _).drew ?_
        intro hS
        refine wpAnyH_take (i := 0) (v := ?_) rfl (by kernel_rfl) (by kernel_rfl) (by kernel_rfl) (fun _ _ _ h => h) (Or.inl ⟨by rfl, ?_⟩) hS ?_
        rotate_left
        · (intro W hs; go_simp; first | done | with_reducible rfl)
        try simp only [Act.put, List.getElem_toArray, List.getElem_cons_zero, List.setIfInBounds_toArray, List.set_cons_zero, List.set_cons_succ]
        refine wpAnyH_take (i := 1) (v := ?_) rfl (by kernel_rfl) (by kernel_rfl) (by kernel_rfl) (fun _ _ _ h => h) (Or.inl ⟨by rfl, ?_⟩) hS ?_
        rotate_left
        · (intro W hs; go_simp; first | done | with_reducible rfl)
        try simp only [Act.put, List.getElem_toArray, List.getElem_cons_zero, List.getElem_cons_succ, List.setIfInBounds_toArray, List.set_cons_zero, List.set_cons_succ]
        refine wpAnyH_take (i := 2) (v := ?_) rfl (by kernel_rfl) (by kernel_rfl) (by kernel_rfl) (fun _ _ _ h => h) (Or.inl ⟨by rfl, ?_⟩) hS ?_
        rotate_left
        · (intro W hs; go_simp; first | done | with_reducible rfl)
        try simp only [Act.put, List.getElem_toArray, List.getElem_cons_zero, List.getElem_cons_succ, List.setIfInBounds_toArray, List.set_cons_zero, List.set_cons_succ]
        refine wpAnyH_take (i := 3) (v := ?_) rfl (by kernel_rfl) (by kernel_rfl) (by kernel_rfl) (fun _ _ _ h => h) (Or.inl ⟨by rfl, ?_⟩) hS ?_
        rotate_left
        · (intro W hs; go_simp; first | done | with_reducible rfl)
        try simp only [Act.put, List.getElem_toArray, List.getElem_cons_zero, List.getElem_cons_succ, List.setIfInBounds_toArray, List.set_cons_zero, List.set_cons_succ]
        refine wpAnyH_take (i := 4) (v := ?_) rfl (by kernel_rfl) (by kernel_rfl) (by kernel_rfl) (fun _ _ _ h => h) (Or.inl ⟨by rfl, ?_⟩) hS ?_
        rotate_left
        · (intro W hs; go_simp; first | done | with_reducible rfl)
        try simp only [Act.put, List.getElem_toArray, List.getElem_cons_zero, List.getElem_cons_succ, List.setIfInBounds_toArray, List.set_cons_zero, List.set_cons_succ]
        refine wpAnyH_take (i := 5) (v := ?_) rfl (by kernel_rfl) (by kernel_rfl) (by kernel_rfl) (fun _ _ _ h => h) (Or.inl ⟨by rfl, ?_⟩) hS ?_
        rotate_left
        · (intro W hs; go_simp; first | done | with_reducible rfl)
        try simp only [Act.put, List.getElem_toArray, List.getElem_cons_zero, List.getElem_cons_succ, List.setIfInBounds_toArray, List.set_cons_zero, List.set_cons_succ]
        refine wpAnyH_take (i := 6) (v := ?_) rfl (by kernel_rfl) (by kernel_rfl) (by kernel_rfl) (fun _ _ _ h => h) (Or.inl ⟨by rfl, ?_⟩) hS ?_
        rotate_left
        · (intro W hs; go_simp; first | done | with_reducible rfl)
        try simp only [Act.put, List.getElem_toArray, List.getElem_cons_zero, List.getElem_cons_succ, List.setIfInBounds_toArray, List.set_cons_zero, List.set_cons_succ]
        refine wpH_one (i := 7) (by kernel_rfl) rfl (fun K hK => ?_)
        go_simp
        refine (CD.out _ ((Fx.refl No w2).drew)).mono ?_
        rintro r w3 ⟨rfl, HF23, HO3⟩
        have HF23' : Hid (Fx DO w2 w3) := Lib.hid ((Fx.refl DO w2).drew.trans HF23.out)
        refine hK.out _ _ (HF23'.out) (fun hS' => ?_)
        clear hK K hS
        have hS := hS'
        clear hS'
        try simp only [Act.put, List.getElem_toArray, List.getElem_cons_zero, List.getElem_cons_succ, List.setIfInBounds_toArray, List.set_cons_zero, List.set_cons_succ]
        refine wpAnyH_done (by kernel_rfl) ?_ _
        clear z0 z1 z2 zg hS CD HB0 HB1 HB2 HC0 HBg
        have hnb : ¬ DO b := HP.out.bO
        have HB0 := Lib.hid (HF23'.out.cell' (HF12.out.cell' HQ0.out hqm) hqDO)
        have HB1 := Lib.hid (HF23'.out.cell' (HF12.out.cell' HQ1.out hqm) hqDO)
        have HB2 := Lib.hid (HF23'.out.cell' (HF12.out.cell' HQ2.out hqm) hqDO)
        have HBg := Lib.hid (HF23'.out.cell' (HF12.out.cell' HG1.out hgm) hgDO)
        have HC0 := Lib.hid (HF23'.out.cell' (HF12.out.cell' HP1.out.c1 hbm) hnb)
        have HI3 := Lib.hid ((HP1.out.ins.keep HF12.out (fun k hk e => HP1.out.mI (by have e : k = mb := e; rw [← e]; exact hk))).keep HF23'.out (fun k hk e => HP1.out.ap k e hk))
        go_wp2_with fail
        have z0 : ∀ W, Fx DI w3 W → W.cell? ⟨q, 0, none⟩ = some (.int .i64 (i : Int)) := fun W h => h.cell' HB0.out hqDI
        have z1 : ∀ W, Fx DI w3 W → W.cell? ⟨q, 1, none⟩ = some (.int .i64 (j : Int)) := fun W h => h.cell' HB1.out hqDI
        have z2 : ∀ W, Fx DI w3 W → W.cell? ⟨q, 2, none⟩ = some (.int .i64 el) := fun W h => h.cell' HB2.out hqDI
        have CD : Hid (∀ W, Fx No w3 W → Calls Try.prog 44 #[.pointer (some ⟨b, 1, none⟩), .int .i64 (j : Nat), .agg #[.int .i64 (i : Int), .int .i64 (j : Int), .int .i64 el]] W fun r w' => r = .returned (.tuple #[]) ∧ Hid (Fx DI W w') ∧ Hid (RowsV w' (DU DI W w') ib n (upd (inE M) j (insE ⟨i, j, el⟩ (inE M j))))) := Lib.hid fun W hf => (put_any (hf.cell' HC0.out (fun h => h)) (HI3.out.no hf) hj H.out.nn (Asc.inn H.out.asc j) (Nat.le_trans (inE_len M j) H.out.small) HP.out.bI ⟨i, j, el⟩ (fun h => HMem.out (mem_inE.1 h).1)).mono fun r w' ⟨h1, h2, h3⟩ => ⟨h1, Lib.hid h2, Lib.hid h3⟩
        have zg : ∀ W, Fx DI w3 W → W.cell? ⟨gb, 0, none⟩ = some (.pointer (some ⟨b, 0, none⟩)) := fun W h => h.cell' HBg.out hgDI
        refine wp_region_H (fun W => Fx DI w3 W) (by kernel_rfl) (Fx.refl _ _).drew ?_
        intro hS
        refine wpAnyH_take (i := 0) (v := ?_) rfl (by kernel_rfl) (by kernel_rfl) (by kernel_rfl) (fun _ _ _ h => h) (Or.inl ⟨by rfl, ?_⟩) hS ?_
        rotate_left
        · (intro W hs; go_simp; first | done | with_reducible rfl)
        try simp only [Act.put, List.getElem_toArray, List.getElem_cons_zero, List.setIfInBounds_toArray, List.set_cons_zero, List.set_cons_succ]
        refine wpAnyH_take (i := 1) (v := ?_) rfl (by kernel_rfl) (by kernel_rfl) (by kernel_rfl) (fun _ _ _ h => h) (Or.inl ⟨by rfl, ?_⟩) hS ?_
        rotate_left
        · (intro W hs; go_simp; first | done | with_reducible rfl)
        try simp only [Act.put, List.getElem_toArray, List.getElem_cons_zero, List.getElem_cons_succ, List.setIfInBounds_toArray, List.set_cons_zero, List.set_cons_succ]
        refine wpAnyH_take (i := 2) (v := ?_) rfl (by kernel_rfl) (by kernel_rfl) (by kernel_rfl) (fun _ _ _ h => h) (Or.inl ⟨by rfl, ?_⟩) hS ?_
        rotate_left
        · (intro W hs; go_simp; first | done | with_reducible rfl)
        try simp only [Act.put, List.getElem_toArray, List.getElem_cons_zero, List.getElem_cons_succ, List.setIfInBounds_toArray, List.set_cons_zero, List.set_cons_succ]
        refine wpAnyH_take (i := 3) (v := ?_) rfl (by kernel_rfl) (by kernel_rfl) (by kernel_rfl) (fun _ _ _ h => h) (Or.inl ⟨by rfl, ?_⟩) hS ?_
        rotate_left
        · (intro W hs; go_simp; first | done | with_reducible rfl)
        try simp only [Act.put, List.getElem_toArray, List.getElem_cons_zero, List.getElem_cons_succ, List.setIfInBounds_toArray, List.set_cons_zero, List.set_cons_succ]
        refine wpAnyH_take (i := 4) (v := ?_) rfl (by kernel_rfl) (by kernel_rfl) (by kernel_rfl) (fun _ _ _ h => h) (Or.inl ⟨by rfl, ?_⟩) hS ?_
        rotate_left
        · (intro W hs; go_simp; first | done | with_reducible rfl)
        try simp only [Act.put, List.getElem_toArray, List.getElem_cons_zero, List.getElem_cons_succ, List.setIfInBounds_toArray, List.set_cons_zero, List.set_cons_succ]
        refine wpAnyH_take (i := 5) (v := ?_) rfl (by kernel_rfl) (by kernel_rfl) (by kernel_rfl) (fun _ _ _ h => h) (Or.inl ⟨by rfl, ?_⟩) hS ?_
        rotate_left
        · (intro W hs; go_simp; first | done | with_reducible rfl)
        try simp only [Act.put, List.getElem_toArray, List.getElem_cons_zero, List.getElem_cons_succ, List.setIfInBounds_toArray, List.set_cons_zero, List.set_cons_succ]
        refine wpAnyH_take (i := 6) (v := ?_) rfl (by kernel_rfl) (by kernel_rfl) (by kernel_rfl) (fun _ _ _ h => h) (Or.inl ⟨by rfl, ?_⟩) hS ?_
        rotate_left
        · (intro W hs; go_simp; first | done | with_reducible rfl)
        try simp only [Act.put, List.getElem_toArray, List.getElem_cons_zero, List.getElem_cons_succ, List.setIfInBounds_toArray, List.set_cons_zero, List.set_cons_succ]
        refine wpH_one (i := 7) (by kernel_rfl) rfl (fun K hK => ?_)
        go_simp
        refine (CD.out _ ((Fx.refl No w3).drew)).mono ?_
        rintro r w4 ⟨rfl, HF34, HI4⟩
        have HF34' : Hid (Fx DI w3 w4) := Lib.hid ((Fx.refl DI w3).drew.trans HF34.out)
        refine hK.out _ _ (HF34'.out) (fun hS' => ?_)
        clear hK K hS
        have hS := hS'
        clear hS'
        try simp only [Act.put, List.getElem_toArray, List.getElem_cons_zero, List.getElem_cons_succ, List.setIfInBounds_toArray, List.set_cons_zero, List.set_cons_succ]
        refine wpAnyH_done (by kernel_rfl) ?_ _
        clear z0 z1 z2 zg hS CD HB0 HB1 HB2 HC0 HBg
        have HZ := Lib.hid (gparts_step HP1.out (fun x hx => Nat.lt_of_lt_of_le (H.out.lt x hx) HF1.out.size) HM2.out HF12.out HO3.out HF23'.out HI4.out HF34'.out (fun k _ => upd_out_ins H.out.asc rfl k) (fun k _ => upd_in_ins H.out.asc rfl k))
        have HZ2 := Lib.hid (graph_end H.out HF1.out HZ.out H.out.asc.ins (fun y hy => by
          rcases mem_insE.1 hy with rfl | hy
          · exact hnx
          · exact H.out.nodes y hy) hMl)
        have HR1 : Hid (Fx D wx w4) := Lib.hid (HFr.out.trans' HZ2.out.1 fun y hy hl => by
          rcases hy with hy | hy
          · exact hy
          · have := hy.1; omega)
        have HR2 : Hid (GraphV w4 (DU D wx w4) b n (addL L (xs.take (k + 1)))) := Lib.hid (by
          rw [HAd.out]
          have hs4 := HZ2.out.1.size
          exact HZ2.out.2.mono (fun y hy => DU.du hwr hs4 hy) (DU.lt (fun y hy => Nat.lt_of_lt_of_le (HW0.out.lt y hy) HFx.out.size) HR1.out.size))
        clear HZ HZ2 HI3 HI4 HO2 HO3 HM2
        go_wp2
        go_roundw
        case rel => exact ⟨k + 1, by go_num, by omega, HR1.out, HR2.out⟩
        case measure => simp [intOf]; omega
      · have HMem : (⟨i, j, el⟩ : Ed) ∈ M := of_decide_eq_true HT.out.symm
        have HR1 : Hid (Fx D wx w1) := Lib.hid (HFr.out.trans HF1.out.no)
        have HR2 : Hid (GraphV w1 (DU D wx w1) b n (addL L (xs.take (k + 1)))) := Lib.hid (by
          rw [HAd.out, insE_mem HGr.out.asc HMem]
          have hs1 := HF1.out.size
          exact (HGr.out.no HF1.out).mono (fun y hy => DU.du hwr hs1 (.inl hy)) (DU.lt (fun y hy => Nat.lt_of_lt_of_le (H.out.lt y hy) HFx.out.size) HR1.out.size))
        clear HMem HT
        go_wp2
        go_roundw
        case rel => exact ⟨k + 1, by go_num, by omega, HR1.out, HR2.out⟩
        case measure => simp [intOf]; omega
    · obtain rfl : k = xs.length := by omega
      have HGe : Hid (GraphV wr (DU D wx wr) b n (addL L xs)) := Lib.hid (by have h1 := HGr.out; rw [List.take_length] at h1; exact h1)
      obtain ⟨ob, ib, mb, DO, DI, hp⟩ := HGe.out.ex
      have c2 := hp.c2
      have hlenm : ∀ ty, (Builtin.len_ #[88] ty #[.map (some mb)]).run Try.prog wr = .ok (.int .i64 ((addL L xs).length : Nat)) wr := hp.map.len
      obtain ⟨A, hA⟩ : ∃ A, A = (addL L xs).length := ⟨_, rfl⟩
      rw [← hA] at hlenm hal
      have HA := Lib.hid hA
      have hw : IntKind.i64.wrap ((A : Int) - (L.length : Int)) = ((A - L.length : Nat) : Int) := by rw [IntKind.wrap_i64]; omega
      clear hp hA
      go_wp2
      go_ret2
      refine ⟨by rw [← HA.out]; rfl, HFx.out.no.trans HFr.out, ?_⟩
      have z1 := HFx.out.size
      exact HGe.out.mono (fun y hy => by
        rcases hy with hy | ⟨h1, h2⟩
        · exact .inl hy
        · exact .inr ⟨by omega, h2⟩) (DU.lt H.out.lt (by omega))
end
#print axioms gAdd_no
#print axioms gAdd_any
end Go.Proofs.Yteafkafkbipcmaa

namespace Go.Proofs.Yteafkafkbipcmaa
open Go.RowKit
set_option linter.unusedVariables false

theorem addL_nil {L : List Ed} (h : Asc L) : addL [] L = L := Asc.same (addL_asc Asc.nil L) h fun x => by rw [mem_addL]; simp
theorem good_mk {n : Nat} {xs : List Ed} (h : ∀ x ∈ xs, (0 ≤ x.f ∧ x.f < (n : Int)) ∧ 0 ≤ x.t ∧ x.t < (n : Int)) : xs.any (badE n) = false := by
  rw [List.any_eq_false]
  intro x hx
  have := h x hx
  simp [badE, this.1, this.2]
section
variable {w w' : World} {D S T E : Nat → Prop} {b n : Nat} {L : List Ed} {v : Value} {xs : List Ed}
set_option maxRecDepth 100000 in
set_option maxHeartbeats 1000000 in
theorem gBetween_any (h : GraphV w D b n L) (m k : Int) : Calls Try.prog 39 #[.pointer (some ⟨b, 0, none⟩), .int .i64 m, .int .i64 k] w fun e w' => ∃ v', e = .returned v' ∧ Fx No w w' ∧ OwnT 57 e3 3 w' w.heap.size v' ((rowI (outE L) n m).filter fun x => decide (x.t = k)) := by
  obtain ⟨ii, hi, hz, hs, hb⟩ := info_edge'
  have H := Lib.hid h
  have hrl : (rowI (outE L) n m).length ≤ 1000000 := by
    unfold rowI
    split
    · exact Nat.le_trans (outE_len L _) h.small
    · simp
  have CO := Lib.hid (gOut_any h m)
  obtain ⟨R, hR⟩ : ∃ R, R = rowI (outE L) n m := ⟨_, rfl⟩
  rw [← hR] at CO hrl ⊢
  clear h hR
  go_enter Try.func39, Try.ntmps39
  go_wp2_with fail
  refine CO.out.mono ?_
  rintro e w1 ⟨v1, rfl, hf, ho⟩
  have HF1 := Lib.hid hf
  have HO1 := Lib.hid ho
  obtain ⟨a1, c1, rfl, hcl, hcm, hc⟩ := EdsV.facts ho.row
  have HC := Lib.hid hc
  have z1 := hf.size
  clear hf ho hc CO
  go_wp2
  go_loopw [6, 13] (fun l i ws => ∃ q : Nat, i = .int .i64 q ∧ q ≤ R.length ∧ Fx No w1 ws ∧ OwnT 57 e3 3 ws w1.heap.size l ((R.take q).filter fun x => decide (x.t = k))) (fun _ i _ => R.length - (intOf i).toNat)
  case atStart => exact ⟨0, rfl, Nat.zero_le _, Fx.refl _ _, by simpa using OwnT.nil _ _⟩
  case round =>
    obtain ⟨q, rfl, hq, hf, ho⟩ := hrel
    have HF := Lib.hid hf
    have HO := Lib.hid ho
    have hzr := hf.size
    clear hf ho
    by_cases hlt : q < R.length
    · obtain ⟨bb, oo, rfl, hbb, p0, p1, p2⟩ := HC.out q hlt
      have HTk := Lib.hid (take_gt hlt)
      obtain ⟨x, hx⟩ : ∃ x, x = gt R q := ⟨_, rfl⟩
      rw [← hx] at p0 p1 p2 HTk
      have k0 := HF.out.cell' p0 (fun h => h)
      have k1 := HF.out.cell' p1 (fun h => h)
      have k2 := HF.out.cell' p2 (fun h => h)
      have hq0 : (0 : Int) ≤ (q : Int) := by omega
      have hq1 : (q : Int) < (R.length : Int) := by omega
      obtain ⟨xs, hxs⟩ : ∃ xs, xs = (R.take q).filter fun x => decide (x.t = k) := ⟨_, rfl⟩
      have hxl : xs.length ≤ q := by rw [hxs]; exact Nat.le_trans (List.length_filter_le _ _) (by rw [List.length_take]; omega)
      rw [← hxs] at HO
      by_cases he : x.t = k
      · have HN : Hid ((R.take (q + 1)).filter (fun x => decide (x.t = k)) = xs ++ [x]) := Lib.hid (by rw [HTk.out, List.filter_append, ← hxs]; simp [he])
        have d1 : (x.t == k) = true := by simpa using he
        obtain ⟨f1, f2, f3⟩ := x
        simp only at he k0 k1 k2 d1
        subst he
        clear p0 p1 p2 hx hxs HTk
        have HSl : Hid (SlV ((wr.alloc (.cells #[.int .i64 f1, .int .i64 f2, .int .i64 f3] 57)).alloc (.cells #[.int .i64 f1, .int .i64 f2, .int .i64 f3] 57)) (fun _ => True) (.slice (some ⟨wr.heap.size + 1, 0, none⟩) 1 1) 3 1 (ints [f1, f2, f3])) := Lib.hid (by
          have h1 := SlV.lit (wr.alloc (.cells #[.int .i64 f1, .int .i64 f2, .int .i64 f3] 57)) 57 #[.int .i64 f1, .int .i64 f2, .int .i64 f3] 3 1 rfl (by unfold maxLen; omega)
          rw [World.size_alloc] at h1
          exact h1)
        go_wp2_with (at_builtin; refine wpList_append_kept rfl _ _ 22 rfl w1.heap.size 57 Try.underlying22 hi hz hs hb rfl (by decide) rfl (World.ownsRow.alloc (World.ownsRow.alloc HO.out _) _) rfl HSl.out (ints_one [_, _, _]) (by omega) (by unfold maxLen; omega) (by omega) (by simp; omega) ?_)
        intro v2 w2 ho hf _ _
        have HO2 : Hid (OwnT 57 e3 3 w2 w1.heap.size v2 ((R.take (q + 1)).filter fun x => decide (x.t = f2))) := Lib.hid (by rw [HN.out]; exact OwnT.snoc ho)
        have HF2 : Hid (Fx No w1 w2) := Lib.hid (((HF.out.alloc _).alloc _).trans' hf fun j h1 h2 => by have := (HO.out.lt h1).1; omega)
        clear ho hf
        go_wp2
        go_roundw
        case rel => exact ⟨q + 1, by go_num, by omega, HF2.out, HO2.out⟩
        case measure => simp [intOf]; omega
      · have HN : Hid ((R.take (q + 1)).filter (fun x => decide (x.t = k)) = xs) := Lib.hid (by rw [HTk.out, List.filter_append, ← hxs]; simp [he])
        have d1 : (x.t == k) = false := by simpa using he
        clear p0 p1 p2 hx hxs HTk
        have HF2 : Hid (Fx No w1 (wr.alloc (.cells #[.int .i64 x.f, .int .i64 x.t, .int .i64 x.l] 57))) := Lib.hid (HF.out.alloc _)
        have HO2 : Hid (OwnT 57 e3 3 (wr.alloc (.cells #[.int .i64 x.f, .int .i64 x.t, .int .i64 x.l] 57)) w1.heap.size u6 ((R.take (q + 1)).filter fun x => decide (x.t = k))) := Lib.hid (by rw [HN.out]; exact OwnT.no HO.out ((Fx.refl No _).alloc _))
        go_wp2
        go_roundw
        case rel => exact ⟨q + 1, by go_num, by omega, HF2.out, HO2.out⟩
        case measure => simp [intOf]; omega
    · obtain rfl : q = R.length := by omega
      go_wp2
      go_ret
      refine ⟨_, rfl, HF1.out.trans HF.out, ?_⟩
      have h1 := HO.out
      rw [List.take_length] at h1
      exact h1.base z1
end
#print axioms gBetween_any
end Go.Proofs.Yteafkafkbipcmaa

namespace Go.Proofs.Yteafkafkbipcmaa
open Go.RowKit
set_option linter.unusedVariables false

def CellsI (w : World) (g o : Nat) (l : List Int) : Prop := ∀ k, k < l.length → w.cell? ⟨g, o + k, none⟩ = some (.int .i64 (gi l k)) ∧ w.frozen? ⟨g, o + k, none⟩ = false
/-- a row of ints that is new since block B, and may be written -/
def RowI (w : World) (B : Nat) (v : Value) (l : List Int) : Prop :=
  ∃ ao cap, v = .slice ao l.length cap ∧ l.length ≤ cap ∧ cap ≤ maxLen ∧ (ao = none → cap = 0) ∧ (l = [] ∨ ∃ g, ao = some ⟨g, 0, none⟩ ∧ B ≤ g ∧ g < w.heap.size ∧ CellsI w g 0 l)
theorem CellsI.keep {w w' : World} {S : Nat → Prop} {g o : Nat} {l : List Int} (h : CellsI w g o l) (hf : Fx S w w') (hg : ¬ S g) : CellsI w' g o l := fun k hk => hf.cellF (h k hk).1 (h k hk).2 hg
theorem RowI.toInts {w : World} {B : Nat} {v : Value} {l : List Int} (h : RowI w B v l) : IntsV w (Iv B w.heap.size) v l := by
  obtain ⟨ao, cap, h1, h2, h3, h4, h5⟩ := h
  refine ⟨ao, cap, h1, h2, h3, by simp [ints], h4, ?_⟩
  rcases h5 with rfl | ⟨g, h5, h6, h7, h8⟩
  · exact .inl rfl
  · refine .inr ⟨g, 0, h5, ⟨h6, h7⟩, fun i hi => ?_⟩
    have hi' : i < l.length := by simpa [ints] using hi
    rw [(h8 i hi').1]
    simp [ints, gi, List.getD, hi']
theorem RowI.ofOwn {w : World} {B : Nat} {v : Value} {l : List Int} (h : w.ownsRow B 3 1 v l.length (ints l)) : RowI w B v l := by
  rcases h.2 with ⟨rfl, h0⟩ | ⟨g, cap, cur, rfl, hb, hg, h1, h2, h3, h4⟩
  · obtain rfl := List.eq_nil_of_length_eq_zero h0
    exact ⟨none, 0, rfl, Nat.le_refl _, Nat.zero_le _, fun _ => rfl, .inl rfl⟩
  · refine ⟨_, cap, rfl, h1, h2, (fun h => by cases h), .inr ⟨g, rfl, hb, (Array.getElem?_eq_some_iff.1 hg).1, fun k hk => ⟨?_, ?_⟩⟩⟩
    · have := h.cells (g := g) rfl k (.int .i64 (gi l k)) (by simp [ints, gi, hk])
      rw [Addr.add_lit] at this
      exact this
    · simp [World.frozen?, hg]
theorem RowI.keep {w w' : World} {S : Nat → Prop} {B : Nat} {v : Value} {l : List Int} (h : RowI w B v l) (hf : Fx S w w') (hd : ∀ k, B ≤ k → k < w.heap.size → ¬ S k) : RowI w' B v l := by
  obtain ⟨ao, cap, h1, h2, h3, h4, h5⟩ := h
  refine ⟨ao, cap, h1, h2, h3, h4, ?_⟩
  rcases h5 with h5 | ⟨g, h5, h6, h7, h8⟩
  · exact .inl h5
  · exact .inr ⟨g, h5, h6, Nat.lt_of_lt_of_le h7 hf.size, h8.keep hf (hd g h6 h7)⟩
theorem Fx.cells (g : Nat) : ∀ (vs : List Value) (o : Nat) (w : World), Fx (fun j => j = g) w (w.setCells g o vs)
  | [], _, _ => Fx.refl _ _
  | v :: r, o, w => (Fx.put w g o v).trans (Fx.cells g r (o + 1) _)
/-- without what comes twice, one behind the other: of the first a ones -/
def compTo (l : List Int) : Nat → List Int
  | 0 => []
  | a + 1 => compTo l a ++ if a = 0 ∨ gi l a ≠ gi l (a - 1) then [gi l a] else []
def comp (l : List Int) : List Int := compTo l l.length
theorem compTo_len (l : List Int) : ∀ a, (compTo l a).length ≤ a
  | 0 => by simp [compTo]
  | a + 1 => by
    have := compTo_len l a
    unfold compTo
    rw [List.length_append]
    split <;> simp <;> omega
theorem compTo_pos (l : List Int) (a : Nat) : 0 < (compTo l (a + 1)).length := by
  induction a with
  | zero => simp [compTo]
  | succ a ih => unfold compTo; rw [List.length_append]; omega
theorem compTo_new {l : List Int} {a : Nat} (h : gi l a ≠ gi l (a - 1)) : compTo l (a + 1) = compTo l a ++ [gi l a] := by
  rw [compTo, if_pos (.inr h)]
theorem compTo_old {l : List Int} {a : Nat} (h0 : 0 < a) (h : gi l a = gi l (a - 1)) : compTo l (a + 1) = compTo l a := by
  rw [compTo, if_neg (by omega)]; simp
theorem comp_short {l : List Int} (h : l.length < 2) : comp l = l := by
  match l with
  | [] => rfl
  | [x] => simp [comp, compTo, gi]
  | x :: y :: l => simp at h; omega
theorem compTo_one {l : List Int} (h : 0 < l.length) : compTo l 1 = l.take 1 := by
  match l with
  | [] => simp at h
  | x :: l => simp [compTo, gi]
theorem gi_append_left {a b : List Int} {k : Nat} (h : k < a.length) : gi (a ++ b) k = gi a k := by
  simp [gi, List.getD, List.getElem?_append_left h]
theorem gi_append_one {a : List Int} {x : Int} : gi (a ++ [x]) a.length = x := by simp [gi, List.getD]
section
variable {w w' : World} {D S T E : Nat → Prop} {v : Value} {l : List Int} {B : Nat}
end
end Go.Proofs.Yteafkafkbipcmaa

namespace Go.Proofs.Yteafkafkbipcmaa
open Go.RowKit
set_option linter.unusedVariables false

theorem rowI_len {L : List Ed} {n : Nat} {m : Int} (h : L.length ≤ 1000000) : (rowI (outE L) n m).length ≤ 1000000 := by
  unfold rowI
  split
  · exact Nat.le_trans (outE_len L _) h
  · simp
section
variable {w w' : World} {D S T E : Nat → Prop} {b n : Nat} {L : List Ed} {v : Value} {xs : List Ed}
end
end Go.Proofs.Yteafkafkbipcmaa

namespace Go.Proofs.Yteafkafkbipcmaa
open Go.RowKit
open Go.Maps (Keyed)
set_option linter.unusedVariables false

theorem ok_wf {x : Int} (h : (Lit.int .i64 x).wf = true) : Ok64 x := by
  unfold Ok64
  simp [Lit.wf, IntKind.min, IntKind.max, IntKind.signed, IntKind.bits] at h
  omega
set_option maxRecDepth 100000 in
theorem key_inv {v : Value} {kl : Lit} (h : keyOf Try.prog 57 v = some kl) : ∃ x : Ed, v = evE x ∧ x.ok := by
  obtain ⟨m, hm⟩ := typesPos
  obtain ⟨j, hj, _, hjs, _⟩ := info_parts info_int'
  have hc : Try.prog.cellsOf 3 = 1 := by simp [Program.cellsOf, hj, hjs]
  obtain ⟨ii, hi, _, hs, _⟩ := info_edge'
  have hce : Try.prog.cellsOf 57 = 3 := by simp [Program.cellsOf, hi, hs]
  have hk : Try.prog.keyType 57 = true := by kernel_rfl
  unfold keyOf at h
  rw [Try.underlying57, hm] at h
  have h2 : (if (Try.prog.keyType 57 && v.formed Try.prog 57) = true then (Try.prog.keyLits (m + 1 + 1) 57 v.cells.toList).map fun ls => Lit.string (keyBytes ls) else none) = some kl := h
  clear h
  rw [hk, Bool.true_and] at h2
  by_cases hf : v.formed Try.prog 57 = true
  · rw [if_pos hf] at h2
    cases v <;> simp [Value.formed, Try.underlying57] at hf
    rename_i cs
    obtain ⟨l⟩ := cs
    rw [hce] at hf
    match l, hf with
    | [c0, c1, c2], hsz =>
      clear hsz
      simp only [Value.cells] at h2
      simp [Program.keyLits, Try.underlying57, Try.underlying3, hc, hce] at h2
      cases c0 <;> simp at h2
      rename_i q0 a0
      by_cases w0 : q0 = .i64 ∧ (Lit.int .i64 a0).wf = true
      · rw [if_pos w0] at h2
        simp at h2
        cases c1 <;> simp at h2
        rename_i q1 a1
        by_cases w1 : q1 = .i64 ∧ (Lit.int .i64 a1).wf = true
        · rw [if_pos w1] at h2
          simp at h2
          cases c2 <;> simp at h2
          rename_i q2 a2
          by_cases w2 : q2 = .i64 ∧ (Lit.int .i64 a2).wf = true
          · obtain ⟨rfl, v0⟩ := w0
            obtain ⟨rfl, v1⟩ := w1
            obtain ⟨rfl, v2⟩ := w2
            exact ⟨⟨a0, a1, a2⟩, rfl, ok_wf v0, ok_wf v1, ok_wf v2⟩
          · rw [if_neg w2] at h2
            simp at h2
        · rw [if_neg w1] at h2
          simp at h2
      · rw [if_neg w0] at h2
        simp at h2
  · rw [if_neg hf] at h2
    cases h2
theorem asc_len {b : List Ed} (hb : Asc b) : ∀ {a : List Ed}, Asc a → (∀ x ∈ a, x ∈ b) → a.length ≤ b.length := by
  intro a
  induction a generalizing b with
  | nil => simp
  | cons x a ih =>
    intro ha hs
    obtain ⟨h1, h2⟩ := Asc.cons.1 ha
    have hx := hs x (by simp)
    have h3 := ih hb.del h2 (fun y hy => mem_delE.2 ⟨hs y (by simp [hy]), fun q => Ed.lt_irrefl x (by have h5 := h1 y hy; rw [q] at h5; exact h5)⟩)
    have h4 := length_delE hb hx
    rw [List.length_cons]; omega
theorem asc_eq : ∀ {a b : List Ed}, Asc a → Asc b → (∀ x ∈ a, x ∈ b) → a.length = b.length → a = b := by
  intro a b ha hb hs hl
  refine Asc.same ha hb fun x => ⟨hs x, fun hx => Classical.byContradiction fun hn => ?_⟩
  have h1 := asc_len (hb.del (e := x)) ha (fun y hy => mem_delE.2 ⟨hs y hy, fun q => hn (by rw [← q]; exact hy)⟩)
  have h2 := length_delE hb hx
  omega
theorem own_fx {w w' : World} {S : Nat → Prop} {k : TypeId} {R : Value → Option (DataW Unit × List MemPlace)} {b n : Nat} {D : DataW Unit} (h : w.ownsMap Try.prog k R b n D) (hf : Fx S w w') (hb : ¬ S b) : w'.ownsMap Try.prog k R b n D := by
  obtain ⟨es, clock, h1, h2⟩ := h
  exact ⟨es, clock, hf.at_ h1 hb, h2⟩
section
variable {w w' : World} {D S T E D2 : Nat → Prop} {b n b2 n2 : Nat} {L L2 : List Ed} {m1 m2 : Nat}
end
#print axioms asc_eq
end Go.Proofs.Yteafkafkbipcmaa

namespace Go.Proofs.Yteafkafkbipcmaa
open Go.RowKit
open Go.Maps (Keyed)
set_option linter.unusedVariables false

theorem law_int : Keyed Try.prog 3 := Maps.int_keyed Try.underlying3
theorem key_int {x : Int} (h : Ok64 x) : keyOf Try.prog 3 (.int .i64 x) = some (.int .i64 x) := Maps.keyOf_int_mk Try.underlying3 (wf64 h)
theorem zero_bool (w : World) : (zeroValue 4).run Try.prog w = .ok (.bool false) w := by kernel_rfl
noncomputable abbrev boolR : Value → Option (DataW Unit × List MemPlace) := plainElem (H := Unit) Try.prog 4
/-- a set of numbers behind a map -/
def SetM (w : World) (mb : Nat) (zs : List Int) : Prop := ∃ D : DataW Unit, w.ownsMap Try.prog 3 boolR mb zs.length D ∧ ∀ x, Ok64 x → D.atKey (.int .i64 x) (.lit (.bool false)) = .lit (.bool (decide (x ∈ zs)))
theorem bool_inv {v : Value} {b : Bool} {ps : List MemPlace} (h : boolR v = some (.lit (.bool b), ps)) : v = .bool b := by
  have hu := Try.underlying4
  unfold boolR plainElem at h
  revert h
  generalize Try.prog.underlying 4 = u at hu ⊢
  subst hu
  intro h
  cases v <;> simp at h
  rw [h.1]
section
variable {w w' : World} {S : Nat → Prop} {mb : Nat} {zs : List Int}
theorem SetM.keep (h : SetM w mb zs) (hf : Fx S w w') (hn : ¬ S mb) : SetM w' mb zs := by
  obtain ⟨D, h1, h2⟩ := h
  exact ⟨D, own_fx h1 hf hn, h2⟩
theorem SetM.made (w : World) : SetM (w.alloc (.map #[] 0)) w.heap.size [] := ⟨_, World.ownsMap_made w _ _ _, fun x _ => by simp [DataW.atKey]⟩
theorem SetM.put {x : Int} {D : DataW Unit} (hm : Maps.IsMap D) (hx : Ok64 x) (h2 : ∀ x, Ok64 x → D.atKey (.int .i64 x) (.lit (.bool false)) = .lit (.bool (decide (x ∈ zs)))) (h1 : w.ownsMap Try.prog 3 boolR mb (zs.length + 1) (D.put (.int .i64 x) (.lit (.bool true)))) : SetM w mb (zs ++ [x]) := by
  refine ⟨_, by rw [List.length_append]; exact h1, fun y hy => ?_⟩
  by_cases h : y = x
  · subst h
    rw [Maps.atKey_put_same hm (law_int.key (key_int hx))]
    simp
  · rw [Maps.atKey_put_other (by simpa using h), h2 y hy]
    simp [h]
section
variable {D E : Nat → Prop} {b n : Nat} {L : List Ed} {v : Value}
/-- an edge between nodes that are named -/
def namedE (zs : List Int) (x : Ed) : Bool := decide (x.f ∈ zs) && decide (x.t ∈ zs)
end
end
#print axioms SetM.put
end Go.Proofs.Yteafkafkbipcmaa
