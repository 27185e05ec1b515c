/- The reference of components: Closed, Within. | The reference of components: Joined. | The reference of components: Shrink. | What the walk of SccTells holds at hand. -/
import Derived.Test.YtdoplaijgocboaaGreatT1
import Derived.Laws.ResultCell

namespace Go.Proofs.YtdoplaijgocboaaGreat
open Go.RowKit
set_option linter.unusedVariables false

def loopL (g : Nat → Nat → Bool) (i : Nat) : List Int := natsI ((List.range i).filter fun k => g k k)
theorem loopL_succ (g : Nat → Nat → Bool) (i : Nat) : loopL g (i + 1) = loopL g i ++ if g i i = true then [(i : Int)] else [] := by
  unfold loopL
  rw [List.range_succ, List.filter_append, natsI_app]
  congr 1
  by_cases h : g i i = true <;> simp [h, natsI]
theorem loopL_len (g : Nat → Nat → Bool) (i : Nat) : (loopL g i).length ≤ i := by
  unfold loopL
  rw [natsI_len]
  have := List.length_filter_le (fun k => g k k) (List.range i)
  simpa using this
section
variable {w w' : World} {D S : Nat → Prop} {L : List Ed} {v : Value} {sm : Nat → Nat → Bool}
set_option maxRecDepth 100000 in
set_option maxHeartbeats 4000000 in
theorem refClosed_any (h : EdsV w D v L) {N : Nat} (hN : N ≤ 1000) (hL : NdL L N) (hq : Eqv sm N) (hsm : ∀ i j, i < N → j < N → (sm i j = true ↔ Sm (EG L) i j)) (l : List Int) (hl : Up1 l ((L.filter fun x => !outE2 (cno sm) x).map (·.f))) :
    Calls Tryz.prog 9 #[.agg #[.int .i64 (N : Nat), v]] w fun e w' => ∃ v', e = .returned v' ∧ Fx No w w' ∧ w'.ownsRow w.heap.size 3 1 v' l.length (ints l) := by
  obtain ⟨ii, hi, hz, hs, hb⟩ := info_parts info_intR
  have HL := Lib.hid hL
  have HE := Lib.hid hq
  have HSm := Lib.hid hsm
  have HUp := Lib.hid hl
  have HR := Lib.hid (refReach_any (h.no ((Fx.refl No w).alloc (.cells #[.int .i64 (N : Nat), v] 28))) hN hL)
  obtain ⟨ao, cap, rfl, _⟩ := EdsV.facts h
  clear h hL hq hsm hl
  go_enter Tryz.func9, Tryz.ntmps9
  go_wp2_with fail
  refine HR.out.mono ?_
  rintro e w2 ⟨vo, gO, B, g, rfl, hf2, hm2, hg2⟩
  obtain ⟨vO, vcap, rfl, hvO, _⟩ := hm2.shape
  have hf0 : Fx No w w2 := ((Fx.refl No w).alloc _).trans hf2
  obtain ⟨rb, hrb⟩ : ∃ x, x = w.heap.size := ⟨_, rfl⟩
  have r0 : w2.cell? ⟨rb, 0, none⟩ = some (.int .i64 (N : Nat)) := by rw [hrb]; exact hf2.cell' (by simp) (fun q => q)
  rw [← hrb]
  have HR0 := Lib.hid r0
  have HF0 := Lib.hid hf0
  have HM2 := Lib.hid hm2
  have HvO := Lib.hid hvO
  have HLl : Hid (loopL g N = l) := Lib.hid (asc_extI (by
      unfold loopL natsI
      rw [List.pairwise_map]
      exact ((List.pairwise_lt_range (n := N)).filter _).imp fun {a b} q => by omega) HUp.out.asc fun x => by
    rw [HUp.out.mem x, List.mem_map]
    unfold loopL natsI
    rw [List.mem_map]
    constructor
    · rintro ⟨k, hk, rfl⟩
      obtain ⟨h1, h2⟩ := List.mem_filter.1 hk
      have hkN := List.mem_range.1 h1
      obtain ⟨j, ⟨e, he, e1, e2⟩, h4⟩ := (closed_iff (E := EG L) hg2 (fun i j q => EG_lt HL.out q) hkN).1 h2
      refine ⟨e, List.mem_filter.2 ⟨he, ?_⟩, e1⟩
      obtain ⟨⟨a, b⟩, c, d⟩ := HL.out e he
      have hjN : j < N := by omega
      have e3 := (cno_same (eqv_smR hg2) hkN hjN).1 h4
      have e4 := (cno_same HE.out hkN hjN).2 ((HSm.out k j hkN hjN).2 ((smR_iff hg2 hkN hjN).1 e3))
      have e5 : e.f.toNat = k := by omega
      have e6 : e.t.toNat = j := by omega
      unfold outE2
      rw [e5, e6, e4]
      simp
    · rintro ⟨e, he, rfl⟩
      obtain ⟨h1, h2⟩ := List.mem_filter.1 he
      obtain ⟨⟨a, b⟩, c, d⟩ := HL.out e h1
      have hf : e.f.toNat < N := by omega
      have ht : e.t.toNat < N := by omega
      refine ⟨e.f.toNat, List.mem_filter.2 ⟨List.mem_range.2 hf, ?_⟩, by omega⟩
      refine (closed_iff (E := EG L) hg2 (fun i j q => EG_lt HL.out q) hf).2 ⟨e.t.toNat, ⟨e, h1, by omega, by omega⟩, ?_⟩
      unfold outE2 at h2
      have e4 : cno sm e.f.toNat = cno sm e.t.toNat := by simpa using h2
      exact (cno_same (eqv_smR hg2) hf ht).2 ((smR_iff hg2 hf ht).2 ((HSm.out _ _ hf ht).1 ((cno_same HE.out hf ht).1 e4))))
  clear hf2 hm2 hg2 hvO HR hf0 hrb r0
  go_wp2
  go_loopw [4, 5] (fun o i ws => ∃ k : Nat, i = .int .i64 k ∧ k ≤ N ∧ Fx No w2 ws ∧ ws.ownsRow w2.heap.size 3 1 o (loopL g k).length (ints (loopL g k))) (fun _ i _ => N - (intOf i).toNat)
  case atStart => exact ⟨0, rfl, by omega, Fx.refl _ _, World.ownsRow_nil _ _ _ _⟩
  case round =>
    obtain ⟨i, rfl, hiN, hf, ho⟩ := hrel
    have HF := Lib.hid hf
    have HO := Lib.hid ho
    obtain ⟨oo, oc, rfl, _⟩ := SlV.ofOwns ho
    have r0 := hf.cell' HR0.out (fun q => q)
    have hll := loopL_len g i
    obtain ⟨m, hm⟩ : ∃ m, m = (loopL g i).length := ⟨_, rfl⟩
    rw [← hm] at hll HO ⊢
    have HMl := Lib.hid hm
    have hz3 := hf.size
    clear hf ho hm
    by_cases hlt : i < N
    · have i0 : (0 : Int) ≤ (i : Int) := by omega
      have i1 : (i : Int) < (N : Int) := by omega
      obtain rfl := HvO.out (by omega)
      have hmt := HM2.out.fx HF.out (fun _ _ q => q)
      have m1 := hmt.row i hlt
      have s1 := (hmt.cel i i hlt hlt).1
      have HLs := Lib.hid (loopL_succ g i)
      obtain ⟨t, ht⟩ : ∃ t, t = g i i := ⟨_, rfl⟩
      rw [← ht] at s1 HLs
      clear ht hmt
      cases t
      · have HLs : Hid (loopL g (i + 1) = loopL g i) := Lib.hid (by rw [HLs.out]; simp)
        go_wp2
        go_roundw
        case rel => exact ⟨i + 1, by go_num, by omega, HF.out, by rw [HLs.out, ← HMl.out]; exact HO.out⟩
        case measure => simp [intOf]; omega
      · have HLs2 : Hid (loopL g (i + 1) = loopL g i ++ [(i : Int)]) := Lib.hid (by rw [HLs.out]; rfl)
        clear HLs
        go_wp2_with (at_builtin; refine wpList_append_kept rfl _ _ 23 rfl w2.heap.size 3 Tryz.underlying23 hi hz hs hb rfl (by decide) rfl (World.ownsRow.alloc HO.out _) rfl (SlV.lit _ 3 #[.int .i64 _] 1 1 rfl (by unfold maxLen; omega)) (ints_one [_]) (by omega) (by unfold maxLen; omega) (by omega) (by simp; omega) ?_)
        intro v6 w6 ho6 hf6 hk6 hb6
        have HN6 : Hid (Fx No w2 w6 ∧ w6.ownsRow w2.heap.size 3 1 v6 (loopL g (i + 1)).length (ints (loopL g (i + 1)))) := Lib.hid ⟨((HF.out.trans ((Fx.refl No _).alloc _)).trans' hf6 fun j e hl => by have := (World.ownsRow.lt HO.out j e).1; omega), by rw [HLs2.out, List.length_append, ← HMl.out, show ints (loopL g i ++ [(i : Int)]) = ints (loopL g i) ++ ints [(i : Int)] from List.map_append]; exact ho6⟩
        clear ho6 hf6 hk6 hb6
        go_wp2
        go_roundw
        case rel => exact ⟨i + 1, by go_num, by omega, HN6.out.1, HN6.out.2⟩
        case measure => simp [intOf]; omega
    · obtain rfl : i = N := by omega
      have z0 := HF0.out.size
      have HZ := Lib.hid (ownsRow_base HO.out z0)
      clear HR0
      go_wp2
      go_ret
      refine ⟨_, rfl, HF0.out.trans HF.out, ?_⟩
      have := HZ.out
      rw [HMl.out, HLl.out] at this
      rw [HMl.out, HLl.out]
      exact this
set_option maxRecDepth 100000 in
set_option maxHeartbeats 4000000 in
theorem refWithin_any (h : EdsV w D v L) {N : Nat} (hN : N ≤ 1000) (hL : NdL L N) (hLs : L.length ≤ 100000) (hq : Eqv sm N) (hsm : ∀ i j, i < N → j < N → (sm i j = true ↔ Sm (EG L) i j)) :
    Calls Tryz.prog 10 #[.agg #[.int .i64 (N : Nat), v]] w fun e w' => ∃ v', e = .returned v' ∧ Fx No w w' ∧ OwnR w' w.heap.size v' (L.filter fun x => !outE2 (cno sm) x) := by
  obtain ⟨ii, hi, hz, hs, hb⟩ := info_parts info_edge13
  have HL := Lib.hid hL
  have HR := Lib.hid (refOf_any (h.no ((Fx.refl No w).alloc (.cells #[.int .i64 (N : Nat), v] 28))) hN hL hq hsm)
  have HV := Lib.hid h
  obtain ⟨ao, cap, rfl, _⟩ := EdsV.facts h
  clear h hL hq hsm
  obtain ⟨m, hm⟩ : ∃ m, m = L.length := ⟨_, rfl⟩
  rw [← hm] at hLs
  have HM := Lib.hid hm
  go_enter Tryz.func10, Tryz.ntmps10
  go_wp2_with fail
  refine HR.out.mono ?_
  rintro e w2 ⟨v2, rfl, hf2, ho2⟩
  obtain ⟨ao2, cap2, rfl, _⟩ := SlV.ofOwns ho2
  have hf0 : Fx No w w2 := ((Fx.refl No w).alloc _).trans hf2
  obtain ⟨rb, hrb⟩ : ∃ x, x = w.heap.size := ⟨_, rfl⟩
  have r1 : w2.cell? ⟨rb, 1, none⟩ = some (.slice ao m cap) := by rw [hrb, hm]; exact hf2.cell' (by simp) (fun q => q)
  rw [← hrb]
  have HR1 := Lib.hid r1
  have HF0 := Lib.hid hf0
  have HO2 : Hid (IntsV w2 (fun _ => True) (.slice ao2 N cap2) (cnoL sm N)) := Lib.hid (by have := (SlV.ofOwns ho2).mono (T := fun _ => True) fun k hk => trivial; unfold IntsV; rw [cnoL_len]; exact this)
  have HV2 := Lib.hid (RowV.no HV.out hf0)
  clear hf2 HR hf0 hrb r1 ho2 HV hm
  go_wp2
  go_loopw [4, 5] (fun o i ws => ∃ k : Nat, i = .int .i64 k ∧ k ≤ m ∧ Fx No w2 ws ∧ OwnR ws w2.heap.size o ((L.take k).filter fun x => !outE2 (cno sm) x)) (fun _ i _ => m - (intOf i).toNat)
  case atStart => exact ⟨0, rfl, by omega, Fx.refl _ _, OwnT.nil _ _⟩
  case round =>
    obtain ⟨k, rfl, hk, hf, ho⟩ := hrel
    have HF := Lib.hid hf
    have HO := Lib.hid ho
    obtain ⟨oo, oc, hoe, _⟩ := OwnT.row ho
    subst hoe
    have r1 := hf.cell' HR1.out (fun q => q)
    obtain ⟨ys, hys⟩ : ∃ ys, ys = (L.take k).filter fun x => !outE2 (cno sm) x := ⟨_, rfl⟩
    rw [← hys] at HO ⊢
    have HYs := Lib.hid hys
    have hyl : ys.length ≤ k := by
      rw [hys]
      have h1 := List.length_filter_le (fun x => !outE2 (cno sm) x) (L.take k)
      have h2 : (L.take k).length ≤ k := List.length_take_le _ _
      omega
    have hz3 := hf.size
    by_cases hkm : k < m
    · have hkx : k < L.length := by rw [← HM.out]; exact hkm
      obtain ⟨_, _, e0, _, _, hkk⟩ := EdsV.facts (RowV.no HV2.out hf)
      obtain ⟨b3, o3, e1, _, p0, p1, p2⟩ := hkk k hkx
      simp only [Value.slice.injEq] at e0
      obtain ⟨rfl, -, -⟩ := e0
      subst e1
      obtain ⟨x, hx⟩ : ∃ x, x = gt L k := ⟨_, rfl⟩
      rw [← hx] at p0 p1 p2
      obtain ⟨⟨n0, n1⟩, n2, n3⟩ := HL.out x (by rw [hx]; exact gt_mem hkx)
      have HTk : Hid (((L.take (k + 1)).filter fun x => !outE2 (cno sm) x) = ys ++ if outE2 (cno sm) x = true then [] else [x]) := Lib.hid (by
        rw [take_gt hkx, List.filter_append, ← hys, ← hx]
        congr 1
        cases hh : outE2 (cno sm) x <;> simp [hh])
      obtain ⟨xf, xt, xl⟩ := x
      simp only at n0 n1 n2 n3 p0 p1 p2
      obtain ⟨i, rfl⟩ := Int.eq_ofNat_of_zero_le n0
      obtain ⟨j, rfl⟩ := Int.eq_ofNat_of_zero_le n2
      have hi' : i < N := by omega
      have hj' : j < N := by omega
      obtain ⟨_, _, e0, _, hcc⟩ := IntsV.facts (IntsV.no HO2.out hf)
      rw [cnoL_len] at e0 hcc
      obtain ⟨b4, o4, e1, _, c0⟩ := hcc i hi'
      obtain ⟨b5, o5, e2, _, c1⟩ := hcc j hj'
      rw [cnoL_at hi'] at c0
      rw [cnoL_at hj'] at c1
      simp only [Value.slice.injEq] at e0
      obtain ⟨rfl, -, -⟩ := e0
      subst e1
      simp only [Option.some.injEq, Addr.mk.injEq] at e2
      obtain ⟨rfl, rfl, -⟩ := e2
      obtain ⟨ci, hci⟩ : ∃ x, x = cno sm i := ⟨_, rfl⟩
      obtain ⟨cj, hcj⟩ : ∃ x, x = cno sm j := ⟨_, rfl⟩
      rw [← hci] at c0
      rw [← hcj] at c1
      have HOut : Hid (outE2 (cno sm) ⟨(i : Int), (j : Int), xl⟩ = decide (ci ≠ cj)) := Lib.hid (by rw [hci, hcj]; rfl)
      have i0 : (0 : Int) ≤ (i : Int) := by omega
      have i1 : (i : Int) < (N : Int) := by omega
      have j0 : (0 : Int) ≤ (j : Int) := by omega
      have j1 : (j : Int) < (N : Int) := by omega
      have k0 : (0 : Int) ≤ (k : Int) := by omega
      have k1 : (k : Int) < (m : Int) := by omega
      clear hx hkk hcc hci hcj hf ho hys n0 n2
      by_cases hcc : ci = cj
      · have e1 : ((ci : Int) == (cj : Int)) = true := by simp [hcc]
        have HTk : Hid (((L.take (k + 1)).filter fun x => !outE2 (cno sm) x) = ys ++ [⟨(i : Int), (j : Int), xl⟩]) := Lib.hid (by rw [HTk.out, HOut.out]; simp [hcc])
        clear hcc
        go_wp2
        go_quiet (fail)
        refine q_hold (fun W => Fx No wr W) ((Fx.refl No wr).drewN _) ?_
        rintro w9 hf9
        have p0 := hf9.cell' p0 (fun q => q)
        have p1 := hf9.cell' p1 (fun q => q)
        have p2 := hf9.cell' p2 (fun q => q)
        have r1 := hf9.cell' r1 (fun q => q)
        have HF9 := Lib.hid (HF.out.trans hf9)
        have HO9 := Lib.hid (HO.out.no hf9)
        have hz9 := hf9.size
        clear hf9 c0 c1
        go_wp2_with (at_builtin; refine wpList_append_kept rfl _ _ 26 rfl w2.heap.size 64 Tryz.underlying26 hi hz hs hb rfl (by decide) rfl (World.ownsRow.alloc HO9.out _) rfl (SlV.lit _ 64 #[.int .i64 (i : Int), .int .i64 (j : Int), .int .i64 xl] 3 1 rfl (by unfold maxLen; omega)) (ints_one [(i : Int), (j : Int), xl]) (by omega) (by unfold maxLen; omega) (by omega) (by simp; omega) ?_)
        intro v6 w6 ho6 hf6 hk6 hb6
        have HN6 : Hid (Fx No w2 w6 ∧ OwnR w6 w2.heap.size v6 ((L.take (k + 1)).filter fun x => !outE2 (cno sm) x)) := Lib.hid ⟨((HF9.out.trans ((Fx.refl No _).alloc _)).trans' hf6 fun j e hl => by have := (OwnT.lt HO9.out e).1; omega), by rw [HTk.out]; exact OwnT.snoc ho6⟩
        clear ho6 hf6 hk6 hb6
        go_wp2
        go_roundw
        case rel => exact ⟨k + 1, by go_num, by omega, HN6.out.1, HN6.out.2⟩
        case measure => simp [intOf]; omega
      · have e1 : ((ci : Int) == (cj : Int)) = false := by simp; omega
        have HTk : Hid (((L.take (k + 1)).filter fun x => !outE2 (cno sm) x) = ys) := Lib.hid (by rw [HTk.out, HOut.out]; simp [hcc])
        clear hcc
        go_wp2
        go_quiet (fail)
        refine q_hold (fun W => Fx No wr W) ((Fx.refl No wr).drewN _) ?_
        rintro w9 hf9
        have HF9 := Lib.hid (HF.out.trans hf9)
        have HO9 := Lib.hid (HO.out.no hf9)
        clear hf9 c0 c1 p0 p1 p2 r1
        go_wp2
        go_roundw
        case rel => exact ⟨k + 1, by go_num, by omega, HF9.out, by rw [HTk.out]; exact HO9.out⟩
        case measure => simp [intOf]; omega
    · obtain rfl : k = m := by omega
      have hte : L.take k = L := List.take_of_length_le (by rw [HM.out]; exact Nat.le_refl _)
      have z0 := HF0.out.size
      have HZ : Hid (OwnR wr w.heap.size (.slice oo ys.length oc) (L.filter fun x => !outE2 (cno sm) x)) := Lib.hid (by
        have := HO.out.base z0
        have e : ys = L.filter fun x => !outE2 (cno sm) x := by rw [HYs.out, hte]
        rw [← e]; exact this)
      clear hte hf ho hys HR1
      go_wp2
      go_ret
      exact ⟨_, rfl, HF0.out.trans HF.out, HZ.out⟩
end
#print axioms refClosed_any
#print axioms refWithin_any
end Go.Proofs.YtdoplaijgocboaaGreat

namespace Go.Proofs.YtdoplaijgocboaaGreat
open Go.RowKit
set_option linter.unusedVariables false

section
variable {w w' : World} {D E S : Nat → Prop} {L : List Ed} {v u : Value} {xs : List Int} {sm : Nat → Nat → Bool}
set_option maxRecDepth 100000 in
set_option maxHeartbeats 4000000 in
theorem refJoined_any (h : EdsV w D v L) {N : Nat} (hN : N ≤ 1000) (hL : NdL L N) (hq : Eqv sm N) (hsm : ∀ i j, i < N → j < N → (sm i j = true ↔ Sm (EG L) i j)) (hx : IntsV w E u xs) :
    Calls Tryz.prog 25 #[.agg #[.int .i64 (N : Nat), v], u] w fun e w' => e = .returned (.bool (!xs.any (jBad N (cno sm) (gi xs 0)))) ∧ Fx No w w' := by
  have HR := Lib.hid (refOf_any (h.no ((Fx.refl No w).alloc (.cells #[.int .i64 (N : Nat), v] 28))) hN hL hq hsm)
  have HX := Lib.hid hx
  obtain ⟨ao, cap, rfl, _⟩ := EdsV.facts h
  obtain ⟨xo, xc, rfl, hxl, _⟩ := IntsV.facts hx
  clear h hL hq hsm hx
  obtain ⟨m, hm⟩ : ∃ m, m = xs.length := ⟨_, rfl⟩
  rw [← hm] at hxl HX ⊢
  have HM := Lib.hid hm
  obtain ⟨z0, hz0⟩ : ∃ z, z = gi xs 0 := ⟨_, rfl⟩
  rw [← hz0]
  have HZ0 := Lib.hid hz0
  obtain ⟨t, ht⟩ : ∃ t, t = xs.any (jBad N (cno sm) z0) := ⟨_, rfl⟩
  rw [← ht]
  have HT := Lib.hid ht
  clear hm hz0 ht
  go_enter Tryz.func25, Tryz.ntmps25
  go_wp2_with fail
  refine HR.out.mono ?_
  rintro e w2 ⟨v2, rfl, hf2, ho2⟩
  obtain ⟨ao2, cap2, rfl, _⟩ := SlV.ofOwns ho2
  have hf0 : Fx No w w2 := ((Fx.refl No w).alloc _).trans hf2
  obtain ⟨rb, hrb⟩ : ∃ x, x = w.heap.size := ⟨_, rfl⟩
  have r0 : w2.cell? ⟨rb, 0, none⟩ = some (.int .i64 (N : Nat)) := by rw [hrb]; exact hf2.cell' (by simp) (fun q => q)
  rw [← hrb]
  have HR0 := Lib.hid r0
  have HF0 := Lib.hid hf0
  have HO2 : Hid (IntsV w2 (fun _ => True) (.slice ao2 N cap2) (cnoL sm N)) := Lib.hid (by have := (SlV.ofOwns ho2).mono (T := fun _ => True) fun k hk => trivial; unfold IntsV; rw [cnoL_len]; exact this)
  have HX2 : Hid (IntsV w2 E (.slice xo m xc) xs) := Lib.hid (HX.out.no hf0)
  clear hf2 HR hf0 hrb r0 ho2 HX
  go_wp2
  go_loopw [6] (fun i ws => ∃ k : Nat, i = .int .i64 k ∧ k ≤ m ∧ Fx No w2 ws ∧ ∀ q, q < k → jBad N (cno sm) z0 (gi xs q) = false) (fun i _ => m - (intOf i).toNat)
  case atStart => exact ⟨0, rfl, by omega, Fx.refl _ _, fun q hq => by omega⟩
  case round =>
    obtain ⟨k, rfl, hk, hf, hqq⟩ := hrel
    have HF := Lib.hid hf
    have HQ := Lib.hid hqq
    have r0 := hf.cell' HR0.out (fun q => q)
    clear hqq
    by_cases hkm : k < m
    · have hkx : k < xs.length := by rw [← HM.out]; exact hkm
      obtain ⟨_, _, e0, _, hkk⟩ := IntsV.facts (IntsV.no HX2.out hf)
      obtain ⟨b3, o3, e1, _, p0⟩ := hkk k hkx
      simp only [Value.slice.injEq] at e0
      obtain ⟨rfl, -, -⟩ := e0
      subst e1
      obtain ⟨b4, o4, e2, _, p1⟩ := hkk 0 (by omega)
      simp only [Option.some.injEq, Addr.mk.injEq] at e2
      obtain ⟨rfl, rfl, -⟩ := e2
      rw [Nat.add_zero, ← HZ0.out] at p1
      obtain ⟨z, hz⟩ : ∃ z, z = gi xs k := ⟨_, rfl⟩
      rw [← hz] at p0
      have HZ := Lib.hid hz
      have k0 : (0 : Int) ≤ (k : Int) := by omega
      have k1 : (k : Int) < (m : Int) := by omega
      have HBad : Hid (jBad N (cno sm) z0 z = true → t = true) := Lib.hid fun h => by rw [HT.out, List.any_eq_true]; exact ⟨z, by rw [hz]; exact gi_mem hkx, h⟩
      clear hkk
      by_cases hneg : z < 0
      · have d0 : decide (z < 0) = true := decide_eq_true hneg
        obtain rfl : t = true := HBad.out (by unfold jBad; rw [decide_eq_false (by omega)]; rfl)
        clear hf hz hneg
        go_wp2
        go_quiet (fail)
        refine q_hold (fun W => Fx No wr W) ((Fx.refl No wr).drewN _) ?_
        rintro w9 hf9
        have HF9 := Lib.hid (HF0.out.trans (HF.out.trans hf9))
        clear hf9 p0 p1 r0
        go_wp2
        go_ret
        exact ⟨rfl, HF9.out⟩
      · by_cases hbig : (N : Int) ≤ z
        · have d0 : decide (z < 0) = false := decide_eq_false hneg
          have d1 : decide ((N : Int) ≤ z) = true := decide_eq_true hbig
          obtain rfl : t = true := HBad.out (by unfold jBad; rw [decide_eq_false (by omega)]; rfl)
          clear hf hz hneg hbig
          go_wp2
          go_quiet (fail)
          refine q_hold (fun W => Fx No wr W) ((Fx.refl No wr).drewN _) ?_
          rintro w9 hf9
          have HF9 := Lib.hid (HF0.out.trans (HF.out.trans hf9))
          clear hf9 p0 p1 r0
          go_wp2
          go_ret
          exact ⟨rfl, HF9.out⟩
        · have h00 : 0 ≤ z0 ∧ z0 < (N : Int) := by
            by_cases e : k = 0
            · have : z = z0 := by rw [hz, e, HZ0.out]
              omega
            · have := HQ.out 0 (by omega)
              rw [← HZ0.out] at this
              unfold jBad at this
              simp only [Bool.or_eq_false_iff, Bool.not_eq_false', decide_eq_true_eq] at this
              exact this.1
          obtain ⟨p, rfl⟩ := Int.eq_ofNat_of_zero_le (show 0 ≤ z by omega)
          obtain ⟨q, rfl⟩ := Int.eq_ofNat_of_zero_le h00.1
          have hp : p < N := by omega
          have hq : q < N := by omega
          have d0 : decide ((p : Int) < 0) = false := decide_eq_false (by omega)
          have d1 : decide (N ≤ p) = false := decide_eq_false (by omega)
          obtain ⟨_, _, e0, _, hcc⟩ := IntsV.facts (IntsV.no HO2.out hf)
          rw [cnoL_len] at e0 hcc
          obtain ⟨b4, o4, e1, _, c0⟩ := hcc p hp
          obtain ⟨b5, o5, e2, _, c1⟩ := hcc q hq
          rw [cnoL_at hp] at c0
          rw [cnoL_at hq] at c1
          simp only [Value.slice.injEq] at e0
          obtain ⟨rfl, -, -⟩ := e0
          subst e1
          simp only [Option.some.injEq, Addr.mk.injEq] at e2
          obtain ⟨rfl, rfl, -⟩ := e2
          have HJ : Hid (jBad N (cno sm) (q : Int) (p : Int) = decide (cno sm p ≠ cno sm q)) := Lib.hid (by
            unfold jBad
            rw [decide_eq_true (show 0 ≤ (p : Int) ∧ (p : Int) < (N : Int) by omega), Int.toNat_natCast, Int.toNat_natCast]; rfl)
          obtain ⟨ci, hci⟩ : ∃ x, x = cno sm p := ⟨_, rfl⟩
          obtain ⟨cj, hcj⟩ : ∃ x, x = cno sm q := ⟨_, rfl⟩
          have HJ : Hid (jBad N (cno sm) (q : Int) (p : Int) = decide (ci ≠ cj)) := Lib.hid (by rw [HJ.out, hci, hcj])
          rw [← hci] at c0
          rw [← hcj] at c1
          have i0 : (0 : Int) ≤ (p : Int) := by omega
          have i1 : (p : Int) < (N : Int) := by omega
          have j0 : (0 : Int) ≤ (q : Int) := by omega
          have j1 : (q : Int) < (N : Int) := by omega
          have m0 : (0 : Int) < (m : Int) := by omega
          clear hcc hci hcj hf hz hneg hbig h00
          by_cases hcc : ci = cj
          · have e1 : ((ci : Int) != (cj : Int)) = false := by simp [hcc]
            have HJ : Hid (jBad N (cno sm) (q : Int) (p : Int) = false) := Lib.hid (by rw [HJ.out]; simp [hcc])
            clear hcc
            go_wp2
            go_quiet (fail)
            refine q_hold (fun W => Fx No wr W) ((Fx.refl No wr).drewN _) ?_
            rintro w9 hf9
            have HF9 := Lib.hid (HF.out.trans hf9)
            clear hf9 p0 p1 r0 c0 c1
            go_wp2
            go_roundw
            case rel => exact ⟨k + 1, by go_num, by omega, HF9.out, fun s hs => by
              by_cases e : s = k
              · rw [e, ← HZ.out]; exact HJ.out
              · exact HQ.out s (by omega)⟩
            case measure => simp [intOf]; omega
          · have e1 : ((ci : Int) != (cj : Int)) = true := by simp; omega
            obtain rfl : t = true := HBad.out (by rw [HJ.out]; simp [hcc])
            clear hcc
            go_wp2
            go_quiet (fail)
            refine q_hold (fun W => Fx No wr W) ((Fx.refl No wr).drewN _) ?_
            rintro w9 hf9
            have HF9 := Lib.hid (HF0.out.trans (HF.out.trans hf9))
            clear hf9 p0 p1 r0 c0 c1
            go_wp2
            go_ret
            exact ⟨rfl, HF9.out⟩
    · obtain rfl : k = m := by omega
      obtain rfl : t = false := by
        rw [HT.out, List.any_eq_false]
        intro z hz
        obtain ⟨j, hj, e⟩ := List.getElem_of_mem hz
        have := HQ.out j (by rw [HM.out]; exact hj)
        have e2 : gi xs j = z := by simp [gi, hj, e]
        rw [e2] at this
        rw [this]; simp
      have HF9 := Lib.hid (HF0.out.trans hf)
      clear hf
      go_wp2
      go_ret
      exact ⟨rfl, HF9.out⟩
end
#print axioms refJoined_any
end Go.Proofs.YtdoplaijgocboaaGreat

namespace Go.Proofs.YtdoplaijgocboaaGreat
open Go.RowKit
set_option linter.unusedVariables false

/-- the reference's graph under way -/
structure ShX (w3 ws : World) (base ob qb K : Nat) (va : Value) (Ea : Nat → Prop) (M : List Ed) : Prop where
  fx : Fx No w3 ws
  o0 : ws.cell? ⟨ob, 0, none⟩ = some (.int .i64 (K : Nat)) ∧ ws.frozen? ⟨ob, 0, none⟩ = false
  o1 : ws.cell? ⟨ob, 1, none⟩ = some va ∧ ws.frozen? ⟨ob, 1, none⟩ = false
  ed : EdsV ws Ea va M
  ea : ∀ j, Ea j → base ≤ j ∧ j ≠ ob ∧ j ≠ qb
  lo : base ≤ ob ∧ ob ≠ qb
theorem ShX.no {w3 ws w' : World} {base ob qb K : Nat} {va : Value} {Ea : Nat → Prop} {M : List Ed} (h : ShX w3 ws base ob qb K va Ea M) (hf : Fx No ws w') : ShX w3 w' base ob qb K va Ea M :=
  ⟨h.fx.trans hf, hf.cellF h.o0.1 h.o0.2 (fun q => q), hf.cellF h.o1.1 h.o1.2 (fun q => q), RowV.no h.ed hf, h.ea, h.lo⟩
section
variable {w w' : World} {D S : Nat → Prop} {L : List Ed} {v : Value} {sm : Nat → Nat → Bool}
set_option maxRecDepth 100000 in
set_option maxHeartbeats 4000000 in
theorem refShrink_any (h : EdsV w D v L) {N : Nat} (hN : N ≤ 1000) (hL : NdL L N) (hLs : L.length ≤ 100000) (hq : Eqv sm N) (hsm : ∀ i j, i < N → j < N → (sm i j = true ↔ Sm (EG L) i j)) :
    Calls Tryz.prog 11 #[.agg #[.int .i64 (N : Nat), v]] w fun e w' => ∃ v', e = .returned (.agg #[.int .i64 ((canon sm N).length : Nat), v']) ∧ Fx No w w' ∧ EdsV w' (fun k => w.heap.size ≤ k ∧ k < w'.heap.size) v' (shrM (cno sm) L) := by
  have HL := Lib.hid hL
  have HE := Lib.hid hq
  have HSm := Lib.hid hsm
  have HV := Lib.hid h
  have HP : Hid (∀ W, Fx No w W → Calls Tryz.prog 7 #[.agg #[.int .i64 (N : Nat), v]] W fun e w' => ∃ ao cap, e = .returned (.slice ao (canon sm N).length cap) ∧ Fx No W w') := Lib.hid fun W hW => (refParts_any (h.no hW) hN hL hq hsm).mono fun e w' ⟨v', V, he, hf, ho⟩ => by
    obtain ⟨ao, cap, rfl, _⟩ := SlV.ofOwns ho.own
    rw [List.length_map] at he
    exact ⟨ao, cap, he, hf⟩
  have HO : Hid (∀ W, Fx No w W → Calls Tryz.prog 8 #[.agg #[.int .i64 (N : Nat), v]] W fun e w' => ∃ v', e = .returned v' ∧ Fx No W w' ∧ IntsV w' (fun _ => True) v' (cnoL sm N)) := Lib.hid fun W hW => (refOf_any (h.no hW) hN hL hq hsm).mono fun e w' ⟨v', he, hf, ho⟩ => ⟨v', he, hf, by have := (SlV.ofOwns ho).mono (T := fun _ => True) fun k hk => trivial; unfold IntsV; rw [cnoL_len]; exact this⟩
  have hcl : (canon sm N).length ≤ N := by simp only [canon, List.length_map]; exact reps_len N
  have HKl : Hid (∀ i, i < N → cno sm i < (canon sm N).length) := Lib.hid fun i hi => by rw [show (canon sm N).length = (reps sm N).length by simp [canon]]; exact cno_lt hq hi
  obtain ⟨ao, cap, rfl, _⟩ := EdsV.facts h
  clear h hL hq hsm
  obtain ⟨K, hK⟩ : ∃ K, K = (canon sm N).length := ⟨_, rfl⟩
  rw [← hK] at hcl HP HKl ⊢
  clear hK
  obtain ⟨m, hm⟩ : ∃ m, m = L.length := ⟨_, rfl⟩
  rw [← hm] at hLs
  have HM := Lib.hid hm
  go_enter Tryz.func11, Tryz.ntmps11
  go_wp2_with fail
  refine calls_hold (fun W => Fx No w W ∧ W.heap.size = w.heap.size + 1 + 1 ∧ W.cell? ⟨w.heap.size, 0, none⟩ = some (.int .i64 (N : Nat)) ∧ W.cell? ⟨w.heap.size, 1, none⟩ = some (.slice ao m cap) ∧ (W.cell? ⟨w.heap.size + 1, 0, none⟩ = some (.int .i64 0) ∧ W.frozen? ⟨w.heap.size + 1, 0, none⟩ = false) ∧ (W.cell? ⟨w.heap.size + 1, 1, none⟩ = some (.slice none 0 0) ∧ W.frozen? ⟨w.heap.size + 1, 1, none⟩ = false)) ⟨((Fx.refl No w).alloc _).alloc _, by simp, by simp, by rw [hm]; simp, ⟨by simp, by simp⟩, by simp, by simp⟩ ?_
  rintro w1 ⟨hf1, hz1, r0, r1, q0, q1⟩
  obtain ⟨rb, hrb⟩ : ∃ x, x = w.heap.size := ⟨_, rfl⟩
  rw [← hm]
  rw [← hrb] at hz1 r0 r1 q0 q1 ⊢
  obtain ⟨qb, hqb⟩ : ∃ x, x = rb + 1 := ⟨_, rfl⟩
  rw [← hqb] at hz1 q0 q1 ⊢
  have HHo := HO.out w1 hf1
  rw [← hm] at HHo
  refine HHo.mono ?_
  rintro e w2 ⟨v2, rfl, hf2, hi2⟩
  obtain ⟨ao2, cap2, hv2, _⟩ := IntsV.facts hi2
  rw [cnoL_len] at hv2
  subst hv2
  have HI2 := Lib.hid hi2
  have HF2 := Lib.hid (hf1.trans hf2)
  have HHp := HP.out w2 (hf1.trans hf2)
  rw [← hm] at HHp
  have HHp := Lib.hid HHp
  have HQ2 := Lib.hid (And.intro (hf2.cellF q0.1 q0.2 (fun q => q)) (hf2.cellF q1.1 q1.2 (fun q => q)))
  have r0 := hf2.cell' r0 (fun q => q)
  have r1 := hf2.cell' r1 (fun q => q)
  have HQb : Hid (w.heap.size ≤ qb ∧ qb < w2.heap.size) := Lib.hid (by have := hf2.size; omega)
  clear hf1 hf2 HHo hi2 HP HO q0 q1 hz1 hrb hqb hm
  go_wp2_with fail
  refine HHp.out.mono ?_
  rintro e w3 ⟨a3, c3, rfl, hf3⟩
  have HI3 := Lib.hid (HI2.out.no hf3)
  have HF3 := Lib.hid (HF2.out.trans hf3)
  have HQ3 := Lib.hid (And.intro (hf3.cellF HQ2.out.1.1 HQ2.out.1.2 (fun q => q)) (hf3.cellF HQ2.out.2.1 HQ2.out.2.2 (fun q => q)))
  have r0 := hf3.cell' r0 (fun q => q)
  have r1 := hf3.cell' r1 (fun q => q)
  have HR1 := Lib.hid r1
  have HQb : Hid (w.heap.size ≤ qb ∧ qb < w3.heap.size) := Lib.hid (by have := HQb.out; have := hf3.size; omega)
  have HZ3 : Hid (w.heap.size ≤ w3.heap.size) := Lib.hid HF3.out.size
  clear hf3 HI2 HF2 HQ2 HHp r0
  go_upto_region 4 with fail
  refine wp_hold (fun W => ShX w3 W w.heap.size w3.heap.size qb K (.slice none 0 0) (fun _ => False) []) ⟨(Fx.refl No w3).alloc _, ⟨by simp, by simp⟩, ⟨by simp, by simp⟩, RowV.nil _ _, fun j hj => hj.elim, HZ3.out, by have := HQb.out; omega⟩ ?_
  obtain ⟨ob, hob⟩ : ∃ x, x = w3.heap.size := ⟨_, rfl⟩
  rw [← hob]
  rintro w4 hs4
  have HS4 := Lib.hid hs4
  have HOb : Hid (w3.heap.size ≤ ob) := Lib.hid (by omega)
  clear hs4 hob r1
  go_loopw [5] (fun i ws => ∃ (q : Nat) (va : Value) (Ea : Nat → Prop), i = .int .i64 q ∧ q ≤ m ∧ ShX w3 ws w.heap.size ob qb K va Ea (addL [] (shrL (cno sm) (L.take q)))) (fun i _ => m - (intOf i).toNat)
  case atStart => exact ⟨0, _, _, rfl, by omega, HS4.out⟩
  case round =>
    obtain ⟨q, va, Ea, rfl, hq, hs⟩ := hrel
    have HS := Lib.hid hs
    have r1 := hs.fx.cell' HR1.out (fun q => q)
    by_cases hqm : q < m
    · have hqL : q < L.length := by rw [← HM.out]; exact hqm
      obtain ⟨_, _, e0, _, _, hkk⟩ := EdsV.facts (RowV.no HV.out (HF3.out.trans hs.fx))
      obtain ⟨b3, o3, e1, _, p0, p1, p2⟩ := hkk q hqL
      simp only [Value.slice.injEq] at e0
      obtain ⟨rfl, -, -⟩ := e0
      subst e1
      obtain ⟨x, hx⟩ : ∃ x, x = gt L q := ⟨_, rfl⟩
      rw [← hx] at p0 p1 p2
      obtain ⟨⟨n0, n1⟩, n2, n3⟩ := HL.out x (by rw [hx]; exact gt_mem hqL)
      have HTk : Hid (L.take (q + 1) = L.take q ++ [x]) := Lib.hid (by rw [hx]; exact take_gt hqL)
      obtain ⟨xf, xt, xl⟩ := x
      simp only at n0 n1 n2 n3 p0 p1 p2
      obtain ⟨i, rfl⟩ := Int.eq_ofNat_of_zero_le n0
      obtain ⟨j, rfl⟩ := Int.eq_ofNat_of_zero_le n2
      have hi' : i < N := by omega
      have hj' : j < N := by omega
      obtain ⟨_, _, e0, _, hcc⟩ := IntsV.facts (IntsV.no HI3.out hs.fx)
      rw [cnoL_len] at e0 hcc
      obtain ⟨b4, o4, e1, _, c0⟩ := hcc i hi'
      obtain ⟨b5, o5, e2, _, c1⟩ := hcc j hj'
      rw [cnoL_at hi'] at c0
      rw [cnoL_at hj'] at c1
      simp only [Value.slice.injEq] at e0
      obtain ⟨rfl, -, -⟩ := e0
      subst e1
      simp only [Option.some.injEq, Addr.mk.injEq] at e2
      obtain ⟨rfl, rfl, -⟩ := e2
      have hci2 := HKl.out i hi'
      have hcj2 := HKl.out j hj'
      have i0 : (0 : Int) ≤ (i : Int) := by omega
      have i1 : (i : Int) < (N : Int) := by omega
      have j0 : (0 : Int) ≤ (j : Int) := by omega
      have j1 : (j : Int) < (N : Int) := by omega
      have k0 : (0 : Int) ≤ (q : Int) := by omega
      have k1 : (q : Int) < (m : Int) := by omega
      obtain ⟨a, ha⟩ : ∃ x, x = cno sm i := ⟨_, rfl⟩
      obtain ⟨d, hd⟩ : ∃ x, x = cno sm j := ⟨_, rfl⟩
      rw [← ha] at c0 hci2
      rw [← hd] at c1 hcj2
      have HA := Lib.hid ha
      have HD := Lib.hid hd
      clear hx hkk hcc ha hd n0 n2 hs p2
      go_wp2
      go_quiet (fail)
      refine q_hold (fun W => Fx No wr W) ((Fx.refl No wr).drewN _) ?_
      rintro w9 hf9
      have r1 := hf9.cell' r1 (fun q => q)
      have HS9 := Lib.hid (HS.out.no hf9)
      clear hf9 p0 p1 c0 c1
      by_cases had : a = d
      · have hne : ((a : Int) != (d : Int)) = false := by rw [had]; simp
        have HOo : Hid (shrL (cno sm) (L.take (q + 1)) = shrL (cno sm) (L.take q)) := Lib.hid (by
          rw [HTk.out, shrL_snoc, if_neg, List.append_nil]
          unfold outE2
          rw [decide_eq_true_eq]
          intro e
          apply e
          show cno sm ((i : Int).toNat) = cno sm ((j : Int).toNat)
          rw [Int.toNat_natCast, Int.toNat_natCast, ← HA.out, ← HD.out, had])
        clear had
        go_wp2
        go_roundw
        case rel => exact ⟨q + 1, va, Ea, by go_num, by omega, by rw [HOo.out]; exact HS9.out⟩
        case measure => simp [intOf]; omega
      · have hne : ((a : Int) != (d : Int)) = true := by simp; omega
        have HOo : Hid (addL [] (shrL (cno sm) (L.take (q + 1))) = addL (addL [] (shrL (cno sm) (L.take q))) [⟨(a : Nat), (d : Nat), 0⟩]) := Lib.hid (by
          have e1 : cno sm ((i : Int).toNat) = a := by rw [Int.toNat_natCast, HA.out]
          have e2 : cno sm ((j : Int).toNat) = d := by rw [Int.toNat_natCast, HD.out]
          have e3 : shrL (cno sm) (L.take (q + 1)) = shrL (cno sm) (L.take q) ++ [⟨(a : Nat), (d : Nat), 0⟩] := by
            rw [HTk.out, shrL_snoc, if_pos]
            · simp only [quoE, e1, e2]
            · unfold outE2
              rw [decide_eq_true_eq]
              show cno sm ((i : Int).toNat) ≠ cno sm ((j : Int).toNat)
              rw [e1, e2]; exact had
          rw [e3]; simp [addL])
        have HLn : Hid ((addL [] (shrL (cno sm) (L.take q))).length + 1 ≤ 1000000) := Lib.hid (by
          have h1 := (addL_len [] (shrL (cno sm) (L.take q))).2
          have h2 := shrL_len (cno sm) (L.take q)
          have h3 : (L.take q).length ≤ q := List.length_take_le _ _
          simp only [List.length_nil] at h1
          omega)
        have HX : Hid (EdsV (w9.alloc (.cells #[.int .i64 (a : Nat), .int .i64 (d : Nat), .int .i64 0] 64)) (Iv w9.heap.size (w9.heap.size + 1)) (.slice (some ⟨w9.heap.size, 0, none⟩) 1 1) [⟨(a : Nat), (d : Nat), 0⟩]) := Lib.hid (EdsV.lit [⟨(a : Nat), (d : Nat), 0⟩] (by simp))
        have o0 := HS9.out.o0
        have o1 := HS9.out.o1.1
        obtain ⟨vo, vc, rfl, _⟩ := EdsV.facts HS9.out.ed
        clear had
        go_wp2_with fail
        refine (refAdd_any (RowV.no HS9.out.ed ((Fx.refl No w9).alloc _)) (addL_asc Asc.nil _) HX.out K (good_mk fun x hx => by rw [List.mem_singleton] at hx; subst hx; exact ⟨⟨by simp only; omega, by simp only; omega⟩, by simp only; omega, by simp only; omega⟩) HLn.out).mono ?_
        rintro e w6 ⟨v6, c6, rfl, _, hf6, he6⟩
        rw [← HOo.out] at he6
        obtain ⟨vo6, vc6, rfl, _⟩ := EdsV.facts he6
        have hs6 := HS9.out.no (((Fx.refl No w9).alloc (.cells #[.int .i64 (a : Nat), .int .i64 (d : Nat), .int .i64 0] 64)).trans hf6)
        have o0 := hs6.o0
        have o1 := hs6.o1
        have hob : ob < w9.heap.size := World.block_lt_of_cell? w9 _ HS9.out.o0.1
        have hz6 := hf6.size
        rw [World.size_alloc] at hz6
        have HN : Hid (ShX w3 ((w6.setCell ⟨ob, 0, none⟩ (.int .i64 (K : Nat))).setCell ⟨ob, 1, none⟩ (.slice vo6 (addL [] (shrL (cno sm) (L.take (q + 1)))).length vc6)) w.heap.size ob qb K (.slice vo6 (addL [] (shrL (cno sm) (L.take (q + 1)))).length vc6) (fun k => (Ea k ∨ w9.heap.size + 1 ≤ k) ∧ k < w6.heap.size) (addL [] (shrL (cno sm) (L.take (q + 1))))) := Lib.hid (by
          obtain ⟨g1, g2, g3, g4⟩ := put_two w6 (qb := ob) (.int .i64 (K : Nat)) (.slice vo6 (addL [] (shrL (cno sm) (L.take (q + 1)))).length vc6) o0.1 o1.1
          have hea : ∀ j, ((Ea j ∨ w9.heap.size + 1 ≤ j) ∧ j < w6.heap.size) → w.heap.size ≤ j ∧ j ≠ ob ∧ j ≠ qb := fun j hj => by
            rcases hj.1 with h1 | h1
            · exact HS9.out.ea j h1
            · have h2 := HS9.out.lo.1
              have h3 := HQb.out
              have h4 := HS9.out.fx.size
              exact ⟨by omega, by omega, by omega⟩
          refine ⟨hs6.fx.trans' g3 fun j e hl => ?_, ⟨g1, by simpa using o0.2⟩, ⟨g2, by simpa using o1.2⟩, RowV.keep (RowV.mono he6 fun k hk => by rw [World.size_alloc] at hk; exact hk) g3 (fun j hj e => (hea j hj).2.1 e), hea, HS9.out.lo⟩
          have e : j = ob := e
          have := HOb.out; omega)
        clear hf6 he6 hs6 HX
        go_wp2
        go_roundw
        case rel => exact ⟨q + 1, _, _, by go_num, by omega, HN.out⟩
        case measure => simp [intOf]; omega
    · obtain rfl : q = m := by omega
      have hte : L.take q = L := List.take_of_length_le (by rw [HM.out]; exact Nat.le_refl _)
      rw [hte] at hs
      have HS := Lib.hid hs
      have o0 := hs.o0.1
      have o1 := hs.o1.1
      have HQr := Lib.hid (And.intro (hs.fx.cellF HQ3.out.1.1 HQ3.out.1.2 (fun q => q)) (hs.fx.cellF HQ3.out.2.1 HQ3.out.2.2 (fun q => q)))
      have q0 := HQr.out.1
      have q1 := HQr.out.2
      obtain ⟨vo, vc, rfl, _⟩ := EdsV.facts hs.ed
      clear hte hs
      have HG : Hid (_ ∧ _ ∧ _ ∧ _) := Lib.hid (put_two wr (qb := qb) (.int .i64 (K : Nat)) (.slice vo (addL [] (shrL (cno sm) L)).length vc) q0.1 q1.1)
      have z3 := HS.out.fx.size
      go_wp2
      refine bodyPost_ret (v := .agg #[.int .i64 (K : Nat), .slice vo (addL [] (shrL (cno sm) L)).length vc]) (by have g1 := HG.out.1; have g2 := HG.out.2.1; simp [results, Tryz.results11, go_sem, g1, g2]) rfl ⟨_, rfl, ?_, ?_⟩
      · refine (HF3.out.trans HS.out.fx).trans' HG.out.2.2.1 fun j e hl => ?_
        have e : j = qb := e
        have := HQb.out; omega
      · have h1 := RowV.keep (RowV.bound HS.out.ed) HG.out.2.2.1 (fun j hj e => (HS.out.ea j hj.1).2.2 e)
        refine RowV.mono h1 fun j hj => ⟨(HS.out.ea j hj.1).1, ?_⟩
        rw [HG.out.2.2.2]; exact hj.2
end
#print axioms refShrink_any
end Go.Proofs.YtdoplaijgocboaaGreat

namespace Go.Proofs.YtdoplaijgocboaaGreat
open Go.RowKit
set_option linter.unusedVariables false

theorem Up1.of {l fs : List Int} (ha : l.Pairwise fun x y => x < y) (hm : ∀ x, x ∈ l ↔ x ∈ fs) : Up1 l fs := by
  refine ⟨ha, hm, fun x hx y hy => ?_⟩
  have hy' := (hm y).2 hy
  obtain ⟨i, hi, e⟩ := List.getElem_of_mem hy'
  rw [List.getLast?_eq_getElem?] at hx
  obtain ⟨hl, hx2⟩ := List.getElem?_eq_some_iff.1 hx
  rcases Nat.lt_or_ge i (l.length - 1) with h | h
  · have := List.pairwise_iff_getElem.1 ha i (l.length - 1) hi hl h
    omega
  · have e2 : i = l.length - 1 := by omega
    subst e2
    omega
theorem up1_ex {fs : List Int} {N : Nat} (h : ∀ x ∈ fs, 0 ≤ x ∧ x < (N : Int)) : ∃ l, Up1 l fs ∧ l.length ≤ N := by
  refine ⟨natsI ((List.range N).filter fun k => fs.contains (k : Int)), Up1.of ?_ fun x => ?_, ?_⟩
  · unfold natsI
    rw [List.pairwise_map]
    exact ((List.pairwise_lt_range (n := N)).filter _).imp fun {a b} q => by omega
  · unfold natsI
    rw [List.mem_map]
    constructor
    · rintro ⟨k, hk, rfl⟩
      have := (List.mem_filter.1 hk).2
      simpa using this
    · intro hx
      obtain ⟨h1, h2⟩ := h x hx
      refine ⟨x.toNat, List.mem_filter.2 ⟨List.mem_range.2 (by omega), ?_⟩, by omega⟩
      have e : ((x.toNat : Nat) : Int) = x := by omega
      rw [e]; simpa using hx
  · rw [natsI_len]
    have := List.length_filter_le (fun k : Nat => fs.contains (k : Int)) (List.range N)
    simpa using this
theorem RowsO.rowsR {w : World} {lo : Nat} {ov : Value} {P : List (List Int)} {V : Nat → Value} (h : RowsO w lo ov P V) : RowsR w (Iv lo w.heap.size) ov P V := by
  obtain ⟨B, hB⟩ := h.rowsW
  exact hB.toRowsR
/-- what SccTells keeps -/
structure TS (w0 ws : World) (B0 rb gb N : Nat) (L : List Ed) (ro : Option Addr) (rc : Nat) (D R : Nat → Prop) (pv ov cv wv : Value) (sb : Nat) (sv : Value) (P : List (List Int)) (O C : List Int) (Wn M : List Ed) (K : Nat) : Prop where
  gs : GS w0 ws rb gb N L ro rc D R
  p : ∃ V, RowsR ws (fun k => k < B0) pv P V
  o : IntsV ws (fun k => k < B0) ov O
  c : IntsV ws (fun k => k < B0) cv C
  wn : EdsV ws (fun k => k < B0) wv Wn
  s0 : ws.cell? ⟨sb, 0, none⟩ = some (.int .i64 (K : Nat))
  s1 : ws.cell? ⟨sb, 1, none⟩ = some sv
  m : EdsV ws (fun k => k < B0) sv M
theorem TS.no {w0 ws w' : World} {B0 rb gb N : Nat} {L : List Ed} {ro : Option Addr} {rc : Nat} {D R : Nat → Prop} {pv ov cv wv : Value} {sb : Nat} {sv : Value} {P : List (List Int)} {O C : List Int} {Wn M : List Ed} {K : Nat}
    (h : TS w0 ws B0 rb gb N L ro rc D R pv ov cv wv sb sv P O C Wn M K) (hf : Fx No ws w') : TS w0 w' B0 rb gb N L ro rc D R pv ov cv wv sb sv P O C Wn M K :=
  ⟨h.gs.no hf, by obtain ⟨V, hV⟩ := h.p; exact ⟨V, hV.keep hf No.disj⟩, h.o.no hf, h.c.no hf, RowV.no h.wn hf, hf.cell' h.s0 (fun q => q), hf.cell' h.s1 (fun q => q), RowV.no h.m hf⟩
/-- two rows written out: they may be written -/
theorem RowsW.lit2 {w : World} {D : Nat → Prop} {a b : List Int} {va vb : Value} {ga gb : Nat} {t : TypeId} (ha : IntsV w D va a) (hb : IntsV w D vb b) (pa : 0 < a.length → ∃ c, va = .slice (some ⟨ga, 0, none⟩) a.length c) (pb : 0 < b.length → ∃ c, vb = .slice (some ⟨gb, 0, none⟩) b.length c)
    (ca : 0 < a.length → CellsI w ga 0 a) (cb : 0 < b.length → CellsI w gb 0 b) (hne : 0 < a.length → 0 < b.length → ga ≠ gb) :
    RowsW (w.alloc (.cells #[va, vb] t)) (fun k => D k ∨ k = w.heap.size) (.slice (some ⟨w.heap.size, 0, none⟩) 2 2) [a, b] (fun i => if i = 0 then ga else gb) (fun i => [va, vb].getD i undef) := by
  have h1 := RowsR.lit (w := w) (E := D) (R := [a, b]) (fun i => [va, vb].getD i undef) t (fun i hi => by
    match i, hi with
    | 0, _ => exact ha
    | 1, _ => exact hb
    | n + 2, h => simp at h; omega) (by simp)
  have hf : Fx No w (w.alloc (.cells #[va, vb] t)) := (Fx.refl No w).alloc _
  refine ⟨h1, fun i hi h0 => ?_, fun i hi h0 => ?_, fun i j hi hj hne2 h0 h1 => ?_⟩
  · match i, hi with
    | 0, _ => exact pa h0
    | 1, _ => exact pb h0
    | n + 2, h => simp at h; omega
  · match i, hi with
    | 0, _ => exact fun k hk => hf.cellF (ca h0 k hk).1 (ca h0 k hk).2 (fun q => q)
    | 1, _ => exact fun k hk => hf.cellF (cb h0 k hk).1 (cb h0 k hk).2 (fun q => q)
    | n + 2, h => simp at h; omega
  · match i, j, hi, hj with
    | 0, 0, _, _ => exact absurd rfl hne2
    | 0, 1, _, _ => exact hne h0 h1
    | 1, 0, _, _ => exact fun e => hne h1 h0 e.symm
    | 1, 1, _, _ => exact absurd rfl hne2
    | n + 2, _, h, _ => simp at h; omega
    | _, n + 2, _, h => simp at h; omega
theorem RowsR.lit2 {w : World} {D : Nat → Prop} {a b : List Int} {va vb : Value} {t : TypeId} (ha : IntsV w D va a) (hb : IntsV w D vb b) :
    RowsR (w.alloc (.cells #[va, vb] t)) (fun k => D k ∨ k = w.heap.size) (.slice (some ⟨w.heap.size, 0, none⟩) 2 2) [a, b] (fun i => [va, vb].getD i undef) :=
  RowsR.lit (w := w) (E := D) (R := [a, b]) (fun i => [va, vb].getD i undef) t (fun i hi => by
    match i, hi with
    | 0, _ => exact ha
    | 1, _ => exact hb
    | n + 2, h => simp at h; omega) (by simp)
/-- a row of the call's own, as one that may be written -/
theorem own_pl {w : World} {base : Nat} {v : Value} {l : List Int} (h : w.ownsRow base 3 1 v l.length (ints l)) : ∃ g, (0 < l.length → base ≤ g ∧ g < w.heap.size) ∧ (0 < l.length → ∃ c, v = .slice (some ⟨g, 0, none⟩) l.length c) ∧ (0 < l.length → CellsI w g 0 l) := by
  rcases Nat.eq_zero_or_pos l.length with h0 | h0
  · exact ⟨0, fun h => by omega, fun h => by omega, fun h => by omega⟩
  · obtain ⟨g, cap, e, g1, g2⟩ := ownsRow_pos h h0
    subst e
    refine ⟨g, fun _ => ⟨g1, g2⟩, fun _ => ⟨cap, rfl⟩, fun _ k hk => ?_⟩
    rw [Nat.zero_add]
    refine ⟨?_, World.ownsRow.frozenAt h k⟩
    rw [World.ownsRow.cellAt h k (by omega)]
    simp [ints, gi, hk]
theorem rowsEx_no {w w' : World} {E : Nat → Prop} {v : Value} {P : List (List Int)} (h : ∃ V, RowsR w E v P V) (hf : Fx No w w') : ∃ V, RowsR w' E v P V := by
  obtain ⟨V, q⟩ := h
  exact ⟨V, q.keep hf No.disj⟩
theorem rows_eq {w : World} {D E : Nat → Prop} {v u : Value} {R : List (List Int)} {B : Nat → Nat} {V U : Nat → Value} (h : RowsW w D v R B V) (h' : RowsR w E u R U) (hE : ∀ k, E k → ¬ D k) :
    Calls Tryz.prog 14 #[v, u] w fun e w' => e = .returned (.bool true) ∧ Fx D w w' :=
  (rows_any h h' hE).mono fun e w' ⟨he, hf⟩ => ⟨by rw [he, decide_eq_true rfl], hf⟩
theorem sameEdges_eq {w : World} {D E : Nat → Prop} {v u : Value} {xs : List Ed} (h : EdsV w D v xs) (h' : EdsV w E u xs) : Calls Tryz.prog 18 #[v, u] w fun e w' => e = .returned (.bool true) ∧ Fx No w w' :=
  (sameEdges_any h h').mono fun e w' ⟨he, hf⟩ => ⟨by rw [he, decide_eq_true rfl], hf⟩
theorem refSame_eq {w : World} {D E : Nat → Prop} {v u : Value} {xs : List Ed} (h : EdsV w D v xs) (h' : EdsV w E u xs) (N : Int) : Calls Tryz.prog 20 #[.agg #[.int .i64 N, v], .agg #[.int .i64 N, u]] w fun e w' => e = .returned (.bool true) ∧ Fx No w w' :=
  (refSame_any h h' N N).mono fun e w' ⟨he, hf⟩ => ⟨by rw [he, decide_eq_true ⟨rfl, rfl⟩], hf⟩
#print axioms RowsW.lit2
#print axioms up1_ex
end Go.Proofs.YtdoplaijgocboaaGreat
