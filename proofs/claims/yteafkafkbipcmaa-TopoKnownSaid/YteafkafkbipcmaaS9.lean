/- The law TopoSorts. -/
import Derived.Test.YteafkafkbipcmaaS8
import Derived.Test.YteafkafkbipcmaaM5
import Derived.Deep.DeepCutAuto
import Derived.Deep.CutBlock

namespace Go.Proofs.Yteafkafkbipcmaa
open Go.RowKit
set_option linter.unusedVariables false

/-- one row that the call has made, in a row of rows -/
theorem RowsO.one {w : World} {base : Nat} {p : Value} {l : List Int} (hp : w.ownsRow base 3 1 p l.length (ints l)) (hb : base ≤ w.heap.size) : RowsO (w.alloc (.cells #[p] 32)) base (.slice (some ⟨w.heap.size, 0, none⟩) 1 1) [l] (fun _ => p) := by
  have hf : Fx No w (w.alloc (.cells #[p] 32)) := (Fx.refl No w).alloc _
  refine ⟨?_, fun j hj => ?_, fun j b hj e => ⟨fun e2 => ?_, fun i hi hne => ?_⟩⟩
  · have := World.ownsRow_lit (base := base) (e := 32) (size := 1) w #[p] 1 hb (by unfold maxLen; omega) rfl
    exact this
  · have hj0 : j = 0 := by simp at hj; omega
    subst hj0
    exact ownsRow_fx hp hf fun _ _ q => q
  · have h1 := (World.ownsRow.lt hp b e).2
    have e2 : some w.heap.size = some b := e2
    injection e2 with e3; omega
  · simp at hj hi; omega
/-- one row that is read, in a row of rows -/
theorem RowsR.one {w : World} {E : Nat → Prop} {p : Value} {l : List Int} (h : IntsV w E p l) (t : TypeId) : RowsR (w.alloc (.cells #[p] t)) (fun k => E k ∨ k = w.heap.size) (.slice (some ⟨w.heap.size, 0, none⟩) 1 1) [l] (fun _ => p) :=
  RowsR.lit (w := w) (R := [l]) (fun _ => p) t (fun i hi => by
    have : i = 0 := by simp at hi; omega
    subst this; exact h) (by simp)
section
variable {w w' : World} {E : Nat → Prop} {l : List Ed} {v : Value}
set_option maxRecDepth 100000 in
set_option maxHeartbeats 16000000 in
theorem sorts_any (n : Int) (h : EdsV w E v l) (hok : ∀ x ∈ l, x.ok) : Calls Try.prog 4 #[.int .i64 n, v] w fun e w' => e = .returned (.bool true) ∧ Fx No w w' := by
  have HE := Lib.hid h
  have HOk := Lib.hid hok
  obtain ⟨ao, cap, rfl, hcl, hcm, _⟩ := EdsV.facts h
  clear h hok
  by_cases h1 : 80 < l.length
  · have d1 : decide ((80 : Int) < (l.length : Int)) = true := decide_eq_true (by omega)
    go_enter Try.func4, Try.ntmps4
    go_wp2_with fail
    refine (works_any _).mono ?_
    rintro e w1 ⟨rfl, hf⟩
    have HF := Lib.hid hf
    clear hf
    go_wp2
    go_ret
    exact ⟨rfl, HF.out⟩
  · have d1 : decide ((80 : Int) < (l.length : Int)) = false := decide_eq_false (by omega)
    have hl80 : l.length ≤ 80 := by omega
    clear h1
    go_enter Try.func4, Try.ntmps4
    go_wp2_with fail
    refine (drawn_any HE.out HOk.out (by omega) n 30 (by omega)).mono ?_
    rintro e w1 ⟨gb, N, L, rv, D, R, rfl, hD, hN, hL⟩
    obtain ⟨ro, rc, rfl, _⟩ := EdsV.facts hD.row
    have HD1 := Lib.hid hD
    have hL80 : L.length ≤ 80 := by omega
    clear hD hL
    go_wp2_with fail
    refine calls_hold (fun W => GS w W w1.heap.size gb N L ro rc D R) (GS.start HD1.out) ?_
    rintro w2 hg2
    obtain ⟨rb, hrb⟩ : ∃ q, q = w1.heap.size := ⟨_, rfl⟩
    rw [← hrb] at hg2 ⊢
    have HG2 := Lib.hid hg2
    have HNd : Hid (NdE L N) := Lib.hid hg2.g.nodes
    clear hg2 hrb HD1
    refine (refSort_any HG2.out.row HNd.out (by omega) (by omega)).mono ?_
    rintro e w3 ⟨qv, rfl, hf3, ho3⟩
    have HG3 := Lib.hid (HG2.out.no hf3)
    have HQ3 : Hid (IntsV w3 (Iv w2.heap.size w3.heap.size) qv (nI (sres L N))) := Lib.hid (by unfold IntsV; rw [nI_len]; exact SlV.ofOwns ho3)
    have p0 := HG3.out.r0
    have p1 := HG3.out.r1
    have HZ3 : Hid (w2.heap.size ≤ w3.heap.size) := Lib.hid hf3.size
    obtain ⟨qa, qc, rfl, _⟩ := SlV.ofOwns ho3
    clear hf3 ho3
    go_wp2_with fail
    refine (refRounds_any HG3.out.row HNd.out (by omega) (by omega)).mono ?_
    rintro e w4 ⟨sv, tv, V, rfl, hf4, hr4, ho4⟩
    obtain ⟨RL, hRL⟩ : ∃ RL, RL = (rnds L N).map nI := ⟨_, rfl⟩
    rw [← hRL] at hr4
    have HRL := Lib.hid hRL
    clear hRL
    have HG4 := Lib.hid (HG3.out.no hf4)
    have HQ4 := Lib.hid (HQ3.out.no hf4)
    obtain ⟨B, hrw⟩ := hr4.rowsW
    have HR4 := Lib.hid hrw.toRowsR
    have HT4 : Hid (IntsV w4 (Iv w3.heap.size w4.heap.size) tv (nI (rstL L N))) := Lib.hid (by unfold IntsV; rw [nI_len]; exact SlV.ofOwns ho4)
    have HZ4 : Hid (w3.heap.size ≤ w4.heap.size) := Lib.hid hf4.size
    obtain ⟨ta, tc, rfl, _⟩ := SlV.ofOwns ho4
    obtain ⟨sa, sc, rfl, _⟩ := hrw.toRowsR.facts
    clear hf4 hr4 ho4 hrw HG3 HQ3 p0 p1
    obtain ⟨se, hse⟩ : ∃ se, se = serr L N := ⟨_, rfl⟩
    have HSe := Lib.hid hse
    rw [← hse]
    have hne : (se != se) = false := by simp
    clear hse
    go_wp2
    go_loopw [11] (fun i ws => ∃ k : Nat, i = .int .i64 (k : Nat) ∧ k ≤ 2 ∧ Fx No w4 ws) (fun i _ => 2 - (intOf i).toNat)
    case atStart => exact ⟨0, rfl, by omega, Fx.refl _ _⟩
    case round =>
      obtain ⟨k, rfl, hk, hf⟩ := hrel
      have HF := Lib.hid hf
      have HGr := Lib.hid (HG4.out.no hf)
      have HQr := Lib.hid (HQ4.out.no hf)
      have HRr := Lib.hid (HR4.out.keep hf No.disj)
      have HTr := Lib.hid (HT4.out.no hf)
      have HZr : Hid (w4.heap.size ≤ wr.heap.size) := Lib.hid hf.size
      clear hf
      by_cases hk2 : k < 2
      · have k1 : (k : Int) < 2 := by omega
        go_wp2_with fail
        refine (sort_any HGr.out.g).mono ?_
        rintro e w5 ⟨pv, rfl, hf5, ho5⟩
        rw [← HSe.out]
        have HP5 := Lib.hid ho5
        have HF5 := Lib.hid hf5
        obtain ⟨pa, pc, rfl, _⟩ := SlV.ofOwns ho5
        clear hf5 ho5
        go_wp2_with fail
        have hro := RowsO.one (l := nI (sres L N)) (by rw [nI_len]; exact HP5.out) HF5.out.size
        obtain ⟨B1, hrw1⟩ := hro.rowsW
        have hri := RowsR.one ((HQr.out.no HF5.out).no ((Fx.refl No w5).alloc (.cells #[.slice pa (sres L N).length pc] 32))) 32
        rw [World.size_alloc] at hri hrw1
        refine (rows_any (hrw1.no ((Fx.refl No _).alloc _)) hri (fun k hk hd => by
          have q1 := hd.1
          have q2 := hd.2
          rcases hk with e | e
          · have := e.2; have := HZ4.out; have := HZr.out; omega
          · omega)).mono ?_
        rintro e w6 ⟨rfl, hf6⟩
        have dd : decide ([nI (sres L N)] = [nI (sres L N)]) = true := decide_eq_true rfl
        rw [dd]
        clear dd
        have HF6 : Hid (Fx No wr w6) := Lib.hid ((HF5.out.trans (((Fx.refl No w5).alloc _).alloc _)).trans' hf6 fun j e hl => by have := e.1; omega)
        clear hro hrw1 hri hf6
        go_wp2_with fail
        refine (rounds_any (HGr.out.no HF6.out).g).mono ?_
        rintro e w7 ⟨rv7, V7, rfl, hf7, hr7⟩
        rw [← HRL.out] at hr7
        obtain ⟨B7, hrw7⟩ := hr7.rowsW
        have HF7 := Lib.hid (HF6.out.trans hf7)
        have HR7 := Lib.hid hrw7
        have HZ7 := Lib.hid HF6.out.size
        clear hf7 hr7 hrw7
        go_wp2_with fail
        refine (rows_any HR7.out (HRr.out.keep HF7.out No.disj) (fun k hk hd => by
          have := hk.2; have := hd.1; have := HZ7.out; have := HZr.out; omega)).mono ?_
        rintro e w8 ⟨rfl, hf8⟩
        have dd : decide (RL = RL) = true := decide_eq_true rfl
        rw [dd]
        clear dd
        have HF8 : Hid (Fx No wr w8) := Lib.hid (HF7.out.trans' hf8 fun j e hl => by have := e.1; have := HZ7.out; omega)
        clear hf8 HR7 HF7 HF6
        go_wp2_with fail
        refine (rest_any (HGr.out.no HF8.out).g).mono ?_
        rintro e w9 ⟨tv9, rfl, hf9, ho9⟩
        have HF9 := Lib.hid (HF8.out.trans hf9)
        have HP9 := Lib.hid ho9
        have HZ9 : Hid (w8.heap.size ≤ w9.heap.size) := Lib.hid hf9.size
        have HZ8 : Hid (wr.heap.size ≤ w8.heap.size) := Lib.hid HF8.out.size
        obtain ⟨t9, c9, rfl, _⟩ := SlV.ofOwns ho9
        clear hf9 ho9
        go_wp2_with fail
        have hro := RowsO.one (l := nI (rstL L N)) (by rw [nI_len]; exact HP9.out) HZ9.out
        obtain ⟨B1, hrw1⟩ := hro.rowsW
        have hri := RowsR.one ((HTr.out.no HF9.out).no ((Fx.refl No w9).alloc (.cells #[.slice t9 (rstL L N).length c9] 32))) 32
        rw [World.size_alloc] at hri hrw1
        refine (rows_any (hrw1.no ((Fx.refl No _).alloc _)) hri (fun k hk hd => by
          have q1 := hd.1
          have q2 := hd.2
          rcases hk with e | e
          · have := e.2; have := HZ8.out; have := HZr.out; omega
          · omega)).mono ?_
        rintro e wa ⟨rfl, hfa⟩
        have dd : decide ([nI (rstL L N)] = [nI (rstL L N)]) = true := decide_eq_true rfl
        rw [dd]
        clear dd
        have HFa : Hid (Fx No wr wa) := Lib.hid ((HF9.out.trans (((Fx.refl No w9).alloc _).alloc _)).trans' hfa fun j e hl => by have := e.1; have := HZ8.out; omega)
        clear hro hrw1 hri hfa
        go_wp2
        go_roundw
        case rel => exact ⟨k + 1, by go_num, by omega, HF.out.trans HFa.out⟩
        case measure => simp [intOf]; omega
      · have k1 : ¬ (k : Int) < 2 := by omega
        have r0 : ∀ W, Fx No wr W → W.cell? ⟨rb, 0, none⟩ = some (.int .i64 (N : Nat)) := fun W h => (HGr.out.no h).r0
        have r1 : ∀ W, Fx No wr W → W.cell? ⟨rb, 1, none⟩ = some (.slice ro L.length rc) := fun W h => (HGr.out.no h).r1
        go_wp2_with fail
        refine wp_region_H (fun W => Fx No wr W) (by kernel_rfl) ((Fx.refl _ _).drew) ?_
        intro hS
        refine wpAnyH_take (i := 0) (v := ?_) rfl (by kernel_rfl) (by kernel_rfl) (by kernel_rfl) (fun _ _ _ h => h) (Or.inl ⟨by rfl, ?_⟩) hS ?_
        rotate_left
        · (intro W hs; go_simp; first | done | with_reducible rfl)
        try simp only [Act.put, List.getElem_toArray, List.getElem_cons_zero, List.getElem_cons_succ, List.setIfInBounds_toArray, List.set_cons_zero, List.set_cons_succ]
        refine wpAnyH_take (i := 2) (v := ?_) rfl (by kernel_rfl) (by kernel_rfl) (by kernel_rfl) (fun _ _ _ h => h) (Or.inl ⟨by rfl, ?_⟩) hS ?_
        rotate_left
        · (intro W hs; go_simp; first | done | with_reducible rfl)
        try simp only [Act.put, List.getElem_toArray, List.getElem_cons_zero, List.getElem_cons_succ, List.setIfInBounds_toArray, List.set_cons_zero, List.set_cons_succ]
        refine wpH_one (i := 1) (by kernel_rfl) rfl (fun Kk hK => ?_)
        go_simp
        refine (docGraph_any (HGr.out.no hS).g).mono ?_
        rintro e y1 ⟨dg, rfl, hfi, hdg⟩
        obtain ⟨so1, sc1, rfl, _⟩ := EdsV.facts (OwnT.row hdg)
        have HDg := Lib.hid (OwnT.row hdg)
        clear hdg
        refine hK.out _ _ (hS.trans hfi) (fun hS' => ?_)
        clear hK Kk hS hfi
        have hS := hS'
        clear hS'
        try simp only [Act.put, List.getElem_toArray, List.getElem_cons_zero, List.getElem_cons_succ, List.setIfInBounds_toArray, List.set_cons_zero, List.set_cons_succ]
        refine wpH_one (i := 3) (by kernel_rfl) rfl (fun Kk hK => ?_)
        go_simp
        refine (refSame_any HDg.out (HGr.out.no hS).row (N : Int) (N : Int)).mono ?_
        rintro e y2 ⟨rfl, hfi⟩
        have dd : decide ((N : Int) = (N : Int) ∧ L = L) = true := decide_eq_true ⟨rfl, rfl⟩
        rw [dd]
        clear dd HDg
        refine hK.out _ _ (hS.trans hfi) (fun hS' => ?_)
        clear hK Kk hS hfi
        have hS := hS'
        clear hS'
        try simp only [Act.put, List.getElem_toArray, List.getElem_cons_zero, List.getElem_cons_succ, List.setIfInBounds_toArray, List.set_cons_zero, List.set_cons_succ]
        refine wpAnyH_take (i := 4) (v := ?_) rfl (by kernel_rfl) (by kernel_rfl) (by kernel_rfl) (fun _ _ _ h => h) (Or.inl ⟨by rfl, ?_⟩) hS ?_
        rotate_left
        · (intro W hs; go_simp; first | done | with_reducible rfl)
        try simp only [Act.put, List.getElem_toArray, List.getElem_cons_zero, List.getElem_cons_succ, List.setIfInBounds_toArray, List.set_cons_zero, List.set_cons_succ]
        refine wpH_one (i := 5) (by kernel_rfl) rfl (fun Kk hK => ?_)
        go_simp
        refine (works_any _).mono ?_
        rintro e y3 ⟨rfl, hfi⟩
        refine hK.out _ _ (hS.trans hfi) (fun hS' => ?_)
        clear hK Kk hS hfi
        have hS := hS'
        clear hS'
        try simp only [Act.put, List.getElem_toArray, List.getElem_cons_zero, List.getElem_cons_succ, List.setIfInBounds_toArray, List.set_cons_zero, List.set_cons_succ]
        refine wpAnyH_take (i := 6) (v := ?_) rfl (by kernel_rfl) (by kernel_rfl) (by kernel_rfl) (fun _ _ _ h => h) (Or.inl ⟨by rfl, ?_⟩) hS ?_
        rotate_left
        · (intro W hs; go_simp; first | done | with_reducible rfl)
        try simp only [Act.put, List.getElem_toArray, List.getElem_cons_zero, List.getElem_cons_succ, List.setIfInBounds_toArray, List.set_cons_zero, List.set_cons_succ]
        refine wpAnyH_take (i := 7) (v := ?_) rfl (by kernel_rfl) (by kernel_rfl) (by kernel_rfl) (fun _ _ _ h => h) (Or.inl ⟨by rfl, ?_⟩) hS ?_
        rotate_left
        · (intro W hs; go_simp; first | done | with_reducible rfl)
        try simp only [Act.put, List.getElem_toArray, List.getElem_cons_zero, List.getElem_cons_succ, List.setIfInBounds_toArray, List.set_cons_zero, List.set_cons_succ]
        refine wpAnyH_done (by kernel_rfl) ?_ _
        have HFin := Lib.hid (HGr.out.fx.trans hS)
        clear hS r0 r1
        go_wp2
        go_ret
        exact ⟨rfl, HFin.out⟩
end
#print axioms sorts_any
end Go.Proofs.Yteafkafkbipcmaa
