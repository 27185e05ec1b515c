/- The reference of graphs: Remove. (Written by mkrgd.py out of chapter 17's Without.) -/
import Derived.Test.YtcfajeldkioomaaRgC
namespace Go.Proofs.Ytcfajeldkioomaa
open Go.RowKit
set_option linter.unusedVariables false

theorem delE_len (e : Ed) (L : List Ed) : (delE e L).length ≤ L.length := List.length_filter_le _ _
theorem delE_snoc (e z : Ed) (L : List Ed) : delE e (L ++ [z]) = delE e L ++ if decide (z = e) = true then [] else [z] := by
  unfold delE
  rw [List.filter_append]
  congr 1
  by_cases h : z = e
  · rw [List.filter_cons, if_neg (by simp [h]), if_pos (by simp [h])]; rfl
  · rw [List.filter_cons, if_pos (by simp [h]), if_neg (by simp [h])]; rfl
theorem delE_lt (e : Ed) (L : List Ed) : decide (((delE e L).length : Int) < (L.length : Int)) = decide (e ∈ L) := by
  rw [Bool.eq_iff_iff, decide_eq_true_iff, decide_eq_true_iff]
  constructor
  · intro h
    by_cases hm : e ∈ L
    · exact hm
    · rw [delE_not hm] at h; omega
  · intro h
    have : (delE e L).length < L.length := by
      unfold delE
      rw [List.length_filter_lt_length_iff_exists]
      exact ⟨e, h, by simp⟩
    omega
section
variable {w w' : World} {D S : Nat → Prop} {L : List Ed} {v : Value}
set_option maxRecDepth 100000 in
set_option maxHeartbeats 4000000 in
theorem refRemove_any (h : EdsV w D v L) (N x y s : Int) (hl : L.length ≤ 1000000) : Calls Try.prog 26 #[.agg #[.int .i64 N, v], .agg #[.int .i64 x, .int .i64 y, .int .i64 s]] w fun e w' => ∃ v', e = .returned (.tuple #[.agg #[.int .i64 N, v'], .bool (decide (⟨x, y, s⟩ ∈ L))]) ∧ Fx No w w' ∧ EdsV w' (fun k => (D k ∨ w.heap.size ≤ k) ∧ k < w'.heap.size) v' (delE ⟨x, y, s⟩ L) := by
  obtain ⟨ii, hi, hz, hs, hb⟩ := info_parts info_edge13
  have H := Lib.hid h.bound
  obtain ⟨ao, cap, rfl, _, _, hc⟩ := h.facts
  have HC := Lib.hid hc
  clear h hc
  go_enter Try.func26, Try.ntmps26
  go_wp2_with fail
  refine wp_hold (fun W => ∃ w1 : World, Fx No w w1 ∧ w1.heap.size = w.heap.size + 1 + 1 + 1 ∧ w1.cell? ⟨w.heap.size, 1, none⟩ = some (.slice ao L.length cap) ∧ w1.cell? ⟨w.heap.size + 1, 0, none⟩ = some (.int .i64 x) ∧ w1.cell? ⟨w.heap.size + 1, 1, none⟩ = some (.int .i64 y) ∧ w1.cell? ⟨w.heap.size + 1, 2, none⟩ = some (.int .i64 s) ∧
    (w1.cell? ⟨w.heap.size + 1 + 1, 0, none⟩ = some (.int .i64 0) ∧ w1.frozen? ⟨w.heap.size + 1 + 1, 0, none⟩ = false) ∧ (w1.cell? ⟨w.heap.size + 1 + 1, 1, none⟩ = some (.slice none 0 0) ∧ w1.frozen? ⟨w.heap.size + 1 + 1, 1, none⟩ = false) ∧
    AccE w1 W (w.heap.size + 1 + 1 + 1) N (.slice none 0 0) [])
    ⟨((w.alloc (.cells #[.int .i64 N, .slice ao L.length cap] 30)).alloc (.cells #[.int .i64 x, .int .i64 y, .int .i64 s] 33)).alloc (.cells #[.int .i64 0, .slice none 0 0] 30), ((Fx.refl No w).alloc _).alloc _ |>.alloc _, by simp, by go_simp, by go_simp, by go_simp, by go_simp, ⟨by go_simp, by go_simp⟩, ⟨by go_simp, by go_simp⟩, (Fx.refl No _).alloc _, by go_simp, ⟨by go_simp, by go_simp⟩, OwnT.nil _ _, by simp, by simp⟩ ?_
  rintro W0 ⟨w1, hF1, hz1, c1, e0, e1, e2, ⟨q0, f0⟩, ⟨q1, f1⟩, hA⟩
  obtain ⟨cb, hcb⟩ : ∃ e, e = w.heap.size := ⟨_, rfl⟩
  rw [← hcb] at hz1 c1 e0 e1 e2 q0 f0 q1 f1 hA ⊢
  obtain ⟨eb, heb⟩ : ∃ e, e = cb + 1 := ⟨_, rfl⟩
  rw [← heb] at hz1 e0 e1 e2 q0 f0 q1 f1 hA ⊢
  obtain ⟨qb, hqb⟩ : ∃ e, e = eb + 1 := ⟨_, rfl⟩
  rw [← hqb] at hz1 q0 f0 q1 f1 hA ⊢
  obtain ⟨ob, hob⟩ : ∃ e, e = qb + 1 := ⟨_, rfl⟩
  rw [← hob] at hz1 hA ⊢
  have HF1 := Lib.hid hF1
  have HA := Lib.hid hA
  have HOb : Hid (ob = w1.heap.size) := Lib.hid hz1.symm
  have hqo : qb < ob := by omega
  have hcb1 : cb < w1.heap.size := by omega
  have heb1 : eb < w1.heap.size := by omega
  have hq0 : w.heap.size ≤ qb := by omega
  have hq1 : qb < w1.heap.size := by omega
  have hwob : w.heap.size ≤ ob := by omega
  have HQ0 := Lib.hid q0
  have HF0 := Lib.hid f0
  have HQ1 := Lib.hid q1
  have HFf1 := Lib.hid f1
  have HC1 := Lib.hid c1
  have HE0 := Lib.hid e0
  have HE1 := Lib.hid e1
  have HE2 := Lib.hid e2
  have hcq : ¬ cb = qb := by omega
  clear hF1 hA hcb heb hqb hob hz1 q0 f0 q1 f1 c1 e0 e1 e2
  go_loopw [7] (fun i ws => ∃ (k : Nat) (vs : Value), i = .int .i64 k ∧ k ≤ L.length ∧ AccE w1 ws ob N vs (delE ⟨x, y, s⟩ (L.take k))) (fun i _ => L.length - (intOf i).toNat)
  case atStart => exact ⟨0, _, rfl, Nat.zero_le _, HA.out⟩
  case round =>
    obtain ⟨k, vs, rfl, hk, hA⟩ := hrel
    have hacl := delE_len ⟨x, y, s⟩ (L.take k)
    rw [List.length_take] at hacl
    obtain ⟨acc, hacc⟩ : ∃ a, a = delE ⟨x, y, s⟩ (L.take k) := ⟨_, rfl⟩
    rw [← hacc] at hA hacl
    have hacl2 : acc.length ≤ 1000001 := by omega
    have HSt := Lib.hid hacc
    obtain ⟨so, sc, rfl, _⟩ := SlV.ofOwns hA.own
    have HA := Lib.hid hA
    have c1 := hA.fx.cell' HC1.out (fun h => h)
    have e0 := hA.fx.cell' HE0.out (fun h => h)
    have e1 := hA.fx.cell' HE1.out (fun h => h)
    have e2 := hA.fx.cell' HE2.out (fun h => h)
    have hlo := hA.lo.2
    clear hA hacc hacl
    by_cases hlt : k < L.length
    · obtain ⟨b, o, rfl, hDb, p1, p2, p3⟩ := HC.out k hlt
      have hbw := World.block_lt_of_cell? w _ p1
      have hbw : b < w.heap.size := hbw
      have q1' := p1
      have q2' := p2
      have q3' := p3
      have p1 := HA.out.fx.cell' (HF1.out.cell' p1 (fun h => h)) (fun h => h)
      have p2 := HA.out.fx.cell' (HF1.out.cell' p2 (fun h => h)) (fun h => h)
      have p3 := HA.out.fx.cell' (HF1.out.cell' p3 (fun h => h)) (fun h => h)
      obtain ⟨z, hz'⟩ : ∃ z, z = (gt L k).f := ⟨_, rfl⟩
      obtain ⟨u, hu⟩ : ∃ z, z = (gt L k).t := ⟨_, rfl⟩
      obtain ⟨r, hr⟩ : ∃ z, z = (gt L k).l := ⟨_, rfl⟩
      rw [← hz'] at p1 q1'
      rw [← hu] at p2 q2'
      rw [← hr] at p3 q3'
      have HGk : Hid (gt L k = ⟨z, u, r⟩) := Lib.hid (Ed.ext' hz'.symm hu.symm hr.symm)
      have HNx : Hid (delE ⟨x, y, s⟩ (L.take (k + 1)) = acc ++ if decide ((⟨z, u, r⟩ : Ed) = ⟨x, y, s⟩) = true then [] else [(⟨z, u, r⟩ : Ed)]) := Lib.hid (by rw [take_gt hlt, delE_snoc, ← HSt.out, HGk.out])
      have hkl : (k : Int) < (L.length : Int) := by omega
      have hk0 : (0 : Int) ≤ (k : Int) := by omega
      clear hz' hu hr
      have HW1 := Lib.hid (HF1.out.cell' q1' (fun h => h))
      have HW2 := Lib.hid (HF1.out.cell' q2' (fun h => h))
      have HW3 := Lib.hid (HF1.out.cell' q3' (fun h => h))
      clear q1' q2' q3'
      have hcbl : cb < w1.heap.size := hcb1
      have hob1 : w1.heap.size ≤ ob := Nat.le_of_eq HOb.out.symm
      have hw01 : w.heap.size ≤ w1.heap.size := HF1.out.size
      have hx : ∀ W, (Op.equalIn 10000 33 (.agg #[.int .i64 z, .int .i64 u, .int .i64 r]) (.agg #[.int .i64 x, .int .i64 y, .int .i64 s])).run Try.prog W = .ok (decide ((⟨z, u, r⟩ : Ed) = ⟨x, y, s⟩)) W := fun W => run_eq13 ⟨z, u, r⟩ ⟨x, y, s⟩ W
      obtain ⟨t, ht⟩ : ∃ t, t = decide ((⟨z, u, r⟩ : Ed) = ⟨x, y, s⟩) := ⟨_, rfl⟩
      rw [← ht] at hx HNx
      clear ht
      go_wp2_with fail
      go_quiet (fail)
      all_goals
        have HX := Lib.hid (HA.out.no ((Fx.refl No wr).drewN nq))
        generalize wr.drewN nq = wx at *
        clear hx c1 e0 e1 e2 p1 p2 p3
        cases t
        · skip
          have HNx : Hid (delE ⟨x, y, s⟩ (L.take (k + 1)) = acc ++ [(⟨z, u, r⟩ : Ed)]) := Lib.hid (by rw [HNx.out]; simp)
          go_wp2_with fail
          refine wp_hold (fun W => AccE w1 W ob N (.slice so acc.length sc) acc) HX.out ?_
          rintro wx hX
          have HX := Lib.hid hX
          clear hX
          have c1 := HX.out.fx.cell' HC1.out (fun h => h)
          have p1 := HX.out.fx.cell' HW1.out (fun h => h)
          have p2 := HX.out.fx.cell' HW2.out (fun h => h)
          have p3 := HX.out.fx.cell' HW3.out (fun h => h)
          obtain ⟨o1, o2⟩ := HX.out.o1
          have hlo := HX.out.lo.2
          have hvs : ∀ g, (Value.slice so acc.length sc).ownBlock = some g → ob + 1 ≤ g := fun g e => (World.ownsRow.lt HX.out.own g e).1
          have HVs := Lib.hid hvs
          have s0 : Fx (fun g => (Value.slice so acc.length sc).ownBlock = some g ∨ g = ob) wx wx := Fx.refl _ _
          have ns : ∀ j, j < w1.heap.size → ¬ ((Value.slice so acc.length sc).ownBlock = some j ∨ j = ob) := fun j hj h => by
            rcases h with h | h
            · have := hvs j h; omega
            · omega
          have g0 : ∀ W, Fx (fun g => (Value.slice so acc.length sc).ownBlock = some g ∨ g = ob) wx W → W.cell? ⟨cb, 1, none⟩ = some (.slice (some ⟨b, o, none⟩) L.length cap) := fun W h => h.cell' c1 (ns _ hcbl)
          have g3 : ∀ W, Fx (fun g => (Value.slice so acc.length sc).ownBlock = some g ∨ g = ob) wx W → W.cell? ⟨b, o + k * 3, none⟩ = some (.int .i64 z) := fun W h => h.cell' p1 (ns _ (by show b < w1.heap.size; omega))
          have g4 : ∀ W, Fx (fun g => (Value.slice so acc.length sc).ownBlock = some g ∨ g = ob) wx W → W.cell? ⟨b, o + k * 3 + 1, none⟩ = some (.int .i64 u) := fun W h => h.cell' p2 (ns _ (by show b < w1.heap.size; omega))
          have g5 : ∀ W, Fx (fun g => (Value.slice so acc.length sc).ownBlock = some g ∨ g = ob) wx W → W.cell? ⟨b, o + k * 3 + 2, none⟩ = some (.int .i64 r) := fun W h => h.cell' p3 (ns _ (by show b < w1.heap.size; omega))
          have HOw : Hid (∀ W, Fx No wx W → W.ownsRow (ob + 1) 33 3 (.slice so acc.length sc) (acc.length) (icells e3 acc)) := Lib.hid fun W hf => by have := HX.out.own.no hf; unfold OwnT at this; simpa using this
          clear hvs c1 p1 p2 p3 ns
          refine wp_region_G 10 (fun b W => Fx (fun g => (Value.slice so acc.length sc).ownBlock = some g ∨ g = ob) wx W ∧ (b = false → W.cell? ⟨ob, 1, none⟩ = some (.slice so acc.length sc) ∧ W.frozen? ⟨ob, 1, none⟩ = false)) (by kernel_rfl) ⟨s0.drew, fun _ => ⟨o1, o2⟩⟩ ?_
          intro hS hC
          refine wpG_take (i := 0) (v := ?_) rfl (by kernel_rfl) (by kernel_rfl) (by kernel_rfl) (by kernel_rfl) (fun _ _ _ h => h) (by decide) (Or.inl ⟨by rfl, ?_⟩) hC hS ?_
          rotate_left
          · (intro W ⟨hf, hc⟩; have hc := hc rfl; go_simp; first | done | with_reducible rfl)
          clear hS hC
          intro hS hC
          try simp only [Act.put, List.setIfInBounds_toArray, List.set_cons_zero, List.set_cons_succ]
          refine wpG_take (i := 1) (v := ?_) rfl (by kernel_rfl) (by kernel_rfl) (by kernel_rfl) (by kernel_rfl) (fun _ _ _ h => h) (by decide) (Or.inl ⟨by rfl, ?_⟩) hC hS ?_
          rotate_left
          · (intro W ⟨hf, hc⟩; have hc := hc rfl; go_simp; first | done | with_reducible rfl)
          clear hS hC
          intro hS hC
          try simp only [Act.put, List.setIfInBounds_toArray, List.set_cons_zero, List.set_cons_succ]
          refine wpG_take (i := 2) (v := ?_) rfl (by kernel_rfl) (by kernel_rfl) (by kernel_rfl) (by kernel_rfl) (fun _ _ _ h => h) (by decide) (Or.inl ⟨by rfl, ?_⟩) hC hS ?_
          rotate_left
          · (intro W ⟨hf, hc⟩; have hc := hc rfl; go_simp; first | done | with_reducible rfl)
          clear hS hC
          intro hS hC
          try simp only [Act.put, List.setIfInBounds_toArray, List.set_cons_zero, List.set_cons_succ]
          refine wpG_take (i := 3) (v := ?_) rfl (by kernel_rfl) (by kernel_rfl) (by kernel_rfl) (by kernel_rfl) (fun _ _ _ h => h) (by decide) (Or.inl ⟨by rfl, ?_⟩) hC hS ?_
          rotate_left
          · (intro W ⟨hf, hc⟩; have hc := hc rfl; go_simp; first | done | with_reducible rfl)
          clear hS hC
          intro hS hC
          try simp only [Act.put, List.setIfInBounds_toArray, List.set_cons_zero, List.set_cons_succ]
          refine wpG_take (i := 4) (v := ?_) rfl (by kernel_rfl) (by kernel_rfl) (by kernel_rfl) (by kernel_rfl) (fun _ _ _ h => h) (by decide) (Or.inl ⟨by rfl, ?_⟩) hC hS ?_
          rotate_left
          · (intro W ⟨hf, hc⟩; have hc := hc rfl; go_simp; first | done | with_reducible rfl)
          clear hS hC
          intro hS hC
          try simp only [Act.put, List.setIfInBounds_toArray, List.set_cons_zero, List.set_cons_succ]
          refine wpG_take (i := 5) (v := ?_) rfl (by kernel_rfl) (by kernel_rfl) (by kernel_rfl) (by kernel_rfl) (fun _ _ _ h => h) (by decide) (Or.inl ⟨by rfl, ?_⟩) hC hS ?_
          rotate_left
          · (intro W ⟨hf, hc⟩; have hc := hc rfl; go_simp; first | done | with_reducible rfl)
          clear hS hC
          intro hS hC
          try simp only [Act.put, List.setIfInBounds_toArray, List.set_cons_zero, List.set_cons_succ]
          refine wpG_take (i := 6) (v := ?_) rfl (by kernel_rfl) (by kernel_rfl) (by kernel_rfl) (by kernel_rfl) (fun _ _ _ h => h) (by decide) (Or.inl ⟨by rfl, ?_⟩) hC hS ?_
          rotate_left
          · (intro W ⟨hf, hc⟩; have hc := hc rfl; go_simp; first | done | with_reducible rfl)
          clear hS hC
          intro hS hC
          try simp only [Act.put, List.setIfInBounds_toArray, List.set_cons_zero, List.set_cons_succ]
          refine wpG_one (i := 7) (by kernel_rfl) rfl hC (fun K hK => ?_)
          go_simp
          refine hK.out _ _ ⟨s0.drew.alloc _, fun _ => ((Fx.refl No _).drew.alloc _).cellF o1 o2 (fun h => h)⟩ (fun hS' hC' => ?_)
          clear hK K hS hC
          have hS := hS'
          have hC := hC'
          clear hS' hC'
          try simp only [Act.put, List.setIfInBounds_toArray, List.set_cons_zero, List.set_cons_succ]
          refine wpG_one (i := 8) (by kernel_rfl) rfl hC (fun K hK => ?_)
          refine step_append_kept rfl (.tmp 26) (.tmp 32) 28 rfl (ob + 1) 33 Try.underlying28 hi hz hs hb rfl (by decide) (.slice so acc.length sc) (acc.length) (icells e3 acc) (by simp [Act.eval]) (HOw.out _ ((Fx.refl No wx).drew.alloc _)) (fun _ => True) (.slice (some ⟨wx.heap.size, 0, none⟩) 1 1) 1 (ints [z, u, r]) (by simp [Act.eval]) (SlV.lit wx.drew 33 #[.int .i64 z, .int .i64 u, .int .i64 r] 3 1 rfl (by unfold maxLen; omega)) (ints_one _) (by omega) (by unfold maxLen; omega) (by omega) (by simp; omega) ?_
          intro v' w2 ho hfx hk3 hb2
          obtain ⟨g, gcap, rfl, hg1, hg2⟩ := ownsRow_pos ho (by omega)
          have hob : ¬ (Value.slice so acc.length sc).ownBlock = some ob := fun e => by have := HVs.out ob e; omega
          obtain ⟨t3, t4⟩ := ((Fx.refl No wx).drew.alloc (.cells #[.int .i64 z, .int .i64 u, .int .i64 r] 33)).cellF o1 o2 (fun h => h)
          obtain ⟨t3, t4⟩ := hfx.cellF t3 t4 hob
          have hS2 : Fx (fun b => (Value.slice so acc.length sc).ownBlock = some b ∨ b = ob) wx w2 := (s0.drew.alloc _).trans (hfx.mono fun _ _ e => .inl e)
          have HA5 := Lib.hid (HX.out.snoc (x := ⟨z, u, r⟩) ((Fx.refl No wx).drew.alloc _) hfx (by simpa [e3] using ho))
          refine hK.out _ _ ⟨hS2, fun _ => ⟨t3, t4⟩⟩ (fun hS' hC' => ?_)
          clear ho hfx hk3 hb2
          clear hK K hS hC
          have hS := hS'
          have hC := hC'
          clear hS' hC'
          try simp only [Act.put, List.setIfInBounds_toArray, List.set_cons_zero, List.set_cons_succ]
          refine wpG_take (i := 9) (v := ?_) rfl (by kernel_rfl) (by kernel_rfl) (by kernel_rfl) (by kernel_rfl) (fun _ _ _ h => h) (by decide) (Or.inl ⟨by rfl, ?_⟩) hC hS ?_
          rotate_left
          · (intro W ⟨hf, hc⟩; have hc := hc rfl; go_simp; first | done | with_reducible rfl)
          clear hS hC
          intro hS hC
          try simp only [Act.put, List.setIfInBounds_toArray, List.set_cons_zero, List.set_cons_succ]
          refine wpG_one (i := 10) (by kernel_rfl) rfl hC (fun K hK => ?_)
          go_simp
          refine hK.out _ _ ⟨Fx.setCell hS2 (a := ⟨ob, 1, none⟩) (.inr (.inr rfl)) _, fun h => absurd h (by decide +kernel)⟩ (fun _ _ => ?_)
          clear hK K hS hC
          refine wpG_done (by kernel_rfl) ?_ _
          clear o1 o2 t3 t4 hS2 s0 g0 g3 g4 g5
          go_wp2
          go_roundw
          case rel => exact ⟨k + 1, _, by go_num, by omega, by rw [HNx.out]; exact HA5.out⟩
          case measure => simp [intOf]; omega
        · have HNx : Hid (delE ⟨x, y, s⟩ (L.take (k + 1)) = acc) := Lib.hid (by rw [HNx.out]; simp)
          go_wp2
          go_roundw
          case rel => exact ⟨k + 1, _, by go_num, by omega, by rw [HNx.out]; exact HX.out⟩
          case measure => simp [intOf]; omega
    · obtain rfl : k = L.length := by omega
      rw [List.take_length] at HSt
      have HBl : Hid (decide ((acc.length : Int) < (L.length : Int)) = decide ((⟨x, y, s⟩ : Ed) ∈ L)) := Lib.hid (by rw [HSt.out]; exact delE_lt _ _)
      obtain ⟨bl, hbl⟩ : ∃ bl, bl = decide ((⟨x, y, s⟩ : Ed) ∈ L) := ⟨_, rfl⟩
      rw [← hbl] at HBl
      have hdl := HBl.out
      have HBe := Lib.hid hbl
      obtain ⟨q0, f0⟩ := HA.out.fx.cellF HQ0.out HF0.out (fun h => h)
      obtain ⟨q1, f1⟩ := HA.out.fx.cellF HQ1.out HFf1.out (fun h => h)
      have o0 := HA.out.o0
      obtain ⟨o1, o2⟩ := HA.out.o1
      obtain ⟨g1, g2, g3, g4⟩ := put_two wr (qb := qb) (.int .i64 N) (.slice so acc.length sc) q0 q1
      have HG0 : Hid ((wr.setCell ⟨qb, 0, none⟩ (.int .i64 N)).cell? ⟨qb, 0, none⟩ = some (.int .i64 N)) := Lib.hid (World.cell?_setCell_same _ _ _ q0)
      have HB2 : Hid (decide (acc.length < L.length) = bl) := Lib.hid (by rw [← HBl.out]; simp)
      have HG1 := Lib.hid g1
      have HG2 := Lib.hid g2
      have HG3 := Lib.hid g3
      have HG4 := Lib.hid g4
      have hqc : ¬ cb = qb := hcq
      have s0 : Fx (fun j => j = qb) wr wr := Fx.refl _ _
      have g5 : ∀ W, Fx (fun j => j = qb) wr W → W.cell? ⟨cb, 1, none⟩ = some (.slice ao L.length cap) := fun W h => h.cell' c1 hqc
      have g6 : ∀ W, Fx (fun j => j = qb) wr W → W.cell? ⟨ob, 0, none⟩ = some (.int .i64 N) := fun W h => h.cell' o0 (fun e => by have e : ob = qb := e; omega)
      have g7 : ∀ W, Fx (fun j => j = qb) wr W → W.cell? ⟨ob, 1, none⟩ = some (.slice so acc.length sc) := fun W h => h.cell' o1 (fun e => by have e : ob = qb := e; omega)
      clear hbl g1 g2 g3 g4 c1 e0 e1 e2 o0 o1 o2
      go_wp2_with fail
      refine wp_region_H (fun W => Fx (fun j => j = qb) wr W) (by kernel_rfl) s0.drew ?_
      intro hS
      refine wpAnyH_take (i := 0) (v := ?_) rfl (by kernel_rfl) (by kernel_rfl) (by kernel_rfl) (fun _ _ _ h => h) (Or.inl ⟨by rfl, ?_⟩) hS ?_
      rotate_left
      · (intro W hs; go_simp; first | done | with_reducible rfl)
      try simp only [Act.put, List.getElem_toArray, List.getElem_cons_zero, List.getElem_cons_succ, List.setIfInBounds_toArray, List.set_cons_zero, List.set_cons_succ]
      refine wpAnyH_take (i := 1) (v := ?_) rfl (by kernel_rfl) (by kernel_rfl) (by kernel_rfl) (fun _ _ _ h => h) (Or.inl ⟨by rfl, ?_⟩) hS ?_
      rotate_left
      · (intro W hs; go_simp; first | done | with_reducible rfl)
      try simp only [Act.put, List.getElem_toArray, List.getElem_cons_zero, List.getElem_cons_succ, List.setIfInBounds_toArray, List.set_cons_zero, List.set_cons_succ]
      refine wpAnyH_take (i := 2) (v := ?_) rfl (by kernel_rfl) (by kernel_rfl) (by kernel_rfl) (fun _ _ _ h => h) (Or.inl ⟨by rfl, ?_⟩) hS ?_
      rotate_left
      · (intro W hs; go_simp; first | done | with_reducible rfl)
      try simp only [Act.put, List.getElem_toArray, List.getElem_cons_zero, List.getElem_cons_succ, List.setIfInBounds_toArray, List.set_cons_zero, List.set_cons_succ]
      refine wpAnyH_take (i := 3) (v := ?_) rfl (by kernel_rfl) (by kernel_rfl) (by kernel_rfl) (fun _ _ _ h => h) (Or.inl ⟨by rfl, ?_⟩) hS ?_
      rotate_left
      · (intro W hs; go_simp; first | done | with_reducible rfl)
      try simp only [Act.put, List.getElem_toArray, List.getElem_cons_zero, List.getElem_cons_succ, List.setIfInBounds_toArray, List.set_cons_zero, List.set_cons_succ]
      refine wpAnyH_take (i := 4) (v := ?_) rfl (by kernel_rfl) (by kernel_rfl) (by kernel_rfl) (fun _ _ _ h => h) (Or.inl ⟨by rfl, ?_⟩) hS ?_
      rotate_left
      · (intro W hs; go_simp; first | done | with_reducible rfl)
      try simp only [Act.put, List.getElem_toArray, List.getElem_cons_zero, List.getElem_cons_succ, List.setIfInBounds_toArray, List.set_cons_zero, List.set_cons_succ]
      refine wpAnyH_take (i := 5) (v := ?_) rfl (by kernel_rfl) (by kernel_rfl) (by kernel_rfl) (fun _ _ _ h => h) (Or.inl ⟨by rfl, ?_⟩) hS ?_
      rotate_left
      · (intro W hs; go_simp; first | done | with_reducible rfl)
      try simp only [Act.put, List.getElem_toArray, List.getElem_cons_zero, List.getElem_cons_succ, List.setIfInBounds_toArray, List.set_cons_zero, List.set_cons_succ]
      refine wpAnyH_take (i := 6) (v := ?_) rfl (by kernel_rfl) (by kernel_rfl) (by kernel_rfl) (fun _ _ _ h => h) (Or.inl ⟨by rfl, ?_⟩) hS ?_
      rotate_left
      · (intro W hs; go_simp; first | done | with_reducible rfl)
      try simp only [Act.put, List.getElem_toArray, List.getElem_cons_zero, List.getElem_cons_succ, List.setIfInBounds_toArray, List.set_cons_zero, List.set_cons_succ]
      refine wpAnyH_take (i := 7) (v := ?_) rfl (by kernel_rfl) (by kernel_rfl) (by kernel_rfl) (fun _ _ _ h => h) (Or.inl ⟨by rfl, ?_⟩) hS ?_
      rotate_left
      · (intro W hs; go_simp; first | done | with_reducible rfl)
      try simp only [Act.put, List.getElem_toArray, List.getElem_cons_zero, List.getElem_cons_succ, List.setIfInBounds_toArray, List.set_cons_zero, List.set_cons_succ]
      refine wpH_one (i := 8) (by kernel_rfl) rfl (fun K hK => ?_)
      go_simp
      refine hK.out _ _ ((s0.drew.setCell (a := ⟨qb, 0, none⟩) (.inr rfl) _).setCell (a := ⟨qb, 1, none⟩) (.inr rfl) _) (fun hS' => ?_)
      clear hK K hS
      have hS := hS'
      clear hS'
      try simp only [Act.put, List.getElem_toArray, List.getElem_cons_zero, List.getElem_cons_succ, List.setIfInBounds_toArray, List.set_cons_zero, List.set_cons_succ]
      refine wpAnyH_take (i := 9) (v := ?_) rfl (by kernel_rfl) (by kernel_rfl) (by kernel_rfl) (fun _ _ _ h => h) (Or.inl ⟨by rfl, ?_⟩) hS ?_
      rotate_left
      · (intro W hs; go_simp; first | done | with_reducible rfl)
      try simp only [Act.put, List.getElem_toArray, List.getElem_cons_zero, List.getElem_cons_succ, List.setIfInBounds_toArray, List.set_cons_zero, List.set_cons_succ]
      refine wpAnyH_done (by kernel_rfl) ?_ _
      clear g5 g6 g7 hS s0 q0 f0 q1 f1
      go_wp2
      refine bodyPost_ret (v := .tuple #[.agg #[.int .i64 N, (.slice so acc.length sc)], .bool bl]) (by have g0 := HG0.out; have g1 := HG1.out; have g2 := HG2.out; have g3 := HB2.out; simp [results, Try.results26, go_sem, g0, g1, g2, g3]) rfl ⟨.slice so acc.length sc, by rw [HBe.out], ?_, ?_⟩
      · exact (((HF1.out.trans HA.out.fx).setCell (.inl hq0) _).setCell (.inl hq0) _).drew
      · rw [← HSt.out]
        refine RowV.mono ((HA.out.own.row.keep HG3.out fun x hx e => by have h1 := hx.1; have e : x = qb := e; omega).no ((Fx.refl No _).drew)) fun x hx => ?_
        have h1 := hx.1
        have h2 := hx.2
        have h4 := HG4.out
        show _ ∧ x < (World.setCell _ _ _).heap.size
        exact ⟨.inr (by omega), by omega⟩
end
#print axioms refRemove_any
end Go.Proofs.Ytcfajeldkioomaa
