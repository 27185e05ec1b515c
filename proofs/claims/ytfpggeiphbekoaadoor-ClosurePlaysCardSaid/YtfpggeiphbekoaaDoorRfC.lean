/- The reference of closures: Without. -/
import Derived.Test.YtfpggeiphbekoaaDoorRfB
namespace Go.Proofs.YtfpggeiphbekoaaDoor
open Go.RowKit
set_option linter.unusedVariables false

def withoutL (L : List (Int × Int)) (q : Int × Int) : List (Int × Int) := L.filter fun z => !(z.1 == q.1 && z.2 == q.2)
theorem withoutL_len (L : List (Int × Int)) (q : Int × Int) : (withoutL L q).length ≤ L.length := List.length_filter_le _ _
theorem withoutL_snoc (L : List (Int × Int)) (q z : Int × Int) : withoutL (L ++ [z]) q = withoutL L q ++ if (z.1 == q.1 && z.2 == q.2) = true then [] else [z] := by
  unfold withoutL
  rw [List.filter_append]
  congr 1
  by_cases h : (z.1 == q.1 && z.2 == q.2) = true
  · rw [if_pos h, List.filter_cons, if_neg (by rw [h]; simp)]; rfl
  · rw [if_neg h, List.filter_cons, if_pos (by simp only [Bool.not_eq_true] at h; rw [h]; rfl)]; rfl
section
variable {w w' : World} {D S : Nat → Prop} {L : List (Int × Int)} {v : Value}
set_option maxRecDepth 100000 in
set_option maxHeartbeats 4000000 in
theorem refWithout_any (h : PairsV w D v L) (N x y : Int) (hl : L.length ≤ 1000000) : Calls Tryd.prog 66 #[.agg #[.int .i64 N, v], .agg #[.int .i64 x, .int .i64 y]] w (RefR D N (withoutL L (x, y)) w) := by
  obtain ⟨ii, hi, hz, hs, hb⟩ := info_parts info_edge17
  have H := Lib.hid h.bound
  obtain ⟨ao, cap, rfl, _, _, hc⟩ := h.facts
  have HC := Lib.hid hc
  clear h hc
  go_enter Tryd.func66, Tryd.ntmps66
  go_wp2_with fail
  refine wp_hold (fun W => ∃ w1 : World, Fx No w w1 ∧ w1.heap.size = w.heap.size + 1 + 1 + 1 ∧ w1.cell? ⟨w.heap.size, 1, none⟩ = some (.slice ao L.length cap) ∧ w1.cell? ⟨w.heap.size + 1, 0, none⟩ = some (.int .i64 x) ∧ w1.cell? ⟨w.heap.size + 1, 1, none⟩ = some (.int .i64 y) ∧
    (w1.cell? ⟨w.heap.size + 1 + 1, 0, none⟩ = some (.int .i64 0) ∧ w1.frozen? ⟨w.heap.size + 1 + 1, 0, none⟩ = false) ∧ (w1.cell? ⟨w.heap.size + 1 + 1, 1, none⟩ = some (.slice none 0 0) ∧ w1.frozen? ⟨w.heap.size + 1 + 1, 1, none⟩ = false) ∧
    AccS w1 W (w.heap.size + 1 + 1 + 1) N (.slice none 0 0) [])
    ⟨((w.alloc (.cells #[.int .i64 N, .slice ao L.length cap] 30)).alloc (.cells #[.int .i64 x, .int .i64 y] 36)).alloc (.cells #[.int .i64 0, .slice none 0 0] 30), ((Fx.refl No w).alloc _).alloc _ |>.alloc _, by simp, by go_simp, by go_simp, by go_simp, ⟨by go_simp, by go_simp⟩, ⟨by go_simp, by go_simp⟩, (Fx.refl No _).alloc _, by go_simp, ⟨by go_simp, by go_simp⟩, OwnT.nil _ _, by simp, by simp⟩ ?_
  rintro W0 ⟨w1, hF1, hz1, c1, e0, e1, ⟨q0, f0⟩, ⟨q1, f1⟩, hA⟩
  obtain ⟨cb, hcb⟩ : ∃ e, e = w.heap.size := ⟨_, rfl⟩
  rw [← hcb] at hz1 c1 e0 e1 q0 f0 q1 f1 hA ⊢
  obtain ⟨eb, heb⟩ : ∃ e, e = cb + 1 := ⟨_, rfl⟩
  rw [← heb] at hz1 e0 e1 q0 f0 q1 f1 hA ⊢
  obtain ⟨qb, hqb⟩ : ∃ e, e = eb + 1 := ⟨_, rfl⟩
  rw [← hqb] at hz1 q0 f0 q1 f1 hA ⊢
  obtain ⟨ob, hob⟩ : ∃ e, e = qb + 1 := ⟨_, rfl⟩
  rw [← hob] at hz1 hA ⊢
  have HF1 := Lib.hid hF1
  have HA := Lib.hid hA
  have HOb : Hid (ob = w1.heap.size) := Lib.hid hz1.symm
  have hqo : qb < ob := by omega
  have hcb1 : cb < w1.heap.size := by omega
  have heb1 : eb < w1.heap.size := by omega
  have hq0 : w.heap.size ≤ qb := by omega
  have hq1 : qb < w1.heap.size := by omega
  have hwob : w.heap.size ≤ ob := by omega
  have HQ0 := Lib.hid q0
  have HF0 := Lib.hid f0
  have HQ1 := Lib.hid q1
  have HFf1 := Lib.hid f1
  have HC1 := Lib.hid c1
  have HE0 := Lib.hid e0
  have HE1 := Lib.hid e1
  clear hF1 hA hcb heb hqb hob hz1 q0 f0 q1 f1 c1 e0 e1
  go_loopw [6] (fun i ws => ∃ (k : Nat) (vs : Value), i = .int .i64 k ∧ k ≤ L.length ∧ AccS w1 ws ob N vs (withoutL (L.take k) (x, y))) (fun i _ => L.length - (intOf i).toNat)
  case atStart => exact ⟨0, _, rfl, Nat.zero_le _, HA.out⟩
  case round =>
    obtain ⟨k, vs, rfl, hk, hA⟩ := hrel
    have hacl := withoutL_len (L.take k) (x, y)
    rw [List.length_take] at hacl
    obtain ⟨acc, hacc⟩ : ∃ a, a = withoutL (L.take k) (x, y) := ⟨_, rfl⟩
    rw [← hacc] at hA hacl
    have hacl2 : acc.length ≤ 1000001 := by omega
    have HSt := Lib.hid hacc
    obtain ⟨so, sc, rfl, _⟩ := SlV.ofOwns hA.own
    have HA := Lib.hid hA
    have c1 := hA.fx.cell' HC1.out (fun h => h)
    have e0 := hA.fx.cell' HE0.out (fun h => h)
    have e1 := hA.fx.cell' HE1.out (fun h => h)
    have hlo := hA.lo.2
    clear hA hacc hacl
    by_cases hlt : k < L.length
    · obtain ⟨b, o, rfl, hDb, p1, p2⟩ := HC.out k hlt
      have hbw := World.block_lt_of_cell? w _ p1
      have hbw : b < w.heap.size := hbw
      have q1' := p1
      have q2' := p2
      have p1 := HA.out.fx.cell' (HF1.out.cell' p1 (fun h => h)) (fun h => h)
      have p2 := HA.out.fx.cell' (HF1.out.cell' p2 (fun h => h)) (fun h => h)
      obtain ⟨z, hz'⟩ : ∃ z, z = (gt L k).1 := ⟨_, rfl⟩
      obtain ⟨u, hu⟩ : ∃ z, z = (gt L k).2 := ⟨_, rfl⟩
      rw [← hz'] at p1 q1'
      rw [← hu] at p2 q2'
      have HNx : Hid (withoutL (L.take (k + 1)) (x, y) = acc ++ if (z == x && u == y) = true then [] else [(z, u)]) := Lib.hid (by rw [take_gt hlt, withoutL_snoc, ← HSt.out, hz', hu])
      have hkl : (k : Int) < (L.length : Int) := by omega
      have hk0 : (0 : Int) ≤ (k : Int) := by omega
      clear hz' hu
      have HW1 := Lib.hid (HF1.out.cell' q1' (fun h => h))
      have HW2 := Lib.hid (HF1.out.cell' q2' (fun h => h))
      clear q1' q2'
      have hcbl : cb < w1.heap.size := hcb1
      have hob1 : w1.heap.size ≤ ob := Nat.le_of_eq HOb.out.symm
      have hw01 : w.heap.size ≤ w1.heap.size := HF1.out.size
      have hx : ∀ W, (Op.equalIn 10000 36 (.agg #[.int .i64 z, .int .i64 u]) (.agg #[.int .i64 x, .int .i64 y])).run Tryd.prog W = .ok (z == x && u == y) W := fun W => run_eqe z u x y W
      obtain ⟨t, ht⟩ : ∃ t, t = (z == x && u == y) := ⟨_, rfl⟩
      rw [← ht] at hx HNx
      clear ht
      go_wp2_with fail
      go_quiet (fail)
      all_goals
        have HX := Lib.hid (HA.out.no ((Fx.refl No wr).drewN nq))
        generalize wr.drewN nq = wx at *
        clear hx c1 e0 e1 p1 p2
        cases t
        · skip
          have HNx : Hid (withoutL (L.take (k + 1)) (x, y) = acc ++ [(z, u)]) := Lib.hid (by rw [HNx.out]; simp)
          go_wp2_with fail
          refine wp_hold (fun W => AccS w1 W ob N (.slice so acc.length sc) acc) HX.out ?_
          rintro wx hX
          have HX := Lib.hid hX
          clear hX
          have c1 := HX.out.fx.cell' HC1.out (fun h => h)
          have p1 := HX.out.fx.cell' HW1.out (fun h => h)
          have p2 := HX.out.fx.cell' HW2.out (fun h => h)
          obtain ⟨o1, o2⟩ := HX.out.o1
          have hlo := HX.out.lo.2
          have hvs : ∀ g, (Value.slice so acc.length sc).ownBlock = some g → ob + 1 ≤ g := fun g e => (World.ownsRow.lt HX.out.own g e).1
          have HVs := Lib.hid hvs
          have s0 : Fx (fun g => (Value.slice so acc.length sc).ownBlock = some g ∨ g = ob) wx wx := Fx.refl _ _
          have ns : ∀ j, j < w1.heap.size → ¬ ((Value.slice so acc.length sc).ownBlock = some j ∨ j = ob) := fun j hj h => by
            rcases h with h | h
            · have := hvs j h; omega
            · omega
          have g0 : ∀ W, Fx (fun g => (Value.slice so acc.length sc).ownBlock = some g ∨ g = ob) wx W → W.cell? ⟨cb, 1, none⟩ = some (.slice (some ⟨b, o, none⟩) L.length cap) := fun W h => h.cell' c1 (ns _ hcbl)
          have g3 : ∀ W, Fx (fun g => (Value.slice so acc.length sc).ownBlock = some g ∨ g = ob) wx W → W.cell? ⟨b, o + k * 2, none⟩ = some (.int .i64 z) := fun W h => h.cell' p1 (ns _ (by show b < w1.heap.size; omega))
          have g4 : ∀ W, Fx (fun g => (Value.slice so acc.length sc).ownBlock = some g ∨ g = ob) wx W → W.cell? ⟨b, o + k * 2 + 1, none⟩ = some (.int .i64 u) := fun W h => h.cell' p2 (ns _ (by show b < w1.heap.size; omega))
          have HOw : Hid (∀ W, Fx No wx W → W.ownsRow (ob + 1) 36 2 (.slice so acc.length sc) (acc.length) (icells e2 acc)) := Lib.hid fun W hf => by have := HX.out.own.no hf; unfold OwnT at this; simpa using this
          clear hvs c1 p1 p2 ns
          refine wp_region_G 10 (fun b W => Fx (fun g => (Value.slice so acc.length sc).ownBlock = some g ∨ g = ob) wx W ∧ (b = false → W.cell? ⟨ob, 1, none⟩ = some (.slice so acc.length sc) ∧ W.frozen? ⟨ob, 1, none⟩ = false)) (by kernel_rfl) ⟨s0.drew, fun _ => ⟨o1, o2⟩⟩ ?_
          intro hS hC
          refine wpG_take (i := 0) (v := ?_) rfl (by kernel_rfl) (by kernel_rfl) (by kernel_rfl) (by kernel_rfl) (fun _ _ _ h => h) (by decide) (Or.inl ⟨by rfl, ?_⟩) hC hS ?_
          rotate_left
          · (intro W ⟨hf, hc⟩; have hc := hc rfl; go_simp; first | done | with_reducible rfl)
          clear hS hC
          intro hS hC
          try simp only [Act.put, List.setIfInBounds_toArray, List.set_cons_zero, List.set_cons_succ]
          refine wpG_take (i := 1) (v := ?_) rfl (by kernel_rfl) (by kernel_rfl) (by kernel_rfl) (by kernel_rfl) (fun _ _ _ h => h) (by decide) (Or.inl ⟨by rfl, ?_⟩) hC hS ?_
          rotate_left
          · (intro W ⟨hf, hc⟩; have hc := hc rfl; go_simp; first | done | with_reducible rfl)
          clear hS hC
          intro hS hC
          try simp only [Act.put, List.setIfInBounds_toArray, List.set_cons_zero, List.set_cons_succ]
          refine wpG_take (i := 2) (v := ?_) rfl (by kernel_rfl) (by kernel_rfl) (by kernel_rfl) (by kernel_rfl) (fun _ _ _ h => h) (by decide) (Or.inl ⟨by rfl, ?_⟩) hC hS ?_
          rotate_left
          · (intro W ⟨hf, hc⟩; have hc := hc rfl; go_simp; first | done | with_reducible rfl)
          clear hS hC
          intro hS hC
          try simp only [Act.put, List.setIfInBounds_toArray, List.set_cons_zero, List.set_cons_succ]
          refine wpG_take (i := 3) (v := ?_) rfl (by kernel_rfl) (by kernel_rfl) (by kernel_rfl) (by kernel_rfl) (fun _ _ _ h => h) (by decide) (Or.inl ⟨by rfl, ?_⟩) hC hS ?_
          rotate_left
          · (intro W ⟨hf, hc⟩; have hc := hc rfl; go_simp; first | done | with_reducible rfl)
          clear hS hC
          intro hS hC
          try simp only [Act.put, List.setIfInBounds_toArray, List.set_cons_zero, List.set_cons_succ]
          refine wpG_take (i := 4) (v := ?_) rfl (by kernel_rfl) (by kernel_rfl) (by kernel_rfl) (by kernel_rfl) (fun _ _ _ h => h) (by decide) (Or.inl ⟨by rfl, ?_⟩) hC hS ?_
          rotate_left
          · (intro W ⟨hf, hc⟩; have hc := hc rfl; go_simp; first | done | with_reducible rfl)
          clear hS hC
          intro hS hC
          try simp only [Act.put, List.setIfInBounds_toArray, List.set_cons_zero, List.set_cons_succ]
          refine wpG_take (i := 5) (v := ?_) rfl (by kernel_rfl) (by kernel_rfl) (by kernel_rfl) (by kernel_rfl) (fun _ _ _ h => h) (by decide) (Or.inl ⟨by rfl, ?_⟩) hC hS ?_
          rotate_left
          · (intro W ⟨hf, hc⟩; have hc := hc rfl; go_simp; first | done | with_reducible rfl)
          clear hS hC
          intro hS hC
          try simp only [Act.put, List.setIfInBounds_toArray, List.set_cons_zero, List.set_cons_succ]
          refine wpG_take (i := 6) (v := ?_) rfl (by kernel_rfl) (by kernel_rfl) (by kernel_rfl) (by kernel_rfl) (fun _ _ _ h => h) (by decide) (Or.inl ⟨by rfl, ?_⟩) hC hS ?_
          rotate_left
          · (intro W ⟨hf, hc⟩; have hc := hc rfl; go_simp; first | done | with_reducible rfl)
          clear hS hC
          intro hS hC
          try simp only [Act.put, List.setIfInBounds_toArray, List.set_cons_zero, List.set_cons_succ]
          refine wpG_one (i := 7) (by kernel_rfl) rfl hC (fun K hK => ?_)
          go_simp
          refine hK.out _ _ ⟨s0.drew.alloc _, fun _ => ((Fx.refl No _).drew.alloc _).cellF o1 o2 (fun h => h)⟩ (fun hS' hC' => ?_)
          clear hK K hS hC
          have hS := hS'
          have hC := hC'
          clear hS' hC'
          try simp only [Act.put, List.setIfInBounds_toArray, List.set_cons_zero, List.set_cons_succ]
          refine wpG_one (i := 8) (by kernel_rfl) rfl hC (fun K hK => ?_)
          refine step_append_kept rfl (.tmp 25) (.tmp 31) 28 rfl (ob + 1) 36 Tryd.underlying28 hi hz hs hb rfl (by decide) (.slice so acc.length sc) (acc.length) (icells e2 acc) (by simp [Act.eval]) (HOw.out _ ((Fx.refl No wx).drew.alloc _)) (fun _ => True) (.slice (some ⟨wx.heap.size, 0, none⟩) 1 1) 1 (ints [z, u]) (by simp [Act.eval]) (SlV.lit wx.drew 36 #[.int .i64 z, .int .i64 u] 2 1 rfl (by unfold maxLen; omega)) (ints_one _) (by omega) (by unfold maxLen; omega) (by omega) (by simp; omega) ?_
          intro v' w2 ho hfx hk3 hb2
          obtain ⟨g, gcap, rfl, hg1, hg2⟩ := ownsRow_pos ho (by omega)
          have hob : ¬ (Value.slice so acc.length sc).ownBlock = some ob := fun e => by have := HVs.out ob e; omega
          obtain ⟨t3, t4⟩ := ((Fx.refl No wx).drew.alloc (.cells #[.int .i64 z, .int .i64 u] 36)).cellF o1 o2 (fun h => h)
          obtain ⟨t3, t4⟩ := hfx.cellF t3 t4 hob
          have hS2 : Fx (fun b => (Value.slice so acc.length sc).ownBlock = some b ∨ b = ob) wx w2 := (s0.drew.alloc _).trans (hfx.mono fun _ _ e => .inl e)
          have HA5 := Lib.hid (HX.out.snoc (x := (z, u)) ((Fx.refl No wx).drew.alloc _) hfx (by simpa [e2] using ho))
          refine hK.out _ _ ⟨hS2, fun _ => ⟨t3, t4⟩⟩ (fun hS' hC' => ?_)
          clear ho hfx hk3 hb2
          clear hK K hS hC
          have hS := hS'
          have hC := hC'
          clear hS' hC'
          try simp only [Act.put, List.setIfInBounds_toArray, List.set_cons_zero, List.set_cons_succ]
          refine wpG_take (i := 9) (v := ?_) rfl (by kernel_rfl) (by kernel_rfl) (by kernel_rfl) (by kernel_rfl) (fun _ _ _ h => h) (by decide) (Or.inl ⟨by rfl, ?_⟩) hC hS ?_
          rotate_left
          · (intro W ⟨hf, hc⟩; have hc := hc rfl; go_simp; first | done | with_reducible rfl)
          clear hS hC
          intro hS hC
          try simp only [Act.put, List.setIfInBounds_toArray, List.set_cons_zero, List.set_cons_succ]
          refine wpG_one (i := 10) (by kernel_rfl) rfl hC (fun K hK => ?_)
          go_simp
          refine hK.out _ _ ⟨Fx.setCell hS2 (a := ⟨ob, 1, none⟩) (.inr (.inr rfl)) _, fun h => absurd h (by decide +kernel)⟩ (fun _ _ => ?_)
          clear hK K hS hC
          refine wpG_done (by kernel_rfl) ?_ _
          clear o1 o2 t3 t4 hS2 s0 g0 g3 g4
          go_wp2
          go_roundw
          case rel => exact ⟨k + 1, _, by go_num, by omega, by rw [HNx.out]; exact HA5.out⟩
          case measure => simp [intOf]; omega
        · have HNx : Hid (withoutL (L.take (k + 1)) (x, y) = acc) := Lib.hid (by rw [HNx.out]; simp)
          go_wp2
          go_roundw
          case rel => exact ⟨k + 1, _, by go_num, by omega, by rw [HNx.out]; exact HX.out⟩
          case measure => simp [intOf]; omega
    · obtain rfl : k = L.length := by omega
      rw [List.take_length] at HSt
      obtain ⟨q0, f0⟩ := HA.out.fx.cellF HQ0.out HF0.out (fun h => h)
      obtain ⟨q1, f1⟩ := HA.out.fx.cellF HQ1.out HFf1.out (fun h => h)
      have o0 := HA.out.o0
      obtain ⟨o1, o2⟩ := HA.out.o1
      obtain ⟨g1, g2, g3, g4⟩ := put_two wr (qb := qb) (.int .i64 N) (.slice so acc.length sc) q0 q1
      have HG1 := Lib.hid g1
      have HG2 := Lib.hid g2
      have HG3 := Lib.hid g3
      have HG4 := Lib.hid g4
      clear g1 g2 g3 g4 e0 e1
      go_wp2
      refine bodyPost_ret (v := .agg #[.int .i64 N, (.slice so acc.length sc)]) (by have g1 := HG1.out; have g2 := HG2.out; simp [results, Tryd.results66, go_sem, g1, g2]) rfl ⟨_, rfl, ?_, ?_⟩
      · exact ((HF1.out.trans HA.out.fx).setCell (.inl hq0) _).setCell (.inl hq0) _
      · rw [← HSt.out]
        refine RowV.mono (HA.out.own.row.keep HG3.out fun x hx e => by have h1 := hx.1; have e : x = qb := e; omega) fun x hx => ?_
        have h1 := hx.1
        have h2 := hx.2
        have h4 := HG4.out
        exact ⟨.inr (by omega), by omega⟩
end
#print axioms refWithout_any
end Go.Proofs.YtfpggeiphbekoaaDoor
