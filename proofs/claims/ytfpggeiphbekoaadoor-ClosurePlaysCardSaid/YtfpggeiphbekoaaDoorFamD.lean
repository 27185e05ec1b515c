/- closure's copied. -/
import Derived.Test.YtfpggeiphbekoaaDoorFamC
import Derived.Test.YtfpggeiphbekoaaDoorStepApp
import Derived.Test.YtfpggeiphbekoaaDoorRegG
namespace Go.Proofs.YtfpggeiphbekoaaDoor
open Go.RowKit
set_option linter.unusedVariables false

/-- the first k sets are copied -/
structure CopyS (w ws : World) (n k cb qb : Nat) (vs : Value) (M B lo hi : Nat → Nat) : Prop where
  fx : Fx No w ws
  own : ws.ownsRow (cb + 1) 82 1 vs k (bptr B k)
  cc : ws.cell? ⟨cb, 0, none⟩ = some vs ∧ ws.frozen? ⟨cb, 0, none⟩ = false
  qc : ∃ u, ws.cell? ⟨qb, 0, none⟩ = some u ∧ ws.frozen? ⟨qb, 0, none⟩ = false
  set : ∀ j, j < k → SetIn ws (Iv (lo j) (hi j)) (B j) n (M j)
  ord : ∀ j, j < k → cb < lo j ∧ lo j ≤ hi j ∧ hi j ≤ ws.heap.size ∧ ∀ i, i < j → hi i ≤ lo j
  sep : ∀ j, j < k → ∀ g, vs.ownBlock = some g → ¬ Iv (lo j) (hi j) g
  lows : w.heap.size ≤ qb ∧ qb < cb ∧ cb < ws.heap.size
theorem CopyS.step {w ws w1 W w2 : World} {n k cb qb b s0 : Nat} {vs v' : Value} {M B lo hi : Nat → Nat} (h : CopyS w ws n k cb qb vs M B lo hi) (hf1 : Fx No ws w1) (h0 : ws.heap.size ≤ s0) (h1 : s0 ≤ w1.heap.size)
    (hs : SetIn w1 (Iv s0 w1.heap.size) b n (M k)) (hW : Fx No w1 W) (hfx : Fx (fun g => vs.ownBlock = some g) W w2) (ho : w2.ownsRow (cb + 1) 82 1 v' (k + 1) (bptr B k ++ [.pointer (some ⟨b, 0, none⟩)]))
    (hb2 : ∀ g, v'.ownBlock = some g → vs.ownBlock = some g ∨ W.heap.size ≤ g) :
    CopyS w (w2.setCell ⟨cb, 0, none⟩ v') n (k + 1) cb qb v' M (fun j => if j = k then b else B j) (fun j => if j = k then s0 else lo j) (fun j => if j = k then w1.heap.size else hi j) := by
  obtain ⟨l1, l2, l3⟩ := h.lows
  have hf2 : Fx (fun j => j = cb) w2 (w2.setCell ⟨cb, 0, none⟩ v') := Fx.put _ _ _ _
  have hvs : ∀ g, vs.ownBlock = some g → cb + 1 ≤ g ∧ g < ws.heap.size := fun g e => World.ownsRow.lt h.own g e
  have hv' : ∀ g, v'.ownBlock = some g → cb + 1 ≤ g ∧ g < w2.heap.size := fun g e => World.ownsRow.lt ho g e
  have hz1 := hf1.size
  have hzW := hW.size
  have hz2 := hfx.size
  have hfa : Fx (fun g => vs.ownBlock = some g) ws w2 := (hf1.trans hW).no.trans hfx
  have hbp : bptr (fun j => if j = k then b else B j) (k + 1) = bptr B k ++ [.pointer (some ⟨b, 0, none⟩)] := by
    rw [bptr_succ]
    simp only [if_true]
    rw [bptr_congr (C := B) fun i hi => by simp [show i ≠ k by omega]]
  refine ⟨?_, ?_, ?_, ?_, fun j hj => ?_, fun j hj => ?_, fun j hj g hg => ?_, l1, l2, by simp [World.setCell]; omega⟩
  · exact (h.fx.trans' hfa fun g e hl => by have := hvs g e; omega).setCell (.inl (by show w.heap.size ≤ cb; omega)) _
  · rw [hbp]
    exact ownsRow_fx ho hf2 fun g e e2 => by have := hv' g e; omega
  · have c1 := hfa.cellF h.cc.1 h.cc.2 (fun e => by have := (hvs cb e).1; omega)
    exact ⟨World.cell?_setCell_same _ _ _ c1.1, by simpa using c1.2⟩
  · obtain ⟨u, g1, g2⟩ := h.qc
    obtain ⟨g3, g4⟩ := hfa.cellF g1 g2 (fun e => by have := (hvs qb e).1; omega)
    exact ⟨u, hf2.cellF g3 g4 (fun e => by have e : qb = cb := e; omega)⟩
  · by_cases e : j = k
    · subst e
      simp only [if_true]
      exact (((hs.no hW).keep hfx (by rintro x ⟨hx, _⟩ e; have := hvs x e; omega))).keep hf2 (by rintro x ⟨hx, _⟩ e; omega)
    · simp only [if_neg e]
      have o := h.ord j (by omega)
      exact ((h.set j (by omega)).keep hfa (fun x hx e => h.sep j (by omega) x e hx)).keep hf2 (by rintro x ⟨hx, _⟩ e; omega)
  · have hsz : (w2.setCell ⟨cb, 0, none⟩ v').heap.size = w2.heap.size := by simp [World.setCell]
    rw [hsz]
    by_cases e : j = k
    · subst e
      simp only [if_true]
      refine ⟨by omega, h1, by omega, fun i hi => ?_⟩
      have := h.ord i hi
      rw [if_neg (by omega)]
      omega
    · have o := h.ord j (by omega)
      simp only [if_neg e]
      refine ⟨o.1, o.2.1, by omega, fun i hi => ?_⟩
      rw [if_neg (by omega)]
      exact o.2.2.2 i hi
  · have hg2 := hb2 g hg
    by_cases e : j = k
    · subst e
      simp only [if_true]
      rintro ⟨a1, a2⟩
      rcases hg2 with hg2 | hg2
      · have := hvs g hg2; omega
      · omega
    · simp only [if_neg e]
      have o := h.ord j (by omega)
      rcases hg2 with hg2 | hg2
      · exact h.sep j (by omega) g hg2
      · rintro ⟨a1, a2⟩; omega
theorem CopyS.put {w ws : World} {n k cb qb : Nat} {vs : Value} {M B lo hi : Nat → Nat} (h : CopyS w ws n k cb qb vs M B lo hi) (v : Value) : CopyS w (ws.setCell ⟨qb, 0, none⟩ v) n k cb qb vs M B lo hi := by
  obtain ⟨l1, l2, l3⟩ := h.lows
  have hf2 : Fx (fun j => j = qb) ws (ws.setCell ⟨qb, 0, none⟩ v) := Fx.put _ _ _ _
  have hvs : ∀ g, vs.ownBlock = some g → cb + 1 ≤ g ∧ g < ws.heap.size := fun g e => World.ownsRow.lt h.own g e
  have hsz : (ws.setCell ⟨qb, 0, none⟩ v).heap.size = ws.heap.size := by simp [World.setCell]
  obtain ⟨u, g1, g2⟩ := h.qc
  refine ⟨h.fx.setCell (.inl l1) _, ownsRow_fx h.own hf2 fun g e e2 => by have := hvs g e; omega, hf2.cellF h.cc.1 h.cc.2 (fun e => by have e : cb = qb := e; omega), ⟨v, World.cell?_setCell_same _ _ _ g1, by simpa using g2⟩,
    fun j hj => (h.set j hj).keep hf2 (by rintro x ⟨hx, _⟩ e; have := h.ord j hj; omega), by rw [hsz]; exact h.ord, h.sep, l1, l2, by rw [hsz]; exact l3⟩
theorem CopyS.fam {w ws : World} {n cb qb : Nat} {vs : Value} {M B lo hi : Nat → Nat} (h : CopyS w ws n n cb qb vs M B lo hi) :
    Fam ws (Iv w.heap.size ws.heap.size) n M ⟨vs, B, fun k => vs.ownBlock = some k, fun i k => i < n ∧ Iv (lo i) (hi i) k⟩ := by
  obtain ⟨l1, l2, l3⟩ := h.lows
  have hvs : ∀ g, vs.ownBlock = some g → cb + 1 ≤ g ∧ g < ws.heap.size := fun g e => World.ownsRow.lt h.own g e
  refine ⟨?_, fun i hi => (h.set i hi).mono fun k hk => ⟨hi, hk⟩, ?_, ?_, ?_, ?_⟩
  · exact SlV.own h.own
  · rintro i j k ⟨hi, h1, h2⟩ ⟨hj, h3, h4⟩
    apply Classical.byContradiction
    intro hne
    rcases Nat.lt_or_gt_of_ne hne with hlt | hlt
    · have := (h.ord j hj).2.2.2 i hlt; omega
    · have := (h.ord i hi).2.2.2 j hlt; omega
  · rintro i k ⟨hi, h1⟩ e
    exact h.sep i hi k e h1
  · intro k e
    have := hvs k e
    exact ⟨by omega, this.2⟩
  · rintro i k ⟨hi, h1, h2⟩
    have := h.ord i hi
    exact ⟨by omega, by omega⟩
theorem ownsQ_nil (w : World) (base : Nat) (B : Nat → Nat) : w.ownsRow base 82 1 (.slice none 0 0) 0 (bptr B 0) := World.ownsRow_nil _ _ _ _
theorem copyS_start (w : World) (n : Nat) (M : Nat → Nat) (t1 t2 : TypeId) (x : Value) :
    CopyS w (((w.alloc (.cells #[x] t1)).alloc (.cells #[.slice none 0 0] t2)).alloc (.cells #[.slice none 0 0] t2)) n 0 (w.heap.size + 1 + 1) (w.heap.size + 1) (.slice none 0 0) M (fun _ => 0) (fun _ => 0) (fun _ => 0) := by
  have h1 := heap_alloc_new (w.alloc (.cells #[x] t1)) (.cells #[.slice none 0 0] t2)
  have h2 := ((Fx.refl No ((w.alloc (.cells #[x] t1)).alloc (.cells #[.slice none 0 0] t2))).alloc (.cells #[.slice none 0 0] t2)).at_ h1 (fun h => h)
  rw [World.size_alloc] at h2
  have h3 := heap_alloc_new ((w.alloc (.cells #[x] t1)).alloc (.cells #[.slice none 0 0] t2)) (.cells #[.slice none 0 0] t2)
  rw [World.size_alloc, World.size_alloc] at h3
  refine ⟨((Fx.refl No w).alloc _).alloc _ |>.alloc _, ownsQ_nil _ _ _, ⟨by rw [cell_of_row _ _ _ _ _ _ h3]; rfl, frozen_of_row _ _ _ _ _ h3⟩, ⟨.slice none 0 0, by rw [cell_of_row _ _ _ _ _ _ h2]; rfl, frozen_of_row _ _ _ _ _ h2⟩, fun j hj => by omega, fun j hj => by omega, fun j hj => by omega, by omega, by omega, by simp⟩
set_option maxRecDepth 100000 in
set_option maxHeartbeats 2000000 in
theorem copied_any {w : World} {D : Nat → Prop} {n : Nat} {M : Nat → Nat} {c : FC} (h : Fam w D n M c) (hn : n ≤ 1024) :
    Calls Tryd.prog 36 #[.agg #[c.v]] w fun e w' => ∃ c' : FC, e = .returned (.agg #[c'.v]) ∧ Fx No w w' ∧ Fam w' (Iv w.heap.size w'.heap.size) n M c' := by
  obtain ⟨ii, hi, hz, hs, hb⟩ := info_parts info_setp
  obtain ⟨ao, cap, hv, hcv⟩ := h.facts
  have H := Lib.hid h
  have HCV := Lib.hid hcv
  rw [hv]
  clear h hv hcv
  go_enter Tryd.func36, Tryd.ntmps36
  go_wp2
  refine wp_hold (fun W => CopyS w W n 0 (w.heap.size + 1 + 1) (w.heap.size + 1) (.slice none 0 0) M (fun _ => 0) (fun _ => 0) (fun _ => 0)) (copyS_start w n M _ _ _) ?_
  rintro W0 hR
  have HR := Lib.hid hR
  clear hR
  obtain ⟨qb, hqb⟩ : ∃ sb, sb = w.heap.size + 1 := ⟨_, rfl⟩
  rw [← hqb] at HR ⊢
  obtain ⟨cb, hcb⟩ : ∃ sb, sb = qb + 1 := ⟨_, rfl⟩
  rw [← hcb] at HR ⊢
  clear hqb hcb
  go_loopw [5, 9] (fun _ i ws => ∃ (k : Nat) (vs : Value) (B lo hi : Nat → Nat), i = .int .i64 k ∧ k ≤ n ∧ CopyS w ws n k cb qb vs M B lo hi) (fun _ i _ => n - (intOf i).toNat)
  case atStart => exact ⟨0, _, _, _, _, rfl, Nat.zero_le _, HR.out⟩
  case round =>
    obtain ⟨k, vs, B, lo, hi', rfl, hk, hC⟩ := hrel
    have HC := Lib.hid hC
    obtain ⟨so, sc, rfl, _⟩ := SlV.ofOwns hC.own
    obtain ⟨c1, c2⟩ := hC.cc
    clear hC
    by_cases hlt : k < n
    · have hkn : (k : Int) < (n : Int) := by omega
      obtain ⟨b, o, rfl, _, hcell⟩ := HCV.out k hlt
      have hcell' := HC.out.fx.cell' hcell (fun h => h)
      have HSet := Lib.hid ((H.out.set k hlt).no HC.out.fx)
      clear hcell
      have hzk := HC.out.fx.size
      have HOw : Hid (∀ W, Fx No wr W → W.ownsRow (cb + 1) 82 1 (.slice so k sc) k (bptr B k)) := Lib.hid fun W hf => ownsRow_fx HC.out.own hf fun _ _ h => h
      go_wp2_with fail
      obtain ⟨l1, l2, l3⟩ := HC.out.lows
      have hvs : ∀ g, (Value.slice so k sc).ownBlock = some g → cb + 1 ≤ g := fun g e => (World.ownsRow.lt HC.out.own g e).1
      have HVs := Lib.hid hvs
      have s0 : Fx (fun g => (Value.slice so k sc).ownBlock = some g ∨ g = cb) wr wr := Fx.refl _ _
      clear hvs
      refine wp_region_G 7 (fun b W => Fx (fun g => (Value.slice so k sc).ownBlock = some g ∨ g = cb) wr W ∧ (b = false → W.cell? ⟨cb, 0, none⟩ = some (.slice so k sc) ∧ W.frozen? ⟨cb, 0, none⟩ = false)) (by kernel_rfl) ⟨s0.drew, fun _ => ⟨c1, c2⟩⟩ ?_
      intro hS hC
      refine wpG_take (i := 0) (v := ?_) rfl (by kernel_rfl) (by kernel_rfl) (by kernel_rfl) (by kernel_rfl) (fun _ _ _ h => h) (by decide) (Or.inl ⟨by rfl, ?_⟩) hC hS ?_
      rotate_left
      · (intro W ⟨hf, hc⟩; have hc := hc rfl; go_simp; first | done | with_reducible rfl)
      clear hS hC
      intro hS hC
      try simp only [Act.put, List.setIfInBounds_toArray, List.set_cons_zero, List.set_cons_succ]
      refine wpG_take (i := 1) (v := ?_) rfl (by kernel_rfl) (by kernel_rfl) (by kernel_rfl) (by kernel_rfl) (fun _ _ _ h => h) (by decide) (Or.inl ⟨by rfl, ?_⟩) hC hS ?_
      rotate_left
      · (intro W ⟨hf, hc⟩; have hc := hc rfl; go_simp; first | done | with_reducible rfl)
      clear hS hC
      intro hS hC
      try simp only [Act.put, List.setIfInBounds_toArray, List.set_cons_zero, List.set_cons_succ]
      refine wpG_take (i := 2) (v := ?_) rfl (by kernel_rfl) (by kernel_rfl) (by kernel_rfl) (by kernel_rfl) (fun _ _ _ h => h) (by decide) (Or.inl ⟨by rfl, ?_⟩) hC hS ?_
      rotate_left
      · (intro W ⟨hf, hc⟩; have hc := hc rfl; go_simp; first | done | with_reducible rfl)
      clear hS hC
      intro hS hC
      try simp only [Act.put, List.setIfInBounds_toArray, List.set_cons_zero, List.set_cons_succ]
      refine wpG_one (i := 3) (by kernel_rfl) rfl hC (fun K hK => ?_)
      go_simp
      refine (copy_any (HSet.out.keep (S := No) ((Fx.refl No _).drew) No.disj)).mono ?_
      rintro e w1 ⟨b', rfl, hf1, hs1⟩
      obtain ⟨c1', c2'⟩ := hf1.cellF (hS.2 rfl).1 (hS.2 rfl).2 (fun h => h)
      refine hK.out _ _ ⟨s0.drew.transNo hf1, fun _ => ⟨c1', c2'⟩⟩ (fun hS' hC' => ?_)
      have HF1 := Lib.hid hf1
      have HS1 := Lib.hid hs1
      clear hf1 hs1
      clear hK K hS hC
      have hS := hS'
      have hC := hC'
      clear hS' hC'
      try simp only [Act.put, List.setIfInBounds_toArray, List.set_cons_zero, List.set_cons_succ]
      refine wpG_one (i := 4) (by kernel_rfl) rfl hC (fun K hK => ?_)
      go_simp
      refine hK.out _ _ ⟨(s0.drew.transNo HF1.out).alloc _, fun _ => ((Fx.refl No w1).alloc _).cellF c1' c2' (fun h => h)⟩ (fun hS' hC' => ?_)
      clear hK K hS hC
      have hS := hS'
      have hC := hC'
      clear hS' hC'
      try simp only [Act.put, List.setIfInBounds_toArray, List.set_cons_zero, List.set_cons_succ]
      refine wpG_one (i := 5) (by kernel_rfl) rfl hC (fun K hK => ?_)
      refine step_append_kept rfl (.tmp 14) (.tmp 17) 69 rfl (cb + 1) 82 Tryd.underlying69 hi hz hs hb rfl (by decide) (.slice so k sc) k (bptr B k) (by simp [Act.eval]) (HOw.out _ ((((Fx.refl No wr).drew).trans HF1.out).alloc _)) (fun _ => True) (.slice (some ⟨w1.heap.size, 0, none⟩) 1 1) 1 [.pointer (some ⟨b', 0, none⟩)] (by simp [Act.eval]) (SlV.lit w1 82 #[.pointer (some ⟨b', 0, none⟩)] 1 1 rfl (by unfold maxLen; omega)) (fun u hu => by rw [List.mem_singleton] at hu; subst hu; rfl) (by omega) (by unfold maxLen; omega) (by omega) (by have := HF1.out.size; simp at this; simp; omega) ?_
      intro v' w2 ho hfx hk3 hb2
      obtain ⟨g, gcap, rfl, hg1, hg2⟩ := ownsRow_pos ho (by omega)
      have hcb : ¬ (Value.slice so k sc).ownBlock = some cb := fun e => by have := HVs.out cb e; omega
      obtain ⟨t3, t4⟩ := hfx.cellF (((Fx.refl No w1).alloc (.cells #[.pointer (some ⟨b', 0, none⟩)] 82)).cell' c1' (fun h => h)) (((Fx.refl No w1).alloc (.cells #[.pointer (some ⟨b', 0, none⟩)] 82)).cellF c1' c2' (fun h => h)).2 hcb
      have hS2 : Fx (fun b => (Value.slice so k sc).ownBlock = some b ∨ b = cb) wr w2 := ((s0.drew.transNo HF1.out).alloc _).trans (hfx.mono fun _ _ e => .inl e)
      have HC5 := Lib.hid (HC.out.step ((Fx.refl No wr).drew.trans HF1.out) (Nat.le_refl _) (by have := HF1.out.size; simpa using this) (by simpa using HS1.out) ((Fx.refl No w1).alloc _) hfx ho hb2)
      refine hK.out _ _ ⟨hS2, fun _ => ⟨t3, t4⟩⟩ (fun hS' hC' => ?_)
      clear ho hfx hk3 hb2
      clear hK K hS hC
      have hS := hS'
      have hC := hC'
      clear hS' hC'
      try simp only [Act.put, List.setIfInBounds_toArray, List.set_cons_zero, List.set_cons_succ]
      refine wpG_take (i := 6) (v := ?_) rfl (by kernel_rfl) (by kernel_rfl) (by kernel_rfl) (by kernel_rfl) (fun _ _ _ h => h) (by decide) (Or.inl ⟨by rfl, ?_⟩) hC hS ?_
      rotate_left
      · (intro W ⟨hf, hc⟩; have hc := hc rfl; go_simp; first | done | with_reducible rfl)
      clear hS hC
      intro hS hC
      try simp only [Act.put, List.setIfInBounds_toArray, List.set_cons_zero, List.set_cons_succ]
      refine wpG_one (i := 7) (by kernel_rfl) rfl hC (fun K hK => ?_)
      go_simp
      refine hK.out _ _ ⟨Fx.setCell hS2 (a := ⟨cb, 0, none⟩) (.inr (.inr rfl)) _, fun h => absurd h (by decide +kernel)⟩ (fun _ _ => ?_)
      clear hK K hS hC
      refine wpG_done (by kernel_rfl) ?_ _
      clear c1 c2 c1' c2' t3 t4 s0 hS2
      go_wp2
      go_roundw
      case rel => exact ⟨k + 1, _, _, _, _, by go_num, by omega, HC5.out⟩
      case measure => simp [intOf]; omega
    · obtain rfl : k = n := by omega
      obtain ⟨u, g1, g2⟩ := HC.out.qc
      have HM2 := Lib.hid (HC.out.put (.slice so k sc))
      have hcq : ¬ cb = qb := fun e => by have := HC.out.lows; omega
      go_wp2
      exact bodyPost_ret (v := .agg #[.slice so k sc]) (by simp [results, Tryd.results36, go_sem, g1]) rfl ⟨_, rfl, HM2.out.fx, HM2.out.fam⟩
#print axioms copied_any
end Go.Proofs.YtfpggeiphbekoaaDoor
