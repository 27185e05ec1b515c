/- graph: put, drop, of. | graph: the map of edges. | graph: what a graph is; Len, Many, Has, of, Out, In. | graph: Has, made, New. | graph: slices.Grow of nil, slices.Concat, Edges. | graph: one edge more, one edge less; Remove. -/
import Derived.Test.YteafkafkbipcmaaM2
import Derived.Maps.OwnSet
import Derived.Maps.RangeWalk
import Derived.Maps.Ext
import Derived.DeepKeys4

namespace Go.Proofs.Yteafkafkbipcmaa
open Go.RowKit
set_option linter.unusedVariables false

theorem DU.setCell {D : Nat → Prop} {w w2 : World} {a : Addr} {v : Value} : DU D w (w2.setCell a v) = DU D w w2 := by
  funext k
  simp [DU, World.setCell]
section
variable {w w' : World} {D S T : Nat → Prop} {sb n : Nat} {rr : Nat → List Ed}
set_option maxRecDepth 100000 in
set_option maxHeartbeats 2000000 in
theorem put_any {b o i : Nat} (hc : w.cell? ⟨b, o, none⟩ = some (.slice (some ⟨sb, 0, none⟩) n n)) (h : RowsV w D sb n rr) (hi : i < n) (hn : n ≤ 70000) (ha : Asc (rr i)) (hl : (rr i).length ≤ 1000000) (hb : ¬ D b) (e : Ed) (he : e ∉ rr i) :
    Calls Try.prog 44 #[.pointer (some ⟨b, o, none⟩), .int .i64 (i : Nat), evE e] w fun r w' => r = .returned (.tuple #[]) ∧ Fx D w w' ∧ RowsV w' (DU D w w') sb n (upd rr i (insE e (rr i))) := by
  obtain ⟨hsD, vs, h2, h3⟩ := h
  have hRi := h2 i hi
  have HRs := Lib.hid (fun j (hj : j < n) => h2 j hj)
  have H3 := Lib.hid h3
  have HsD := Lib.hid hsD
  have HNb := Lib.hid hb
  have HRi := Lib.hid hRi
  obtain ⟨vi, hvi⟩ : ∃ v, v = vs i := ⟨_, rfl⟩
  rw [← hvi] at HRi
  obtain ⟨xs, hxs⟩ : ∃ xs, xs = rr i := ⟨_, rfl⟩
  rw [← hxs] at HRi ha hl he
  have HVi := Lib.hid hvi
  have HXs := Lib.hid hxs
  have HA := Lib.hid ha
  have HE := Lib.hid he
  have hsb : sb < w.heap.size := World.block_lt_of_cell? w _ HRi.out.cell
  have hbw : b < w.heap.size := World.block_lt_of_cell? w _ hc
  have HC0 := Lib.hid hc
  have hrow : EdsV w (fun b => vi.ownBlock = some b) vi xs := SlV.own HRi.out.own
  have HRow := Lib.hid hrow
  have hpl := posE_le e xs
  obtain ⟨p, hp⟩ : ∃ p, p = posE e xs := ⟨_, rfl⟩
  rw [← hp] at hpl
  have HP := Lib.hid hp
  have hin0 : (0 : Int) ≤ (i : Int) := by omega
  have hin1 : (i : Int) < (n : Int) := by omega
  unfold evE
  clear hsD h2 h3 hRi hvi hxs ha he hc hrow hb hp
  go_enter Try.func44, Try.ntmps44
  go_wp2_with fail
  refine wp_hold (fun W => Fx No w W ∧ W.cell? ⟨w.heap.size, 0, none⟩ = some (.int .i64 e.f) ∧ W.cell? ⟨w.heap.size, 1, none⟩ = some (.int .i64 e.t) ∧ W.cell? ⟨w.heap.size, 2, none⟩ = some (.int .i64 e.l)) ⟨(Fx.refl No w).alloc _, by go_simp, by go_simp, by go_simp⟩ ?_
  rintro wx ⟨hfx, c0, c1, c2⟩
  obtain ⟨q, hq⟩ : ∃ q, q = w.heap.size := ⟨_, rfl⟩
  rw [← hq] at c0 c1 c2 ⊢
  have HX := Lib.hid hfx
  have s0 : Fx No wx wx := Fx.refl _ _
  have Hq := Lib.hid hq
  have HQ0 := Lib.hid c0
  have HQ1 := Lib.hid c1
  have HQ2 := Lib.hid c2
  have hqg : Hid (∀ g, vi.ownBlock = some g → g ≠ q) := Lib.hid fun g hg e => by have := HRi.out.own.lt hg; rw [Hq.out] at e; omega
  clear hfx hq c0 c1 c2
  have r0 := HX.out.cell' HC0.out (fun h => h)
  have r1 := HX.out.cellF HRi.out.cell HRi.out.live (fun h => h)
  obtain ⟨r1, r2⟩ := r1
  have g0 : ∀ W, Fx No wx W → W.cell? ⟨q, 0, none⟩ = some (.int .i64 e.f) := fun W h => h.cell' HQ0.out (fun h => h)
  have g1 : ∀ W, Fx No wx W → W.cell? ⟨q, 1, none⟩ = some (.int .i64 e.t) := fun W h => h.cell' HQ1.out (fun h => h)
  have g2 : ∀ W, Fx No wx W → W.cell? ⟨q, 2, none⟩ = some (.int .i64 e.l) := fun W h => h.cell' HQ2.out (fun h => h)
  have g3 : ∀ W, Fx No wx W → W.cell? ⟨b, o, none⟩ = some (.slice (some ⟨sb, 0, none⟩) n n) := fun W h => h.cell' r0 (fun h => h)
  have g4 : ∀ W, Fx No wx W → W.cell? ⟨sb, i, none⟩ = some vi := fun W h => h.cell' r1 (fun h => h)
  have CB : Hid (∀ W, Fx No wx W → Calls Try.prog 52 #[vi, (.agg #[.int .i64 e.f, .int .i64 e.t, .int .i64 e.l]), .func (.func 53) #[] #[]] W fun r w' => r = .returned (.tuple #[.int .i64 (p : Nat), .bool (decide (e ∈ xs))]) ∧ Fx No W w') := Lib.hid fun W h => by rw [HP.out]; exact bsearch_any (HRow.out.no (HX.out.trans h)) hl HA.out e
  have hde : decide (e ∈ xs) = false := decide_eq_false HE.out
  rw [hde] at CB
  clear hde
  refine wp_region_H (fun W => Fx No wx W) (by kernel_rfl) s0.drew ?_
  intro hS
  refine wpAnyH_take (i := 0) (v := ?_) rfl (by kernel_rfl) (by kernel_rfl) (by kernel_rfl) (fun _ _ _ h => h) (Or.inl ⟨by rfl, ?_⟩) hS ?_
  rotate_left
  · (intro W hs; go_simp; first | done | with_reducible rfl)
  try simp only [Act.put, List.getElem_toArray, List.getElem_cons_zero, List.setIfInBounds_toArray, List.set_cons_zero, List.set_cons_succ]
  refine wpAnyH_take (i := 1) (v := ?_) rfl (by kernel_rfl) (by kernel_rfl) (by kernel_rfl) (fun _ _ _ h => h) (Or.inl ⟨by rfl, ?_⟩) hS ?_
  rotate_left
  · (intro W hs; go_simp; first | done | with_reducible rfl)
  try simp only [Act.put, List.getElem_toArray, List.getElem_cons_zero, List.getElem_cons_succ, List.setIfInBounds_toArray, List.set_cons_zero, List.set_cons_succ]
  refine wpAnyH_take (i := 2) (v := ?_) rfl (by kernel_rfl) (by kernel_rfl) (by kernel_rfl) (fun _ _ _ h => h) (Or.inl ⟨by rfl, ?_⟩) hS ?_
  rotate_left
  · (intro W hs; go_simp; first | done | with_reducible rfl)
  try simp only [Act.put, List.getElem_toArray, List.getElem_cons_zero, List.getElem_cons_succ, List.setIfInBounds_toArray, List.set_cons_zero, List.set_cons_succ]
  refine wpAnyH_take (i := 3) (v := ?_) rfl (by kernel_rfl) (by kernel_rfl) (by kernel_rfl) (fun _ _ _ h => h) (Or.inl ⟨by rfl, ?_⟩) hS ?_
  rotate_left
  · (intro W hs; go_simp; first | done | with_reducible rfl)
  try simp only [Act.put, List.getElem_toArray, List.getElem_cons_zero, List.getElem_cons_succ, List.setIfInBounds_toArray, List.set_cons_zero, List.set_cons_succ]
  refine wpAnyH_take (i := 4) (v := ?_) rfl (by kernel_rfl) (by kernel_rfl) (by kernel_rfl) (fun _ _ _ h => h) (Or.inl ⟨by rfl, ?_⟩) hS ?_
  rotate_left
  · (intro W hs; go_simp; first | done | with_reducible rfl)
  try simp only [Act.put, List.getElem_toArray, List.getElem_cons_zero, List.getElem_cons_succ, List.setIfInBounds_toArray, List.set_cons_zero, List.set_cons_succ]
  refine wpAnyH_take (i := 5) (v := ?_) rfl (by kernel_rfl) (by kernel_rfl) (by kernel_rfl) (fun _ _ _ h => h) (Or.inl ⟨by rfl, ?_⟩) hS ?_
  rotate_left
  · (intro W hs; go_simp; first | done | with_reducible rfl)
  try simp only [Act.put, List.getElem_toArray, List.getElem_cons_zero, List.getElem_cons_succ, List.setIfInBounds_toArray, List.set_cons_zero, List.set_cons_succ]
  refine wpAnyH_take (i := 6) (v := ?_) rfl (by kernel_rfl) (by kernel_rfl) (by kernel_rfl) (fun _ _ _ h => h) (Or.inl ⟨by rfl, ?_⟩) hS ?_
  rotate_left
  · (intro W hs; go_simp; first | done | with_reducible rfl)
  try simp only [Act.put, List.getElem_toArray, List.getElem_cons_zero, List.getElem_cons_succ, List.setIfInBounds_toArray, List.set_cons_zero, List.set_cons_succ]
  refine wpAnyH_take (i := 7) (v := ?_) rfl (by kernel_rfl) (by kernel_rfl) (by kernel_rfl) (fun _ _ _ h => h) (Or.inl ⟨by rfl, ?_⟩) hS ?_
  rotate_left
  · (intro W hs; go_simp; first | done | with_reducible rfl)
  try simp only [Act.put, List.getElem_toArray, List.getElem_cons_zero, List.getElem_cons_succ, List.setIfInBounds_toArray, List.set_cons_zero, List.set_cons_succ]
  refine wpH_one (i := 8) (by kernel_rfl) rfl (fun K hK => ?_)
  go_simp
  refine (CB.out _ hS).mono ?_
  rintro e' wy ⟨rfl, hfi⟩
  refine hK.out _ _ (hS.trans hfi) (fun hS' => ?_)
  clear hK K hS hfi
  have hS := hS'
  clear hS'
  try simp only [Act.put, List.getElem_toArray, List.getElem_cons_zero, List.getElem_cons_succ, List.setIfInBounds_toArray, List.set_cons_zero, List.set_cons_succ]
  refine wpAnyH_take (i := 9) (v := ?_) rfl (by kernel_rfl) (by kernel_rfl) (by kernel_rfl) (fun _ _ _ h => h) (Or.inl ⟨by rfl, ?_⟩) hS ?_
  rotate_left
  · (intro W hs; go_simp; first | done | with_reducible rfl)
  try simp only [Act.put, List.getElem_toArray, List.getElem_cons_zero, List.getElem_cons_succ, List.setIfInBounds_toArray, List.set_cons_zero, List.set_cons_succ]
  refine wpAnyH_take (i := 10) (v := ?_) rfl (by kernel_rfl) (by kernel_rfl) (by kernel_rfl) (fun _ _ _ h => h) (Or.inl ⟨by rfl, ?_⟩) hS ?_
  rotate_left
  · (intro W hs; go_simp; first | done | with_reducible rfl)
  try simp only [Act.put, List.getElem_toArray, List.getElem_cons_zero, List.getElem_cons_succ, List.setIfInBounds_toArray, List.set_cons_zero, List.set_cons_succ]
  refine wpAnyH_take (i := 11) (v := ?_) rfl (by kernel_rfl) (by kernel_rfl) (by kernel_rfl) (fun _ _ _ h => h) (Or.inl ⟨by rfl, ?_⟩) hS ?_
  rotate_left
  · (intro W hs; go_simp; first | done | with_reducible rfl)
  try simp only [Act.put, List.getElem_toArray, List.getElem_cons_zero, List.getElem_cons_succ, List.setIfInBounds_toArray, List.set_cons_zero, List.set_cons_succ]
  refine wpAnyH_take (i := 12) (v := ?_) rfl (by kernel_rfl) (by kernel_rfl) (by kernel_rfl) (fun _ _ _ h => h) (Or.inl ⟨by rfl, ?_⟩) hS ?_
  rotate_left
  · (intro W hs; go_simp; first | done | with_reducible rfl)
  try simp only [Act.put, List.getElem_toArray, List.getElem_cons_zero, List.getElem_cons_succ, List.setIfInBounds_toArray, List.set_cons_zero, List.set_cons_succ]
  refine wpAnyH_take (i := 13) (v := ?_) rfl (by kernel_rfl) (by kernel_rfl) (by kernel_rfl) (fun _ _ _ h => h) (Or.inl ⟨by rfl, ?_⟩) hS ?_
  rotate_left
  · (intro W hs; go_simp; first | done | with_reducible rfl)
  try simp only [Act.put, List.getElem_toArray, List.getElem_cons_zero, List.getElem_cons_succ, List.setIfInBounds_toArray, List.set_cons_zero, List.set_cons_succ]
  refine wpAnyH_done (by kernel_rfl) ?_ _
  have HS := Lib.hid hS
  clear g0 g1 g2 g3 g4 CB hS s0
  go_wp2_with fail

  have s0 : Fx No wy wy := Fx.refl _ _
  have HXy := Lib.hid (HX.out.trans HS.out)
  have HDD : Hid (∀ g, vi.ownBlock = some g → D g ∧ g ≠ sb) := Lib.hid HRi.out.lie
  have g0 : ∀ W, Fx (fun g => vi.ownBlock = some g) wy W → W.cell? ⟨q, 0, none⟩ = some (.int .i64 e.f) := fun W h => h.cell' (HS.out.cell' HQ0.out (fun h => h)) (fun hg => hqg.out q hg rfl)
  have g1 : ∀ W, Fx (fun g => vi.ownBlock = some g) wy W → W.cell? ⟨q, 1, none⟩ = some (.int .i64 e.t) := fun W h => h.cell' (HS.out.cell' HQ1.out (fun h => h)) (fun hg => hqg.out q hg rfl)
  have g2 : ∀ W, Fx (fun g => vi.ownBlock = some g) wy W → W.cell? ⟨q, 2, none⟩ = some (.int .i64 e.l) := fun W h => h.cell' (HS.out.cell' HQ2.out (fun h => h)) (fun hg => hqg.out q hg rfl)
  have g3 : ∀ W, Fx (fun g => vi.ownBlock = some g) wy W → W.cell? ⟨b, o, none⟩ = some (.slice (some ⟨sb, 0, none⟩) n n) := fun W h => h.cell' (HS.out.cell' r0 (fun h => h)) (fun hg => HNb.out (HDD.out b hg).1)
  have g4 : ∀ W, Fx (fun g => vi.ownBlock = some g) wy W → W.cell? ⟨sb, i, none⟩ = some vi := fun W h => h.cell' (HS.out.cell' r1 (fun h => h)) (fun hg => (HDD.out sb hg).2 rfl)
  have g5 : ∀ W, Fx (fun g => vi.ownBlock = some g) wy W → W.frozen? ⟨sb, i, none⟩ = false := fun W h => (h.cellF (HS.out.cell' r1 (fun h => h)) ((HS.out.cellF r1 r2 (fun h => h)).2) (fun hg => (HDD.out sb hg).2 rfl)).2
  have CI : Hid (∀ W vb, Fx No wy W → EdB W vb e → wy.heap.size ≤ vb → Calls Try.prog 54 #[vi, .int .i64 (p : Nat), .slice (some ⟨vb, 0, none⟩) 1 1] W fun r w' => ∃ v', r = .returned v' ∧ Hid (OwnE w' v' (insE e (rr i))) ∧ Hid (Fx (fun g => vi.ownBlock = some g) W w') ∧ Hid (∀ g, v'.ownBlock = some g → vi.ownBlock = some g ∨ wy.heap.size ≤ g)) := Lib.hid fun W vb h hE hvb => (insert_any (HRi.out.own.no (HXy.out.trans h)) hl hpl hE (fun hg => by have h1 := HRi.out.own.lt hg; have h2 := HXy.out.size; omega)).mono fun r w' ⟨v', h1, h2, h3, h4⟩ => ⟨v', h1, Lib.hid (by rw [← HXs.out, insE_at HA.out HE.out, ← HP.out]; exact h2), Lib.hid h3, Lib.hid fun g hg => (h4 g hg).imp id (fun q => Nat.le_trans h.size q)⟩
  refine wp_region_G 17 (fun b W => b = false → Fx (fun g => vi.ownBlock = some g) wy W) (by kernel_rfl) (fun _ => s0.no.drew) ?_
  intro hS hC
  refine wpG_take (i := 0) (v := ?_) rfl (by kernel_rfl) (by kernel_rfl) (by kernel_rfl) (by kernel_rfl) (fun _ _ _ h => h) (by decide) (Or.inl ⟨by rfl, ?_⟩) hC hS ?_
  rotate_left
  · (intro W hc; have hf := hc rfl; go_simp; first | done | with_reducible rfl)
  clear hS hC
  intro hS hC
  try simp only [Act.put, List.getElem_toArray, List.getElem_cons_zero, List.setIfInBounds_toArray, List.set_cons_zero, List.set_cons_succ]
  refine wpG_take (i := 1) (v := ?_) rfl (by kernel_rfl) (by kernel_rfl) (by kernel_rfl) (by kernel_rfl) (fun _ _ _ h => h) (by decide) (Or.inl ⟨by rfl, ?_⟩) hC hS ?_
  rotate_left
  · (intro W hc; have hf := hc rfl; go_simp; first | done | with_reducible rfl)
  clear hS hC
  intro hS hC
  try simp only [Act.put, List.getElem_toArray, List.getElem_cons_zero, List.getElem_cons_succ, List.setIfInBounds_toArray, List.set_cons_zero, List.set_cons_succ]
  refine wpG_take (i := 2) (v := ?_) rfl (by kernel_rfl) (by kernel_rfl) (by kernel_rfl) (by kernel_rfl) (fun _ _ _ h => h) (by decide) (Or.inl ⟨by rfl, ?_⟩) hC hS ?_
  rotate_left
  · (intro W hc; have hf := hc rfl; go_simp; first | done | with_reducible rfl)
  clear hS hC
  intro hS hC
  try simp only [Act.put, List.getElem_toArray, List.getElem_cons_zero, List.getElem_cons_succ, List.setIfInBounds_toArray, List.set_cons_zero, List.set_cons_succ]
  refine wpG_take (i := 3) (v := ?_) rfl (by kernel_rfl) (by kernel_rfl) (by kernel_rfl) (by kernel_rfl) (fun _ _ _ h => h) (by decide) (Or.inl ⟨by rfl, ?_⟩) hC hS ?_
  rotate_left
  · (intro W hc; have hf := hc rfl; go_simp; first | done | with_reducible rfl)
  clear hS hC
  intro hS hC
  try simp only [Act.put, List.getElem_toArray, List.getElem_cons_zero, List.getElem_cons_succ, List.setIfInBounds_toArray, List.set_cons_zero, List.set_cons_succ]
  refine wpG_take (i := 4) (v := ?_) rfl (by kernel_rfl) (by kernel_rfl) (by kernel_rfl) (by kernel_rfl) (fun _ _ _ h => h) (by decide) (Or.inl ⟨by rfl, ?_⟩) hC hS ?_
  rotate_left
  · (intro W hc; have hf := hc rfl; go_simp; first | done | with_reducible rfl)
  clear hS hC
  intro hS hC
  try simp only [Act.put, List.getElem_toArray, List.getElem_cons_zero, List.getElem_cons_succ, List.setIfInBounds_toArray, List.set_cons_zero, List.set_cons_succ]
  refine wpG_take (i := 5) (v := ?_) rfl (by kernel_rfl) (by kernel_rfl) (by kernel_rfl) (by kernel_rfl) (fun _ _ _ h => h) (by decide) (Or.inl ⟨by rfl, ?_⟩) hC hS ?_
  rotate_left
  · (intro W hc; have hf := hc rfl; go_simp; first | done | with_reducible rfl)
  clear hS hC
  intro hS hC
  try simp only [Act.put, List.getElem_toArray, List.getElem_cons_zero, List.getElem_cons_succ, List.setIfInBounds_toArray, List.set_cons_zero, List.set_cons_succ]
  refine wpG_take (i := 6) (v := ?_) rfl (by kernel_rfl) (by kernel_rfl) (by kernel_rfl) (by kernel_rfl) (fun _ _ _ h => h) (by decide) (Or.inl ⟨by rfl, ?_⟩) hC hS ?_
  rotate_left
  · (intro W hc; have hf := hc rfl; go_simp; first | done | with_reducible rfl)
  clear hS hC
  intro hS hC
  try simp only [Act.put, List.getElem_toArray, List.getElem_cons_zero, List.getElem_cons_succ, List.setIfInBounds_toArray, List.set_cons_zero, List.set_cons_succ]
  refine wpG_take (i := 7) (v := ?_) rfl (by kernel_rfl) (by kernel_rfl) (by kernel_rfl) (by kernel_rfl) (fun _ _ _ h => h) (by decide) (Or.inl ⟨by rfl, ?_⟩) hC hS ?_
  rotate_left
  · (intro W hc; have hf := hc rfl; go_simp; first | done | with_reducible rfl)
  clear hS hC
  intro hS hC
  try simp only [Act.put, List.getElem_toArray, List.getElem_cons_zero, List.getElem_cons_succ, List.setIfInBounds_toArray, List.set_cons_zero, List.set_cons_succ]
  refine wpG_take (i := 8) (v := ?_) rfl (by kernel_rfl) (by kernel_rfl) (by kernel_rfl) (by kernel_rfl) (fun _ _ _ h => h) (by decide) (Or.inl ⟨by rfl, ?_⟩) hC hS ?_
  rotate_left
  · (intro W hc; have hf := hc rfl; go_simp; first | done | with_reducible rfl)
  clear hS hC
  intro hS hC
  try simp only [Act.put, List.getElem_toArray, List.getElem_cons_zero, List.getElem_cons_succ, List.setIfInBounds_toArray, List.set_cons_zero, List.set_cons_succ]
  refine wpG_take (i := 9) (v := ?_) rfl (by kernel_rfl) (by kernel_rfl) (by kernel_rfl) (by kernel_rfl) (fun _ _ _ h => h) (by decide) (Or.inl ⟨by rfl, ?_⟩) hC hS ?_
  rotate_left
  · (intro W hc; have hf := hc rfl; go_simp; first | done | with_reducible rfl)
  clear hS hC
  intro hS hC
  try simp only [Act.put, List.getElem_toArray, List.getElem_cons_zero, List.getElem_cons_succ, List.setIfInBounds_toArray, List.set_cons_zero, List.set_cons_succ]
  refine wpG_take (i := 10) (v := ?_) rfl (by kernel_rfl) (by kernel_rfl) (by kernel_rfl) (by kernel_rfl) (fun _ _ _ h => h) (by decide) (Or.inl ⟨by rfl, ?_⟩) hC hS ?_
  rotate_left
  · (intro W hc; have hf := hc rfl; go_simp; first | done | with_reducible rfl)
  clear hS hC
  intro hS hC
  try simp only [Act.put, List.getElem_toArray, List.getElem_cons_zero, List.getElem_cons_succ, List.setIfInBounds_toArray, List.set_cons_zero, List.set_cons_succ]
  refine wpG_take (i := 11) (v := ?_) rfl (by kernel_rfl) (by kernel_rfl) (by kernel_rfl) (by kernel_rfl) (fun _ _ _ h => h) (by decide) (Or.inl ⟨by rfl, ?_⟩) hC hS ?_
  rotate_left
  · (intro W hc; have hf := hc rfl; go_simp; first | done | with_reducible rfl)
  clear hS hC
  intro hS hC
  try simp only [Act.put, List.getElem_toArray, List.getElem_cons_zero, List.getElem_cons_succ, List.setIfInBounds_toArray, List.set_cons_zero, List.set_cons_succ]
  refine wpG_take (i := 12) (v := ?_) rfl (by kernel_rfl) (by kernel_rfl) (by kernel_rfl) (by kernel_rfl) (fun _ _ _ h => h) (by decide) (Or.inl ⟨by rfl, ?_⟩) hC hS ?_
  rotate_left
  · (intro W hc; have hf := hc rfl; go_simp; first | done | with_reducible rfl)
  clear hS hC
  intro hS hC
  try simp only [Act.put, List.getElem_toArray, List.getElem_cons_zero, List.getElem_cons_succ, List.setIfInBounds_toArray, List.set_cons_zero, List.set_cons_succ]
  refine wpG_take (i := 13) (v := ?_) rfl (by kernel_rfl) (by kernel_rfl) (by kernel_rfl) (by kernel_rfl) (fun _ _ _ h => h) (by decide) (Or.inl ⟨by rfl, ?_⟩) hC hS ?_
  rotate_left
  · (intro W hc; have hf := hc rfl; go_simp; first | done | with_reducible rfl)
  clear hS hC
  intro hS hC
  try simp only [Act.put, List.getElem_toArray, List.getElem_cons_zero, List.getElem_cons_succ, List.setIfInBounds_toArray, List.set_cons_zero, List.set_cons_succ]
  refine wpG_one (i := 14) (by kernel_rfl) rfl hC (fun K hK => ?_)
  go_simp
  refine hK.out _ _ (fun _ => (hS rfl).alloc _) (fun hS' hC' => ?_)
  clear hK K hS hC
  have hS := hS'
  have hC := hC'
  clear hS' hC'
  try simp only [Act.put, List.getElem_toArray, List.getElem_cons_zero, List.getElem_cons_succ, List.setIfInBounds_toArray, List.set_cons_zero, List.set_cons_succ]
  have hvb : Hid (EdB (wy.alloc (.cells #[.int .i64 e.f, .int .i64 e.t, .int .i64 e.l] 57)).drew wy.heap.size e) := Lib.hid (by show (wy.heap.push _)[wy.heap.size]? = _; simp)
  refine wpG_one (i := 15) (by kernel_rfl) rfl hC (fun K hK => ?_)
  go_simp
  refine (CI.out _ _ (by repeat (first | exact s0 | apply Fx.drew | apply Fx.alloc)) hvb.out (Nat.le_refl _)).mono ?_
  rintro e' w2 ⟨v', rfl, HO2, hfi, HB2⟩
  obtain ⟨ao2, cap2, rfl, _⟩ := EdsV.facts HO2.out.row
  have HF2 : Hid (Fx (fun g => vi.ownBlock = some g) wy w2) := Lib.hid ((hS rfl).trans hfi.out)
  refine hK.out _ _ (fun _ => HF2.out) (fun hS' hC' => ?_)
  clear hK K hS hC
  have hS := hS'
  have hC := hC'
  clear hS' hC'
  try simp only [Act.put, List.getElem_toArray, List.getElem_cons_zero, List.getElem_cons_succ, List.setIfInBounds_toArray, List.set_cons_zero, List.set_cons_succ]
  clear hfi CI hvb
  refine wpG_take (i := 16) (v := ?_) rfl (by kernel_rfl) (by kernel_rfl) (by kernel_rfl) (by kernel_rfl) (fun _ _ _ h => h) (by decide) (Or.inl ⟨by rfl, ?_⟩) hC hS ?_
  rotate_left
  · (intro W hc; have hf := hc rfl; go_simp; first | done | with_reducible rfl)
  clear hS hC
  intro hS hC
  try simp only [Act.put, List.getElem_toArray, List.getElem_cons_zero, List.getElem_cons_succ, List.setIfInBounds_toArray, List.set_cons_zero, List.set_cons_succ]
  refine wpG_one (i := 17) (by kernel_rfl) rfl hC (fun K hK => ?_)
  have u0 := g4 _ HF2.out
  have u1 := g5 _ HF2.out
  go_simp
  refine hK.out _ _ (fun h => absurd h (by decide +kernel)) (fun _ _ => ?_)
  clear hK K hS hC
  refine wpG_done (by kernel_rfl) ?_ _
  have hz := HXy.out.size
  have HZ := Lib.hid (rowsV_store (w := w) (w2 := w2) (rr := rr) (vs := vs) (D := D) (n := n) (i := i) (xs := insE e (rr i)) HsD.out HRs.out H3.out hi (by rw [← HVi.out]; exact (HXy.out.no).trans HF2.out) HO2.out (by
    rw [← HVi.out]
    intro g hg
    rcases HB2.out g hg with h | h
    · exact .inl h
    · exact .inr (by omega)) hsb)
  clear u0 u1 g0 g1 g2 g3 g4 g5
  go_wp2
  go_end0
  exact ⟨rfl, HZ.out.2, by rw [DU.setCell]; exact HZ.out.1⟩
end
#print axioms put_any
end Go.Proofs.Yteafkafkbipcmaa

namespace Go.Proofs.Yteafkafkbipcmaa
open Go.RowKit
open Go.Maps (Keyed)
set_option linter.unusedVariables false

theorem laidOutG : laidOutB Try.prog = true := by kernel_rfl
theorem rowE : (57 : TypeId) < Try.prog.types.size := of_decide_eq_true (by kernel_rfl)
theorem law_edge : Keyed Try.prog 57 := Keyed.of_law (deep_law_laid laidOutG (m := 2) (by omega) rowE (by kernel_rfl) (by kernel_rfl))
def Ok64 (x : Int) : Prop := -9223372036854775808 ≤ x ∧ x ≤ 9223372036854775807
/-- an edge of numbers of 64 bits -/
structure Ed.ok (e : Ed) : Prop where
  f : Ok64 e.f
  t : Ok64 e.t
  l : Ok64 e.l
def keyE (e : Ed) : Lit := .string (keyBytes [.int .i64 e.f, .int .i64 e.t, .int .i64 e.l])
theorem wf64 {x : Int} (h : Ok64 x) : (Lit.int .i64 x).wf = true := by
  unfold Ok64 at h
  exact WalkArith.wf_i64 (by omega)
theorem typesPos : ∃ m, Try.prog.types.size = m + 1 := by
  have h := rowE
  revert h
  generalize Try.prog.types.size = s
  intro h
  cases s with
  | zero => exact absurd h (Nat.not_lt_zero _)
  | succ m => exact ⟨m, rfl⟩
theorem fieldsE : (Try.prog.fieldsOf 57).toList.map (fun f => (f.name, f.type, f.offset)) = [("From", 0), ("To", 1), ("Label", 2)].map fun q => (q.1, 3, q.2) := by kernel_rfl
theorem key_edge {e : Ed} (h : e.ok) : keyOf Try.prog 57 (evE e) = some (keyE e) := by
  obtain ⟨m, hm⟩ := typesPos
  obtain ⟨j, hj, _, hjs, _⟩ := info_parts info_int'
  have hc : Try.prog.cellsOf 3 = 1 := by simp [Program.cellsOf, hj, hjs]
  obtain ⟨ii, hi, _, hs, _⟩ := info_edge'
  have hce : Try.prog.cellsOf 57 = 3 := by simp [Program.cellsOf, hi, hs]
  have hk : Try.prog.keyType 57 = true := by kernel_rfl
  have hv : (evE e).formed Try.prog 57 = true := by simp [evE, Value.formed, Try.underlying57, hce]
  have hcells : (evE e).cells.toList = [.int .i64 e.f, .int .i64 e.t, .int .i64 e.l] := rfl
  have w1 := wf64 h.f
  have w2 := wf64 h.t
  have w3 := wf64 h.l
  unfold keyOf
  rw [Try.underlying57]
  simp only [hk, hv, Bool.and_self, if_true, hcells, hm]
  simp [Program.keyLits, Try.underlying57, Try.underlying3, hc, hce, w1, w2, w3, keyE]
theorem keyE_inj {a b : Ed} (ha : a.ok) (hb : b.ok) (h : keyE a = keyE b) : a = b := by
  have h1 := key_edge ha
  rw [h] at h1
  have h2 := law_edge.inj h1 (key_edge hb)
  simp [evE] at h2
  exact Ed.ext' h2.1 h2.2.1 h2.2.2
theorem zero_unit (w : World) : (zeroValue 91).run Try.prog w = .ok (.agg #[]) w := by kernel_rfl
abbrev unitR : Value → Option (DataW Unit × List MemPlace) := unitElem (H := Unit)
/-- the map of the edges of a row -/
structure MapE (w : World) (mb : Nat) (L : List Ed) : Prop where
  ok : ∀ x ∈ L, x.ok
  ex : ∃ D : DataW Unit, w.ownsMap Try.prog 57 unitR mb L.length D ∧ (∀ e, e.ok → Maps.has D (keyE e) = decide (e ∈ L)) ∧ Maps.size D = L.length ∧ ∀ kl, Maps.has D kl = true → ∃ e, e ∈ L ∧ kl = keyE e
theorem ownsMap_tight {w : World} {k : TypeId} {R : Value → Option (DataW Unit × List MemPlace)} {b n : Nat} {D : DataW Unit} (h : w.ownsMap Try.prog k R b n D) : w.ownsMap Try.prog k R b (Maps.size D) D := by
  obtain ⟨es, clock, hb, F, hs, rfl⟩ := h
  exact ⟨es, clock, hb, F, by simp [Maps.size, length_sorted], rfl⟩
section
variable {w w' : World} {S : Nat → Prop} {mb : Nat} {L : List Ed} {e : Ed}
theorem MapE.lt (h : MapE w mb L) : mb < w.heap.size := by obtain ⟨_, D, h1, _⟩ := h; exact h1.lt
theorem MapE.keep (h : MapE w mb L) (hf : Fx S w w') (hn : ¬ S mb) : MapE w' mb L := by
  obtain ⟨h0, D, ⟨es, clock, h1, h2⟩, h3⟩ := h
  exact ⟨h0, D, ⟨es, clock, hf.at_ h1 hn, h2⟩, h3⟩
theorem MapE.no (h : MapE w mb L) (hf : Fx No w w') : MapE w' mb L := h.keep hf fun h => h
theorem MapE.made (w : World) : MapE (w.alloc (.map #[] 0)) w.heap.size [] :=
  ⟨by simp, _, World.ownsMap_made w _ _ _, fun e _ => by simp [Maps.has], rfl, fun kl h => by simp [Maps.has] at h⟩
theorem MapE.look (h : MapE w mb L) (he : e.ok) : (Instr.lookup 88 (.map (some mb)) (evE e) true).run Try.prog w = .ok (.tuple #[.agg #[], .bool (decide (e ∈ L))]) w := by
  obtain ⟨h0, D, h1, h2, _⟩ := h
  obtain ⟨v, ps, hr, hv⟩ := h1.look_ok law_edge Try.underlying88 (zero_unit w) unitElem_mk (key_edge he)
  obtain ⟨rfl, _⟩ := unitElem_inv hv
  rw [hr, h2 e he]
theorem MapE.len (h : MapE w mb L) (ty : TypeId) : (Builtin.len_ #[88] ty #[.map (some mb)]).run Try.prog w = .ok (.int .i64 (L.length : Nat)) w := by
  obtain ⟨h0, D, h1, _, h3, _⟩ := h
  rw [h1.len Try.underlying88 ty, h3]
theorem MapE.store (h : MapE w mb L) (ha : Asc L) (hl : L.length ≤ 1000000) (he : e.ok) (hn : e ∉ L) :
    ∃ w', (Instr.mapUpdate 88 (.map (some mb)) (evE e) (.agg #[])).run Try.prog w = .ok () w' ∧ Hid (MapE w' mb (insE e L)) ∧ Hid (Fx (fun j => j = mb) w w') := by
  obtain ⟨h0, D, h1, h2, h3, h4⟩ := h
  obtain ⟨w', hr, g1, g2⟩ := h1.store law_edge Try.underlying88 (by unfold maxLen; omega) (key_edge he) (unitElem_mk (H := Unit))
  have hK := law_edge.key (key_edge he)
  have hm := h1.isMap
  refine ⟨w', hr, Lib.hid ⟨fun x hx => ?_, D.put (keyE e) (.agg []), ?_, fun x hx => ?_, ?_, fun kl hk => ?_⟩, Lib.hid (Fx.ofGrown g2.grown fun k hk _ => by simpa using hk.symm)⟩
  · rcases mem_insE.1 hx with rfl | hx
    · exact he
    · exact h0 x hx
  · rw [length_insE ha hn]; exact g1
  · by_cases hxe : x = e
    · subst hxe
      rw [Maps.has_put_same hm hK, decide_eq_true (mem_insE.2 (.inl rfl))]
    · have hne : keyE x ≠ keyE e := fun q => hxe (keyE_inj hx he q)
      rw [Maps.has_put_other hne, h2 x hx]
      rw [Bool.eq_iff_iff, decide_eq_true_iff, decide_eq_true_iff, mem_insE]
      exact ⟨.inr, fun q => q.resolve_left hxe⟩
  · rw [Maps.size_put (h1.tidy law_edge), h2 e he, decide_eq_false hn, h3, length_insE ha hn]; rfl
  · by_cases hke : kl = keyE e
    · exact ⟨e, mem_insE.2 (.inl rfl), hke⟩
    · rw [Maps.has_put_other hke] at hk
      obtain ⟨x, hx, hx2⟩ := h4 kl hk
      exact ⟨x, mem_insE.2 (.inr hx), hx2⟩
theorem MapE.drop (h : MapE w mb L) (ha : Asc L) (he : e ∈ L) (ty : TypeId) :
    ∃ w', (Builtin.delete_ #[88, 57] ty #[.map (some mb), evE e]).run Try.prog w = .ok (.tuple #[]) w' ∧ Hid (MapE w' mb (delE e L)) ∧ Hid (Fx (fun j => j = mb) w w') := by
  obtain ⟨h0, D, h1, h2, h3, h4⟩ := h
  have heo := h0 e he
  obtain ⟨w', hr, g1, g2⟩ := h1.drop law_edge Try.underlying88 (key_edge heo) ty
  have hK := law_edge.key (key_edge heo)
  have hsz := Maps.size_del (h1.tidy law_edge) (k := keyE e)
  rw [h2 e heo, decide_eq_true he, h3] at hsz
  have hln := length_delE ha he
  have hsz2 : Maps.size (D.del (keyE e)) = (delE e L).length := by simp at hsz; omega
  refine ⟨w', hr, Lib.hid ⟨fun x hx => h0 x (mem_delE.1 hx).1, D.del (keyE e), ?_, fun x hx => ?_, hsz2, fun kl hk => ?_⟩, Lib.hid (Fx.ofGrown g2.grown fun k hk _ => by simpa using hk.symm)⟩
  · rw [← hsz2]; exact ownsMap_tight g1
  · by_cases hxe : x = e
    · subst hxe
      rw [Maps.has_del_same, decide_eq_false (fun q => (mem_delE.1 q).2 rfl)]
    · have hne : keyE x ≠ keyE e := fun q => hxe (keyE_inj hx heo q)
      rw [Maps.has_del_other hne, h2 x hx]
      rw [Bool.eq_iff_iff, decide_eq_true_iff, decide_eq_true_iff, mem_delE]
      exact ⟨fun q => ⟨q, hxe⟩, fun q => q.1⟩
  · have hke : kl ≠ keyE e := by
      rintro rfl
      rw [Maps.has_del_same] at hk
      cases hk
    rw [Maps.has_del_other hke] at hk
    obtain ⟨x, hx, hx2⟩ := h4 kl hk
    exact ⟨x, mem_delE.2 ⟨hx, fun q => hke (by rw [hx2, q])⟩, hx2⟩
end
#print axioms MapE.store
#print axioms MapE.drop
end Go.Proofs.Yteafkafkbipcmaa

namespace Go.Proofs.Yteafkafkbipcmaa
open Go.RowKit
set_option linter.unusedVariables false

/-- a graph's parts -/
structure GParts (w : World) (D : Nat → Prop) (b n : Nat) (L : List Ed) (ob ib mb : Nat) (DO DI : Nat → Prop) : Prop where
  db : D b
  dm : D mb
  dO : ∀ x, DO x → D x
  dI : ∀ x, DI x → D x
  ap : ∀ x, DO x → ¬ DI x
  bO : ¬ DO b
  bI : ¬ DI b
  mO : ¬ DO mb
  mI : ¬ DI mb
  bm : b ≠ mb
  c0 : w.cell? ⟨b, 0, none⟩ = some (.slice (some ⟨ob, 0, none⟩) n n)
  c1 : w.cell? ⟨b, 1, none⟩ = some (.slice (some ⟨ib, 0, none⟩) n n)
  c2 : w.cell? ⟨b, 2, none⟩ = some (.map (some mb))
  outs : RowsV w DO ob n (outE L)
  ins : RowsV w DI ib n (inE L)
  map : MapE w mb L
/-- a graph of n nodes with the edges L -/
structure GraphV (w : World) (D : Nat → Prop) (b n : Nat) (L : List Ed) : Prop where
  asc : Asc L
  nodes : ∀ x ∈ L, (0 ≤ x.f ∧ x.f < (n : Int)) ∧ 0 ≤ x.t ∧ x.t < (n : Int)
  small : L.length ≤ 1000000
  nn : n ≤ 70000
  lt : ∀ x, D x → x < w.heap.size
  ex : ∃ ob ib mb DO DI, GParts w D b n L ob ib mb DO DI
section
variable {w w' : World} {D S T : Nat → Prop} {b n : Nat} {L : List Ed} {ob ib mb : Nat} {DO DI : Nat → Prop}
theorem GParts.keep (h : GParts w D b n L ob ib mb DO DI) (hf : Fx S w w') (hd : ∀ k, D k → ¬ S k) : GParts w' D b n L ob ib mb DO DI :=
  { h with
    c0 := hf.cell' h.c0 (hd _ h.db)
    c1 := hf.cell' h.c1 (hd _ h.db)
    c2 := hf.cell' h.c2 (hd _ h.db)
    outs := h.outs.keep hf fun k hk => hd k (h.dO k hk)
    ins := h.ins.keep hf fun k hk => hd k (h.dI k hk)
    map := h.map.keep hf (hd _ h.dm) }
theorem GraphV.keep (h : GraphV w D b n L) (hf : Fx S w w') (hd : ∀ k, D k → ¬ S k) : GraphV w' D b n L := by
  obtain ⟨ob, ib, mb, DO, DI, hp⟩ := h.ex
  exact ⟨h.asc, h.nodes, h.small, h.nn, fun x hx => Nat.lt_of_lt_of_le (h.lt x hx) hf.size, ob, ib, mb, DO, DI, hp.keep hf hd⟩
theorem GraphV.no (h : GraphV w D b n L) (hf : Fx No w w') : GraphV w' D b n L := h.keep hf No.disj
theorem GraphV.ok (h : GraphV w D b n L) : ∀ x ∈ L, x.ok := by
  obtain ⟨ob, ib, mb, DO, DI, hp⟩ := h.ex
  exact hp.map.ok
theorem outE_len (L : List Ed) (i : Nat) : (outE L i).length ≤ L.length := List.length_filter_le _ _
theorem inE_len (L : List Ed) (i : Nat) : (inE L i).length ≤ L.length := List.length_filter_le _ _
/-- the row of whatever number -/
def rowI (rr : Nat → List Ed) (n : Nat) (m : Int) : List Ed := if 0 ≤ m ∧ m < (n : Int) then rr m.toNat else []
theorem gLen_any (h : GraphV w D b n L) : Calls Try.prog 33 #[.pointer (some ⟨b, 0, none⟩)] w fun e w' => e = .returned (.int .i64 (n : Nat)) ∧ w = w' := by
  obtain ⟨ob, ib, mb, DO, DI, hp⟩ := h.ex
  have c0 := hp.c0
  clear h hp
  go_enter Try.func33, Try.ntmps33
  go_wp2
  go_ret
  exact ⟨rfl, rfl⟩
theorem gNode_any (h : GraphV w D b n L) (m : Int) : Calls Try.prog 42 #[.pointer (some ⟨b, 0, none⟩), .int .i64 m] w fun e w' => e = .returned (.bool (decide (0 ≤ m ∧ m < (n : Int)))) ∧ w = w' := by
  have H := Lib.hid h
  clear h
  by_cases h1 : 0 ≤ m
  · have d1 : decide (0 ≤ m) = true := decide_eq_true h1
    have he : decide (0 ≤ m ∧ m < (n : Int)) = decide (m < (n : Int)) := by simp [h1]
    rw [he]
    clear he
    go_enter Try.func42, Try.ntmps42
    go_wp2_with fail
    refine (gLen_any H.out).mono ?_
    rintro e w' ⟨rfl, rfl⟩
    go_wp2
    go_ret
    exact ⟨rfl, rfl⟩
  · have d1 : decide (0 ≤ m) = false := decide_eq_false h1
    have he : decide (0 ≤ m ∧ m < (n : Int)) = false := by simp [h1]
    rw [he]
    clear he
    go_enter Try.func42, Try.ntmps42
    go_wp2
    go_ret
    exact ⟨rfl, rfl⟩
theorem of_any {o sb : Nat} {rr : Nat → List Ed} (hc : w.cell? ⟨b, o, none⟩ = some (.slice (some ⟨sb, 0, none⟩) n n)) (h : RowsV w D sb n rr) (hl : ∀ i, i < n → (rr i).length ≤ 1000000) (m : Int) :
    Calls Try.prog 56 #[.pointer (some ⟨b, o, none⟩), .int .i64 m] w fun e w' => ∃ v', e = .returned v' ∧ Fx No w w' ∧ OwnT 57 e3 3 w' w.heap.size v' (rowI rr n m) := by
  have H := Lib.hid h
  have HL := Lib.hid hl
  have HE : Hid (rowI rr n m = if 0 ≤ m ∧ m < (n : Int) then rr m.toNat else []) := Lib.hid rfl
  clear h hl
  by_cases h1 : m < 0
  · have d1 : decide (m < 0) = true := decide_eq_true h1
    rw [HE.out, if_neg (by omega)]
    go_enter Try.func56, Try.ntmps56
    go_wp2
    go_ret
    exact ⟨_, rfl, Fx.refl _ _, OwnT.nil _ _⟩
  · obtain ⟨i, rfl⟩ := Int.eq_ofNat_of_zero_le (by omega : 0 ≤ m)
    have d1 : decide ((i : Int) < 0) = false := decide_eq_false (by omega)
    by_cases h2 : i < n
    · have d2 : decide ((n : Int) ≤ (i : Int)) = false := decide_eq_false (by omega)
      have hin0 : (0 : Int) ≤ (i : Int) := by omega
      have hin1 : (i : Int) < (n : Int) := by omega
      obtain ⟨v, hv, hr⟩ := H.out.rowAt h2
      have HR := Lib.hid hr
      have hll := HL.out i h2
      rw [HE.out, if_pos ⟨by omega, by omega⟩, show ((i : Int)).toNat = i from rfl]
      clear hr
      go_enter Try.func56, Try.ntmps56
      go_wp2_with fail
      refine (clone_any HR.out hll).mono ?_
      rintro e w' ⟨v', rfl, hf, ho⟩
      have HF := Lib.hid hf
      have HO := Lib.hid ho
      clear hf ho
      go_wp2
      go_ret
      exact ⟨_, rfl, HF.out, HO.out⟩
    · have d2 : decide ((n : Int) ≤ (i : Int)) = true := decide_eq_true (by omega)
      rw [HE.out, if_neg (by omega)]
      go_enter Try.func56, Try.ntmps56
      go_wp2
      go_ret
      exact ⟨_, rfl, Fx.refl _ _, OwnT.nil _ _⟩
theorem gOut_any (h : GraphV w D b n L) (m : Int) : Calls Try.prog 49 #[.pointer (some ⟨b, 0, none⟩), .int .i64 m] w fun e w' => ∃ v', e = .returned v' ∧ Fx No w w' ∧ OwnT 57 e3 3 w' w.heap.size v' (rowI (outE L) n m) := by
  have H := Lib.hid h
  obtain ⟨ob, ib, mb, DO, DI, hp⟩ := h.ex
  have HP := Lib.hid hp
  clear h hp
  go_enter Try.func49, Try.ntmps49
  go_wp2_with fail
  refine (of_any HP.out.c0 HP.out.outs (fun i _ => Nat.le_trans (outE_len L i) H.out.small) m).mono ?_
  rintro e w' ⟨v', rfl, hf, ho⟩
  have HF := Lib.hid hf
  have HO := Lib.hid ho
  clear hf ho
  go_wp2
  go_ret
  exact ⟨_, rfl, HF.out, HO.out⟩
theorem gIn_any (h : GraphV w D b n L) (m : Int) : Calls Try.prog 47 #[.pointer (some ⟨b, 0, none⟩), .int .i64 m] w fun e w' => ∃ v', e = .returned v' ∧ Fx No w w' ∧ OwnT 57 e3 3 w' w.heap.size v' (rowI (inE L) n m) := by
  have H := Lib.hid h
  obtain ⟨ob, ib, mb, DO, DI, hp⟩ := h.ex
  have HP := Lib.hid hp
  clear h hp
  go_enter Try.func47, Try.ntmps47
  go_wp2_with fail
  refine (of_any HP.out.c1 HP.out.ins (fun i _ => Nat.le_trans (inE_len L i) H.out.small) m).mono ?_
  rintro e w' ⟨v', rfl, hf, ho⟩
  have HF := Lib.hid hf
  have HO := Lib.hid ho
  clear hf ho
  go_wp2
  go_ret
  exact ⟨_, rfl, HF.out, HO.out⟩
end
#print axioms gIn_any
end Go.Proofs.Yteafkafkbipcmaa

namespace Go.Proofs.Yteafkafkbipcmaa
open Go.RowKit
set_option linter.unusedVariables false

section
variable {w w' : World} {D S T : Nat → Prop} {b n : Nat} {L : List Ed}
set_option maxRecDepth 100000 in
set_option maxHeartbeats 1000000 in
theorem gHas_any (h : GraphV w D b n L) (e : Ed) (he : e.ok) : Calls Try.prog 43 #[.pointer (some ⟨b, 0, none⟩), evE e] w fun r w' => r = .returned (.bool (decide (e ∈ L))) ∧ Fx No w w' := by
  obtain ⟨ob, ib, mb, DO, DI, hp⟩ := h.ex
  have HP := Lib.hid hp
  obtain ⟨t, ht⟩ : ∃ t, t = decide (e ∈ L) := ⟨_, rfl⟩
  have HK : Hid (∀ W, Fx No w W → (Instr.lookup 88 (.map (some mb)) (.agg #[.int .i64 e.f, .int .i64 e.t, .int .i64 e.l]) true).run Try.prog W = .ok (.tuple #[.agg #[], .bool t]) W) := Lib.hid fun W h => by rw [ht]; exact (HP.out.map.no h).look he
  rw [← ht]
  unfold evE
  clear h hp ht
  go_enter Try.func43, Try.ntmps43
  go_wp2_with fail
  refine wp_hold (fun W => Fx No w W ∧ W.cell? ⟨w.heap.size, 0, none⟩ = some (.int .i64 e.f) ∧ W.cell? ⟨w.heap.size, 1, none⟩ = some (.int .i64 e.t) ∧ W.cell? ⟨w.heap.size, 2, none⟩ = some (.int .i64 e.l)) ⟨(Fx.refl No w).alloc _, by go_simp, by go_simp, by go_simp⟩ ?_
  rintro wx ⟨hfx, c0, c1, c2⟩
  obtain ⟨q, hq⟩ : ∃ q, q = w.heap.size := ⟨_, rfl⟩
  rw [← hq] at c0 c1 c2 ⊢
  have HX := Lib.hid hfx
  have s0 : Fx No wx wx := Fx.refl _ _
  have g0 : ∀ W, Fx No wx W → W.cell? ⟨q, 0, none⟩ = some (.int .i64 e.f) := fun W h => h.cell' c0 (fun h => h)
  have g1 : ∀ W, Fx No wx W → W.cell? ⟨q, 1, none⟩ = some (.int .i64 e.t) := fun W h => h.cell' c1 (fun h => h)
  have g2 : ∀ W, Fx No wx W → W.cell? ⟨q, 2, none⟩ = some (.int .i64 e.l) := fun W h => h.cell' c2 (fun h => h)
  have g3 : ∀ W, Fx No wx W → W.cell? ⟨b, 2, none⟩ = some (.map (some mb)) := fun W h => (HX.out.trans h).cell' HP.out.c2 (fun h => h)
  have g4 : ∀ W, Fx No wx W → (Instr.lookup 88 (.map (some mb)) (.agg #[.int .i64 e.f, .int .i64 e.t, .int .i64 e.l]) true).run Try.prog W = .ok (.tuple #[.agg #[], .bool t]) W := fun W h => HK.out W (HX.out.trans h)
  clear c0 c1 c2 hfx hq
  refine wp_region_H (fun W => Fx No wx W) (by kernel_rfl) s0.drew ?_
  intro hS
  refine wpAnyH_take (i := 0) (v := ?_) rfl (by kernel_rfl) (by kernel_rfl) (by kernel_rfl) (fun _ _ _ h => h) (Or.inl ⟨by rfl, ?_⟩) hS ?_
  rotate_left
  · (intro W hs; go_simp; first | done | with_reducible rfl)
  try simp only [Act.put, List.getElem_toArray, List.getElem_cons_zero, List.setIfInBounds_toArray, List.set_cons_zero, List.set_cons_succ]
  refine wpAnyH_take (i := 1) (v := ?_) rfl (by kernel_rfl) (by kernel_rfl) (by kernel_rfl) (fun _ _ _ h => h) (Or.inl ⟨by rfl, ?_⟩) hS ?_
  rotate_left
  · (intro W hs; go_simp; first | done | with_reducible rfl)
  try simp only [Act.put, List.getElem_toArray, List.getElem_cons_zero, List.getElem_cons_succ, List.setIfInBounds_toArray, List.set_cons_zero, List.set_cons_succ]
  refine wpAnyH_take (i := 2) (v := ?_) rfl (by kernel_rfl) (by kernel_rfl) (by kernel_rfl) (fun _ _ _ h => h) (Or.inl ⟨by rfl, ?_⟩) hS ?_
  rotate_left
  · (intro W hs; go_simp; first | done | with_reducible rfl)
  try simp only [Act.put, List.getElem_toArray, List.getElem_cons_zero, List.getElem_cons_succ, List.setIfInBounds_toArray, List.set_cons_zero, List.set_cons_succ]
  refine wpAnyH_take (i := 3) (v := ?_) rfl (by kernel_rfl) (by kernel_rfl) (by kernel_rfl) (fun _ _ _ h => h) (Or.inl ⟨by rfl, ?_⟩) hS ?_
  rotate_left
  · (intro W hs; go_simp; first | done | with_reducible rfl)
  try simp only [Act.put, List.getElem_toArray, List.getElem_cons_zero, List.getElem_cons_succ, List.setIfInBounds_toArray, List.set_cons_zero, List.set_cons_succ]
  refine wpAnyH_take (i := 4) (v := ?_) rfl (by kernel_rfl) (by kernel_rfl) (by kernel_rfl) (fun _ _ _ h => h) (Or.inl ⟨by rfl, ?_⟩) hS ?_
  rotate_left
  · (intro W hs; go_simp; first | done | with_reducible rfl)
  try simp only [Act.put, List.getElem_toArray, List.getElem_cons_zero, List.getElem_cons_succ, List.setIfInBounds_toArray, List.set_cons_zero, List.set_cons_succ]
  refine wpAnyH_take (i := 5) (v := ?_) rfl (by kernel_rfl) (by kernel_rfl) (by kernel_rfl) (fun _ _ _ h => h) (Or.inl ⟨by rfl, ?_⟩) hS ?_
  rotate_left
  · (intro W hs; go_simp; first | done | with_reducible rfl)
  try simp only [Act.put, List.getElem_toArray, List.getElem_cons_zero, List.getElem_cons_succ, List.setIfInBounds_toArray, List.set_cons_zero, List.set_cons_succ]
  refine wpAnyH_take (i := 6) (v := ?_) rfl (by kernel_rfl) (by kernel_rfl) (by kernel_rfl) (fun _ _ _ h => h) (Or.inl ⟨by rfl, ?_⟩) hS ?_
  rotate_left
  · (intro W hs; go_simp; first | done | with_reducible rfl)
  try simp only [Act.put, List.getElem_toArray, List.getElem_cons_zero, List.getElem_cons_succ, List.setIfInBounds_toArray, List.set_cons_zero, List.set_cons_succ]
  refine wpAnyH_take (i := 7) (v := ?_) rfl (by kernel_rfl) (by kernel_rfl) (by kernel_rfl) (fun _ _ _ h => h) (Or.inl ⟨by rfl, ?_⟩) hS ?_
  rotate_left
  · (intro W hs; go_simp; first | done | with_reducible rfl)
  try simp only [Act.put, List.getElem_toArray, List.getElem_cons_zero, List.getElem_cons_succ, List.setIfInBounds_toArray, List.set_cons_zero, List.set_cons_succ]
  refine wpAnyH_take (i := 8) (v := ?_) rfl (by kernel_rfl) (by kernel_rfl) (by kernel_rfl) (fun _ _ _ h => h) (Or.inl ⟨by rfl, ?_⟩) hS ?_
  rotate_left
  · (intro W hs; go_simp; first | done | with_reducible rfl)
  try simp only [Act.put, List.getElem_toArray, List.getElem_cons_zero, List.getElem_cons_succ, List.setIfInBounds_toArray, List.set_cons_zero, List.set_cons_succ]
  refine wpH_one (i := 9) (by kernel_rfl) rfl (fun K hK => ?_)
  go_simp
  refine hK.out _ _ (hS.alloc _) (fun hS' => ?_)
  clear hK K hS
  have hS := hS'
  clear hS'
  try simp only [Act.put, List.getElem_toArray, List.getElem_cons_zero, List.getElem_cons_succ, List.setIfInBounds_toArray, List.set_cons_zero, List.set_cons_succ]
  refine wpH_one (i := 10) (by kernel_rfl) rfl (fun K hK => ?_)
  go_simp
  refine hK.out _ _ (hS) (fun hS' => ?_)
  clear hK K hS
  have hS := hS'
  clear hS'
  try simp only [Act.put, List.getElem_toArray, List.getElem_cons_zero, List.getElem_cons_succ, List.setIfInBounds_toArray, List.set_cons_zero, List.set_cons_succ]
  refine wpH_one (i := 11) (by kernel_rfl) rfl (fun K hK => ?_)
  go_simp
  refine hK.out _ _ (hS) (fun hS' => ?_)
  clear hK K hS
  have hS := hS'
  clear hS'
  try simp only [Act.put, List.getElem_toArray, List.getElem_cons_zero, List.getElem_cons_succ, List.setIfInBounds_toArray, List.set_cons_zero, List.set_cons_succ]
  refine wpAnyH_done (by kernel_rfl) ?_ _
  have HF := Lib.hid (HX.out.trans hS)
  clear hS g0 g1 g2 g3 g4 s0
  go_wp2
  go_ret
  exact ⟨rfl, HF.out⟩
theorem info_row : (Try.prog.info? 22).map (fun i => (i.zero, i.size, i.bytes)) = some (some (.slice none 0 0), 1, 24) := by kernel_rfl
def nilRows (k : Nat) : Array Value := Array.replicate k (.slice none 0 0)
theorem makeRowsE {E : Int} {k : Nat} (h0 : 0 ≤ E) (h1 : E ≤ 1000000) (hk : E.toNat = k) (w : World) :
    (Instr.makeSlice 82 (.int .i64 E) (.int .i64 E)).run Try.prog w = .ok (.slice (some ⟨w.heap.size, 0, none⟩) k k) (w.alloc (.cells (nilRows k) 22)) := by
  obtain ⟨i, hi, hz, hs, hb⟩ := info_parts info_row
  have := run_make (P := Try.prog) w 82 22 i _ Try.underlying82 hi hz .i64 .i64 E E h0 (Int.le_refl _) (by rw [hb]; omega) (by omega)
  rw [this, hk, hs]
  have e : madeCells (Value.slice none 0 0).cells (k * 1) = nilRows k := by
    apply Array.ext'
    rw [show (Value.slice none 0 0).cells = #[.slice none 0 0] from rfl, toList_madeCells_one]
    simp [nilRows]
  rw [e]
theorem heap4 (w : World) (p q r s : Obj) : ((((w.alloc p).alloc q).alloc r).alloc s).heap[w.heap.size]? = some p ∧ ((((w.alloc p).alloc q).alloc r).alloc s).heap[w.heap.size + 1]? = some q ∧
    ((((w.alloc p).alloc q).alloc r).alloc s).heap[w.heap.size + 2]? = some r ∧ ((((w.alloc p).alloc q).alloc r).alloc s).heap[w.heap.size + 3]? = some s := by
  have a := @MapKept.heap_alloc
  have z1 : (w.alloc p).heap.size = w.heap.size + 1 := by simp
  have z2 : ((w.alloc p).alloc q).heap.size = w.heap.size + 2 := by simp
  have z3 : (((w.alloc p).alloc q).alloc r).heap.size = w.heap.size + 3 := by simp
  refine ⟨?_, ?_, ?_, ?_⟩
  · rw [(a _ s).2 _ (by omega), (a _ r).2 _ (by omega), (a _ q).2 _ (by omega), (a w p).1]
  · rw [(a _ s).2 _ (by omega), (a _ r).2 _ (by omega), ← z1, (a _ q).1]
  · rw [(a _ s).2 _ (by omega), ← z2, (a _ r).1]
  · rw [← z3, (a _ s).1]
theorem rows_nil {W : World} {n sb : Nat} {D : Nat → Prop} (h : W.heap[sb]? = some (.cells (nilRows n) 22 (0, 0))) (hd : D sb) : RowsV W D sb n fun _ => [] := by
  refine ⟨hd, fun _ => .slice none 0 0, fun i hi => ⟨?_, ?_, OwnT.nil _ _, fun g hg => by cases hg⟩, fun i j g _ _ hg _ => by cases hg⟩
  · rw [cell_of_row _ _ _ _ _ _ h]; simp [nilRows, hi]
  · simp [World.frozen?, h]
theorem made_graph {W w : World} {b ob ib mb n : Nat} (hf : Fx No w W) (hb : W.heap[b]? = some (.cells #[.slice (some ⟨ob, 0, none⟩) n n, .slice (some ⟨ib, 0, none⟩) n n, .map (some mb)] 90 (0, 0)))
    (ho : W.heap[ob]? = some (.cells (nilRows n) 22 (0, 0))) (hi : W.heap[ib]? = some (.cells (nilRows n) 22 (0, 0))) (hm : W.heap[mb]? = some (.map #[] 0))
    (h1 : w.heap.size ≤ b) (h2 : w.heap.size ≤ ob) (h3 : w.heap.size ≤ ib) (h4 : w.heap.size ≤ mb) (hoi : ob ≠ ib) (hob : ob ≠ b) (hib : ib ≠ b) (hom : ob ≠ mb) (him : ib ≠ mb) (hbm : b ≠ mb) (hn : n ≤ 70000) : GraphV W (Iv w.heap.size W.heap.size) b n [] := by
  have lt : ∀ {k : Nat} {x : Obj}, W.heap[k]? = some x → k < W.heap.size := fun h => (Array.getElem?_eq_some_iff.1 h).1
  refine ⟨Asc.nil, by simp, by simp, hn, fun x hx => hx.2, ob, ib, mb, fun x => x = ob, fun x => x = ib, ?_⟩
  have e1 : outE [] = fun _ => [] := by funext i; rfl
  have e2 : inE [] = fun _ => [] := by funext i; rfl
  exact { db := ⟨h1, lt hb⟩, dm := ⟨h4, lt hm⟩, dO := by rintro x rfl; exact ⟨h2, lt ho⟩, dI := by rintro x rfl; exact ⟨h3, lt hi⟩, ap := by rintro x rfl; exact hoi,
          bO := fun e => hob e.symm, bI := fun e => hib e.symm, mO := fun e => hom e.symm, mI := fun e => him e.symm, bm := hbm,
          c0 := by rw [cell_of_row _ _ _ _ _ _ hb]; rfl, c1 := by rw [cell_of_row _ _ _ _ _ _ hb]; rfl, c2 := by rw [cell_of_row _ _ _ _ _ _ hb]; rfl,
          outs := by rw [e1]; exact rows_nil ho rfl, ins := by rw [e2]; exact rows_nil hi rfl,
          map := ⟨by simp, _, ⟨#[], 0, hm, ⟨by simp, MapKept.stamped_empty 0, by simp⟩, Nat.le_refl _, rfl⟩, fun e _ => by simp [Maps.has], rfl, fun kl h => by simp [Maps.has] at h⟩ }
set_option maxRecDepth 100000 in
set_option maxHeartbeats 2000000 in
theorem gMade_any (n : Nat) (w : World) (hn : n ≤ 70000) : Calls Try.prog 40 #[.int .i64 (n : Nat)] w fun e w' => ∃ b, e = .returned (.pointer (some ⟨b, 0, none⟩)) ∧ Fx No w w' ∧ GraphV w' (Iv w.heap.size w'.heap.size) b n [] := by
  have hm1 := makeRowsE (E := (n : Int)) (k := n) (by omega) (by omega) (by omega)
  have hmm := @run_makeMap Try.prog
  go_enter Try.func40, Try.ntmps40
  go_wp2
  go_region
  all_goals
    go_wp2
    go_ret
    refine ⟨_, rfl, by repeat (first | exact Fx.refl _ _ | apply Fx.alloc | apply Fx.drew | apply Fx.drewN), ?_⟩
    refine made_graph (by repeat (first | exact Fx.refl _ _ | apply Fx.alloc | apply Fx.drew | apply Fx.drewN)) (heap4 _ _ _ _ _).2.2.2 ?_ ?_ ?_ (by omega) (by omega) (by omega) (by omega) (by omega) (by omega) (by omega) (by omega) (by omega) (by omega) hn
    all_goals first | exact (heap4 _ _ _ _ _).1 | exact (heap4 _ _ _ _ _).2.1 | exact (heap4 _ _ _ _ _).2.2.1
theorem gNew_any (n : Nat) (w : World) (hn : n ≤ 65536) : Calls Try.prog 27 #[.int .i64 (n : Nat)] w fun e w' => ∃ b, e = .returned (.tuple #[.pointer (some ⟨b, 0, none⟩), .int .i64 0]) ∧ Fx No w w' ∧ GraphV w' (Iv w.heap.size w'.heap.size) b n [] := by
  have d1 : decide ((n : Int) < 0) = false := decide_eq_false (by omega)
  have d2 : decide ((65536 : Int) < (n : Int)) = false := decide_eq_false (by omega)
  go_enter Try.func27, Try.ntmps27
  go_wp2_with fail
  refine (gMade_any n w (by omega)).mono ?_
  rintro e w' ⟨b, rfl, hf, hg⟩
  have HF := Lib.hid hf
  have HG := Lib.hid hg
  clear hf hg
  go_wp2
  go_ret2
  exact ⟨b, rfl, HF.out, HG.out⟩
theorem gNew_no (n : Int) (w : World) (hn : n < 0 ∨ 65536 < n) : Calls Try.prog 27 #[.int .i64 n] w fun e w' => e = .returned (.tuple #[.pointer none, .int .i64 2]) ∧ w = w' := by
  by_cases h : n < 0
  · have d1 : decide (n < 0) = true := decide_eq_true h
    clear hn
    go_enter Try.func27, Try.ntmps27
    go_wp2
    go_ret2
    exact ⟨rfl, rfl⟩
  · have d1 : decide (n < 0) = false := decide_eq_false h
    have d2 : decide ((65536 : Int) < n) = true := decide_eq_true (by omega)
    clear hn
    go_enter Try.func27, Try.ntmps27
    go_wp2
    go_ret2
    exact ⟨rfl, rfl⟩
end
#print axioms gHas_any
#print axioms gMade_any
#print axioms gNew_no
end Go.Proofs.Yteafkafkbipcmaa

namespace Go.Proofs.Yteafkafkbipcmaa
open Go.RowKit
set_option linter.unusedVariables false

def catR (rr : Nat → List Ed) (n : Nat) : List Ed := (List.range n).flatMap rr
theorem catR_succ (rr : Nat → List Ed) (n : Nat) : catR rr (n + 1) = catR rr n ++ rr n := by simp [catR, List.range_succ]
theorem catR_mono (rr : Nat → List Ed) {k n : Nat} (h : k ≤ n) : (catR rr k).length ≤ (catR rr n).length := by
  induction n with
  | zero => obtain rfl : k = 0 := by omega
            exact Nat.le_refl _
  | succ n ih =>
    by_cases hk : k = n + 1
    · subst hk; exact Nat.le_refl _
    · have := ih (by omega)
      rw [catR_succ, List.length_append]; omega
section
variable {w w' : World} {D S T : Nat → Prop} {b n : Nat} {L : List Ed}
set_option maxRecDepth 100000 in
theorem grow_any (n : Nat) (w : World) (hn : n ≤ 1000000) : Calls Try.prog 57 #[.slice none 0 0, .int .i64 (n : Nat)] w fun e w' => ∃ v', e = .returned v' ∧ Fx No w w' ∧ OwnT 57 e3 3 w' w.heap.size v' [] := by
  have d0 : decide ((n : Int) < 0) = false := decide_eq_false (by omega)
  by_cases h0 : n = 0
  · subst h0
    go_enter Try.func57, Try.ntmps57
    go_wp2
    go_ret
    exact ⟨_, rfl, Fx.refl _ _, OwnT.nil _ _⟩
  · obtain ⟨ii, hi, hz, hs, hb⟩ := info_edge'
    have hrun : ∀ ty, (Builtin.append_ #[22, 3] ty #[.slice none 0 0, .int .i64 n]).run Try.prog w = _ := fun ty => Lib.run_append_nil_zeros (P := Try.prog) w 22 3 ty 57 ii _ .i64 .i64 Try.underlying22 Try.underlying3 hi hz n (by omega) (by omega) (by omega) (by rw [hb]; omega)
    obtain ⟨G, hG⟩ : ∃ G, G = grownCap w n 0 57 := ⟨_, rfl⟩
    have hG1 : n ≤ G := by rw [hG]; exact grownCap_ge _ _ _ _
    have hG2 : G ≤ maxLen := by rw [hG]; exact grownCap_le_maxLen _ _ _ _ (by unfold maxLen; omega)
    rw [← hG] at hrun
    obtain ⟨row, hrow⟩ : ∃ row : Array Value, row = Builtin.zeroCells (Value.agg #[.int .i64 0, .int .i64 0, .int .i64 0]).cells n ++ Builtin.zeroCells (Value.agg #[.int .i64 0, .int .i64 0, .int .i64 0]).cells (G - n) := ⟨_, rfl⟩
    have hrl : row.size = G * 3 := by
      have hsz : (Value.agg #[.int .i64 0, .int .i64 0, .int .i64 0]).cells.size = 3 := rfl
      rw [hrow, Array.size_append, size_zeroCells, size_zeroCells, hsz]; omega
    rw [← hrow] at hrun
    have d1 : decide ((0 : Int) < (n : Int)) = true := decide_eq_true (by omega)
    have hG3 : G ≤ 9223372036854775807 := by unfold maxLen at hG2; exact hG2
    have HO : Hid (OwnT 57 e3 3 (w.drew.alloc (.cells row 57)) w.heap.size (.slice (some ⟨w.heap.size, 0, none⟩) 0 G) []) := Lib.hid
      ⟨rfl, .inr ⟨w.heap.size, G, row, rfl, Nat.le_refl _, by show (w.heap.push _)[w.heap.size]? = _; simp, Nat.zero_le _, hG2, hrl, by simp; rfl⟩⟩
    have HF : Hid (Fx No w (w.drew.alloc (.cells row 57))) := Lib.hid ((Fx.refl No w).drew.alloc _)
    clear hG hrow hG2
    go_enter Try.func57, Try.ntmps57
    go_wp2_with (at_builtin; refine Lib.wpList_append_run _ rfl _ _ _ _ rfl _ _ rfl rfl _ _ (hrun _) ?_)
    go_ret
    exact ⟨_, rfl, HF.out, HO.out⟩
set_option maxRecDepth 100000 in
set_option maxHeartbeats 1000000 in
theorem concat_any {sb : Nat} {rr : Nat → List Ed} (h : RowsV w D sb n rr) (hn : n ≤ 70000) (hl : (catR rr n).length ≤ 1000000) :
    Calls Try.prog 50 #[.slice (some ⟨sb, 0, none⟩) n n] w fun e w' => ∃ v', e = .returned v' ∧ Fx No w w' ∧ OwnT 57 e3 3 w' w.heap.size v' (catR rr n) := by
  obtain ⟨ii, hi, hz, hs, hb⟩ := info_edge'
  have H := Lib.hid h
  clear h
  go_enter Try.func50, Try.ntmps50
  go_wp2
  go_loop [3, 11] (fun s i => ∃ k : Nat, i = .int .i64 k ∧ k ≤ n ∧ s = .int .i64 ((catR rr k).length : Nat)) (fun _ i => n - (intOf i).toNat)
  case atStart => exact ⟨0, rfl, Nat.zero_le _, rfl⟩
  case round =>
    obtain ⟨k, rfl, hk, rfl⟩ := hrel
    by_cases hlt : k < n
    · obtain ⟨v, hv, hr⟩ := H.out.rowAt hlt
      obtain ⟨ao, cap, rfl, hcl, hcm, _⟩ := EdsV.facts hr
      have hk0 : (0 : Int) ≤ (k : Int) := by omega
      have hk1 : (k : Int) < (n : Int) := by omega
      have hs1 := catR_succ rr k
      have hm := catR_mono rr (show k + 1 ≤ n from hlt)
      rw [hs1, List.length_append] at hm
      obtain ⟨A, hA⟩ : ∃ A, A = (catR rr k).length := ⟨_, rfl⟩
      obtain ⟨B, hB⟩ : ∃ A, A = (rr k).length := ⟨_, rfl⟩
      rw [← hA, ← hB] at hm
      rw [← hB] at hv hcl
      rw [← hA]
      have HS : Hid ((catR rr (k + 1)).length = A + B) := Lib.hid (by rw [hs1, List.length_append, hA, hB])
      have d1 : decide ((A : Int) + (B : Int) < 0) = false := decide_eq_false (by omega)
      have hw : IntKind.i64.wrap ((A : Int) + (B : Int)) = (A : Int) + (B : Int) := by rw [IntKind.wrap_i64]; omega
      clear hr hs1 hA hB
      go_wp2
      go_round
      case rel => exact ⟨k + 1, by go_num, by omega, by rw [HS.out]; go_num⟩
      case measure => simp [intOf]; omega
    · obtain rfl : k = n := by omega
      go_wp2_with fail
      refine (grow_any (catR rr k).length w hl).mono ?_
      rintro e w1 ⟨v1, rfl, hf, ho⟩
      have HF1 := Lib.hid hf
      have HO1 := Lib.hid ho
      clear hf ho
      go_wp2
      go_loopw [6, 27] (fun l i ws => ∃ q : Nat, i = .int .i64 q ∧ q ≤ k ∧ Fx No w ws ∧ OwnT 57 e3 3 ws w.heap.size l (catR rr q)) (fun _ i _ => k - (intOf i).toNat)
      case atStart => exact ⟨0, rfl, Nat.zero_le _, HF1.out, HO1.out⟩
      case round =>
        obtain ⟨q, rfl, hq, hf, ho⟩ := hrel
        have HF := Lib.hid hf
        have HO := Lib.hid ho
        have hzr := hf.size
        clear hf ho
        by_cases hlt : q < k
        · obtain ⟨v, hv, hr⟩ := H.out.rowAt hlt
          have hv' := HF.out.cell' hv (fun h => h)
          have HR := Lib.hid (hr.no HF.out)
          have hk0 : (0 : Int) ≤ (q : Int) := by omega
          have hk1 : (q : Int) < (k : Int) := by omega
          have hs1 := catR_succ rr q
          have hm := catR_mono rr (show q + 1 ≤ k from hlt)
          rw [hs1, List.length_append] at hm
          have HS := Lib.hid hs1
          clear hv hr hs1
          go_wp2_with (at_builtin; refine wpList_append_sl rfl _ _ 22 rfl w.heap.size 57 Try.underlying22 hi hz hs hb rfl (by decide) rfl HO.out rfl HR.out (icells_one _) (by unfold maxLen; omega) (by omega) hzr ?_)
          intro v2 w2 ho hf _
          have HO2 : Hid (OwnT 57 e3 3 w2 w.heap.size v2 (catR rr (q + 1))) := Lib.hid (by
            rw [HS.out]; unfold OwnT; rw [icells_append, List.length_append]; exact ho)
          have HF2 : Hid (Fx No w w2) := Lib.hid (HF.out.trans' hf fun j h1 h2 => by have := (HO.out.lt h1).1; omega)
          clear ho hf
          go_wp2
          go_roundw
          case rel => exact ⟨q + 1, by go_num, by omega, HF2.out, HO2.out⟩
          case measure => simp [intOf]; omega
        · obtain rfl : q = k := by omega
          go_wp2
          go_ret
          exact ⟨_, rfl, HF.out, HO.out⟩
theorem catR_out (L : List Ed) (n : Nat) : catR (outE L) n = catE L n := rfl
theorem gEdges_any (h : GraphV w D b n L) : Calls Try.prog 35 #[.pointer (some ⟨b, 0, none⟩)] w fun e w' => ∃ v', e = .returned v' ∧ Fx No w w' ∧ OwnT 57 e3 3 w' w.heap.size v' L := by
  have H := Lib.hid h
  obtain ⟨ob, ib, mb, DO, DI, hp⟩ := h.ex
  have HP := Lib.hid hp
  have hcat : catR (outE L) n = L := catE_all h.asc fun x hx => (h.nodes x hx).1
  have HCat := Lib.hid hcat
  clear h hp hcat
  go_enter Try.func35, Try.ntmps35
  have c0 := HP.out.c0
  go_wp2_with fail
  refine (concat_any HP.out.outs H.out.nn (by rw [HCat.out]; exact H.out.small)).mono ?_
  rintro e w' ⟨v', rfl, hf, ho⟩
  have HF := Lib.hid hf
  have HO : Hid (OwnT 57 e3 3 w' w.heap.size v' L) := Lib.hid (by rw [HCat.out] at ho; exact ho)
  clear hf ho
  go_wp2
  go_ret
  exact ⟨_, rfl, HF.out, HO.out⟩
end
#print axioms gEdges_any
#print axioms grow_any
#print axioms concat_any
end Go.Proofs.Yteafkafkbipcmaa

namespace Go.Proofs.Yteafkafkbipcmaa
open Go.RowKit
set_option linter.unusedVariables false

section
variable {w w' : World} {D S T : Nat → Prop} {b n : Nat} {L : List Ed} {ob ib mb : Nat} {DO DI : Nat → Prop}
theorem DU.lt {D : Nat → Prop} {w w' : World} (h : ∀ x, D x → x < w.heap.size) (hs : w.heap.size ≤ w'.heap.size) : ∀ x, DU D w w' x → x < w'.heap.size := by
  rintro x (hx | hx)
  · have := h x hx; omega
  · exact hx.2
theorem GraphV.mono (h : GraphV w D b n L) (hd : ∀ k, D k → T k) (ht : ∀ k, T k → k < w.heap.size) : GraphV w T b n L := by
  obtain ⟨ob, ib, mb, DO, DI, hp⟩ := h.ex
  exact ⟨h.asc, h.nodes, h.small, h.nn, ht, ob, ib, mb, DO, DI, { hp with db := hd _ hp.db, dm := hd _ hp.dm, dO := fun x hx => hd x (hp.dO x hx), dI := fun x hx => hd x (hp.dI x hx) }⟩
theorem GraphV.du (h : GraphV w D b n L) (hf : Fx No w w') : GraphV w' (DU D w w') b n L := (h.no hf).mono (fun _ => .inl) (DU.lt h.lt hf.size)
/-- behind a turn of the map, of a row out, of a row in -/
theorem gparts_step {wc wd we wf : World} {L' : List Ed} {i j : Nat} {xo xi : List Ed} (h : GParts wc D b n L ob ib mb DO DI) (hlt : ∀ x, D x → x < wc.heap.size) (hm : MapE wd mb L') (f1 : Fx (fun k => k = mb) wc wd)
    (ho : RowsV we (DU DO wd we) ob n (upd (outE L) i xo)) (f2 : Fx DO wd we) (hi : RowsV wf (DU DI we wf) ib n (upd (inE L) j xi)) (f3 : Fx DI we wf)
    (eo : ∀ k, k < n → upd (outE L) i xo k = outE L' k) (ei : ∀ k, k < n → upd (inE L) j xi k = inE L' k) : GParts wf (DU D wc wf) b n L' ob ib mb (DU DO wd we) (DU DI we wf) ∧ Fx D wc wf := by
  have z1 := f1.size
  have z2 := f2.size
  have z3 := f3.size
  have ltO : ∀ x, DO x → x < wc.heap.size := fun x hx => hlt x (h.dO x hx)
  have ltI : ∀ x, DI x → x < wc.heap.size := fun x hx => hlt x (h.dI x hx)
  have lb := hlt _ h.db
  have lm := hlt _ h.dm
  have f13 : Fx D wc wf := ((f1.mono fun k _ hk => by have hk : k = mb := hk; rw [hk]; exact h.dm).trans (f2.mono fun k _ hk => h.dO k hk)).trans (f3.mono fun k _ hk => h.dI k hk)
  refine ⟨{ db := .inl h.db, dm := .inl h.dm, dO := ?_, dI := ?_, ap := ?_, bO := ?_, bI := ?_, mO := ?_, mI := ?_, bm := h.bm,
            c0 := f3.cell' (f2.cell' (f1.cell' h.c0 (fun e => h.bm e)) h.bO) h.bI, c1 := f3.cell' (f2.cell' (f1.cell' h.c1 (fun e => h.bm e)) h.bO) h.bI, c2 := f3.cell' (f2.cell' (f1.cell' h.c2 (fun e => h.bm e)) h.bO) h.bI,
            outs := (ho.congr eo).keep f3 ?_, ins := hi.congr ei, map := (hm.keep f2 h.mO).keep f3 h.mI }, f13⟩
  · rintro x (hx | ⟨h1, h2⟩)
    · exact .inl (h.dO x hx)
    · exact .inr ⟨by omega, by omega⟩
  · rintro x (hx | ⟨h1, h2⟩)
    · exact .inl (h.dI x hx)
    · exact .inr ⟨by omega, by omega⟩
  · rintro x (hx | ⟨h1, h2⟩) (hy | ⟨h3, h4⟩)
    · exact h.ap x hx hy
    · have := ltO x hx; omega
    · have := ltI x hy; omega
    · omega
  · rintro (hx | ⟨h1, h2⟩)
    · exact h.bO hx
    · omega
  · rintro (hx | ⟨h1, h2⟩)
    · exact h.bI hx
    · omega
  · rintro (hx | ⟨h1, h2⟩)
    · exact h.mO hx
    · omega
  · rintro (hx | ⟨h1, h2⟩)
    · exact h.mI hx
    · omega
  · rintro x (hx | ⟨h1, h2⟩) hy
    · exact h.ap x hx hy
    · have := ltI x hy; omega
theorem graph_end {w1 w4 : World} {L' : List Ed} {ob ib mb : Nat} {DO DI : Nat → Prop} (h : GraphV w D b n L) (f1 : Fx No w w1) (hz : GParts w4 (DU D w1 w4) b n L' ob ib mb DO DI ∧ Fx D w1 w4) (ha : Asc L') (hn : ∀ x ∈ L', (0 ≤ x.f ∧ x.f < (n : Int)) ∧ 0 ≤ x.t ∧ x.t < (n : Int)) (hs : L'.length ≤ 1000000) :
    Fx D w w4 ∧ GraphV w4 (DU D w w4) b n L' := by
  have z1 := f1.size
  have hp := hz.1
  have hd : ∀ x, DU D w1 w4 x → DU D w w4 x := by
    rintro x (hx | ⟨h1, h2⟩)
    · exact .inl hx
    · exact .inr ⟨by omega, h2⟩
  have hf : Fx D w w4 := f1.no.trans hz.2
  exact ⟨hf, ha, hn, hs, h.nn, DU.lt h.lt hf.size, ob, ib, mb, DO, DI, { hp with db := hd _ hp.db, dm := hd _ hp.dm, dO := fun x hx => hd x (hp.dO x hx), dI := fun x hx => hd x (hp.dI x hx) }⟩
theorem upd_out_del (ha : Asc L) {e : Ed} {i : Nat} (he : e.f = (i : Int)) (k : Nat) : upd (outE L) i (delE e (outE L i)) k = outE (delE e L) k := by
  rw [outE_del ha]
  unfold upd
  split
  · rename_i h; rw [h]
  · rename_i h; rw [delE_outE_other (by omega)]
theorem upd_in_del (ha : Asc L) {e : Ed} {i : Nat} (he : e.t = (i : Int)) (k : Nat) : upd (inE L) i (delE e (inE L i)) k = inE (delE e L) k := by
  rw [inE_del ha]
  unfold upd
  split
  · rename_i h; rw [h]
  · rename_i h; rw [delE_inE_other (by omega)]
theorem upd_out_ins (ha : Asc L) {e : Ed} {i : Nat} (he : e.f = (i : Int)) (k : Nat) : upd (outE L) i (insE e (outE L i)) k = outE (insE e L) k := by
  rw [outE_ins ha]
  unfold upd
  split
  · rename_i h; rw [if_pos (by omega), h]
  · rename_i h; rw [if_neg (by omega)]
theorem upd_in_ins (ha : Asc L) {e : Ed} {i : Nat} (he : e.t = (i : Int)) (k : Nat) : upd (inE L) i (insE e (inE L i)) k = inE (insE e L) k := by
  rw [inE_ins ha]
  unfold upd
  split
  · rename_i h; rw [if_pos (by omega), h]
  · rename_i h; rw [if_neg (by omega)]
end
end Go.Proofs.Yteafkafkbipcmaa
