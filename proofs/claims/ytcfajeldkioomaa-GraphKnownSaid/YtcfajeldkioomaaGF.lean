/- graph: put, drop, of. -/
import Derived.Test.YtcfajeldkioomaaGE
namespace Go.Proofs.Ytcfajeldkioomaa
open Go.RowKit
set_option linter.unusedVariables false

theorem DU.setCell {D : Nat → Prop} {w w2 : World} {a : Addr} {v : Value} : DU D w (w2.setCell a v) = DU D w w2 := by
  funext k
  simp [DU, World.setCell]
section
variable {w w' : World} {D S T : Nat → Prop} {sb n : Nat} {rr : Nat → List Ed}
set_option maxRecDepth 100000 in
set_option maxHeartbeats 2000000 in
theorem put_any {b o i : Nat} (hc : w.cell? ⟨b, o, none⟩ = some (.slice (some ⟨sb, 0, none⟩) n n)) (h : RowsV w D sb n rr) (hi : i < n) (hn : n ≤ 70000) (ha : Asc (rr i)) (hl : (rr i).length ≤ 1000000) (hb : ¬ D b) (e : Ed) (he : e ∉ rr i) :
    Calls Try.prog 50 #[.pointer (some ⟨b, o, none⟩), .int .i64 (i : Nat), evE e] w fun r w' => r = .returned (.tuple #[]) ∧ Fx D w w' ∧ RowsV w' (DU D w w') sb n (upd rr i (insE e (rr i))) := by
  obtain ⟨hsD, vs, h2, h3⟩ := h
  have hRi := h2 i hi
  have HRs := Lib.hid (fun j (hj : j < n) => h2 j hj)
  have H3 := Lib.hid h3
  have HsD := Lib.hid hsD
  have HNb := Lib.hid hb
  have HRi := Lib.hid hRi
  obtain ⟨vi, hvi⟩ : ∃ v, v = vs i := ⟨_, rfl⟩
  rw [← hvi] at HRi
  obtain ⟨xs, hxs⟩ : ∃ xs, xs = rr i := ⟨_, rfl⟩
  rw [← hxs] at HRi ha hl he
  have HVi := Lib.hid hvi
  have HXs := Lib.hid hxs
  have HA := Lib.hid ha
  have HE := Lib.hid he
  have hsb : sb < w.heap.size := World.block_lt_of_cell? w _ HRi.out.cell
  have hbw : b < w.heap.size := World.block_lt_of_cell? w _ hc
  have HC0 := Lib.hid hc
  have hrow : EdsV w (fun b => vi.ownBlock = some b) vi xs := SlV.own HRi.out.own
  have HRow := Lib.hid hrow
  have hpl := posE_le e xs
  obtain ⟨p, hp⟩ : ∃ p, p = posE e xs := ⟨_, rfl⟩
  rw [← hp] at hpl
  have HP := Lib.hid hp
  have hin0 : (0 : Int) ≤ (i : Int) := by omega
  have hin1 : (i : Int) < (n : Int) := by omega
  unfold evE
  clear hsD h2 h3 hRi hvi hxs ha he hc hrow hb hp
  go_enter Try.func50, Try.ntmps50
  go_wp2_with fail
  refine wp_hold (fun W => Fx No w W ∧ W.cell? ⟨w.heap.size, 0, none⟩ = some (.int .i64 e.f) ∧ W.cell? ⟨w.heap.size, 1, none⟩ = some (.int .i64 e.t) ∧ W.cell? ⟨w.heap.size, 2, none⟩ = some (.int .i64 e.l)) ⟨(Fx.refl No w).alloc _, by go_simp, by go_simp, by go_simp⟩ ?_
  rintro wx ⟨hfx, c0, c1, c2⟩
  obtain ⟨q, hq⟩ : ∃ q, q = w.heap.size := ⟨_, rfl⟩
  rw [← hq] at c0 c1 c2 ⊢
  have HX := Lib.hid hfx
  have s0 : Fx No wx wx := Fx.refl _ _
  have Hq := Lib.hid hq
  have HQ0 := Lib.hid c0
  have HQ1 := Lib.hid c1
  have HQ2 := Lib.hid c2
  have hqg : Hid (∀ g, vi.ownBlock = some g → g ≠ q) := Lib.hid fun g hg e => by have := HRi.out.own.lt hg; rw [Hq.out] at e; omega
  clear hfx hq c0 c1 c2
  have r0 := HX.out.cell' HC0.out (fun h => h)
  have r1 := HX.out.cellF HRi.out.cell HRi.out.live (fun h => h)
  obtain ⟨r1, r2⟩ := r1
  have g0 : ∀ W, Fx No wx W → W.cell? ⟨q, 0, none⟩ = some (.int .i64 e.f) := fun W h => h.cell' HQ0.out (fun h => h)
  have g1 : ∀ W, Fx No wx W → W.cell? ⟨q, 1, none⟩ = some (.int .i64 e.t) := fun W h => h.cell' HQ1.out (fun h => h)
  have g2 : ∀ W, Fx No wx W → W.cell? ⟨q, 2, none⟩ = some (.int .i64 e.l) := fun W h => h.cell' HQ2.out (fun h => h)
  have g3 : ∀ W, Fx No wx W → W.cell? ⟨b, o, none⟩ = some (.slice (some ⟨sb, 0, none⟩) n n) := fun W h => h.cell' r0 (fun h => h)
  have g4 : ∀ W, Fx No wx W → W.cell? ⟨sb, i, none⟩ = some vi := fun W h => h.cell' r1 (fun h => h)
  have CB : Hid (∀ W, Fx No wx W → Calls Try.prog 62 #[vi, (.agg #[.int .i64 e.f, .int .i64 e.t, .int .i64 e.l]), .func (.func 17) #[] #[]] W fun r w' => r = .returned (.tuple #[.int .i64 (p : Nat), .bool (decide (e ∈ xs))]) ∧ Fx No W w') := Lib.hid fun W h => by rw [HP.out]; exact bsearch_any (HRow.out.no (HX.out.trans h)) hl HA.out e
  have hde : decide (e ∈ xs) = false := decide_eq_false HE.out
  rw [hde] at CB
  clear hde
  refine wp_region_H (fun W => Fx No wx W) (by kernel_rfl) s0.drew ?_
  intro hS
  refine wpAnyH_take (i := 0) (v := ?_) rfl (by kernel_rfl) (by kernel_rfl) (by kernel_rfl) (fun _ _ _ h => h) (Or.inl ⟨by rfl, ?_⟩) hS ?_
  rotate_left
  · (intro W hs; go_simp; first | done | with_reducible rfl)
  try simp only [Act.put, List.getElem_toArray, List.getElem_cons_zero, List.getElem_cons_succ, List.setIfInBounds_toArray, List.set_cons_zero, List.set_cons_succ]
  refine wpAnyH_take (i := 1) (v := ?_) rfl (by kernel_rfl) (by kernel_rfl) (by kernel_rfl) (fun _ _ _ h => h) (Or.inl ⟨by rfl, ?_⟩) hS ?_
  rotate_left
  · (intro W hs; go_simp; first | done | with_reducible rfl)
  try simp only [Act.put, List.getElem_toArray, List.getElem_cons_zero, List.getElem_cons_succ, List.setIfInBounds_toArray, List.set_cons_zero, List.set_cons_succ]
  refine wpAnyH_take (i := 2) (v := ?_) rfl (by kernel_rfl) (by kernel_rfl) (by kernel_rfl) (fun _ _ _ h => h) (Or.inl ⟨by rfl, ?_⟩) hS ?_
  rotate_left
  · (intro W hs; go_simp; first | done | with_reducible rfl)
  try simp only [Act.put, List.getElem_toArray, List.getElem_cons_zero, List.getElem_cons_succ, List.setIfInBounds_toArray, List.set_cons_zero, List.set_cons_succ]
  refine wpAnyH_take (i := 3) (v := ?_) rfl (by kernel_rfl) (by kernel_rfl) (by kernel_rfl) (fun _ _ _ h => h) (Or.inl ⟨by rfl, ?_⟩) hS ?_
  rotate_left
  · (intro W hs; go_simp; first | done | with_reducible rfl)
  try simp only [Act.put, List.getElem_toArray, List.getElem_cons_zero, List.getElem_cons_succ, List.setIfInBounds_toArray, List.set_cons_zero, List.set_cons_succ]
  refine wpAnyH_take (i := 4) (v := ?_) rfl (by kernel_rfl) (by kernel_rfl) (by kernel_rfl) (fun _ _ _ h => h) (Or.inl ⟨by rfl, ?_⟩) hS ?_
  rotate_left
  · (intro W hs; go_simp; first | done | with_reducible rfl)
  try simp only [Act.put, List.getElem_toArray, List.getElem_cons_zero, List.getElem_cons_succ, List.setIfInBounds_toArray, List.set_cons_zero, List.set_cons_succ]
  refine wpAnyH_take (i := 5) (v := ?_) rfl (by kernel_rfl) (by kernel_rfl) (by kernel_rfl) (fun _ _ _ h => h) (Or.inl ⟨by rfl, ?_⟩) hS ?_
  rotate_left
  · (intro W hs; go_simp; first | done | with_reducible rfl)
  try simp only [Act.put, List.getElem_toArray, List.getElem_cons_zero, List.getElem_cons_succ, List.setIfInBounds_toArray, List.set_cons_zero, List.set_cons_succ]
  refine wpAnyH_take (i := 6) (v := ?_) rfl (by kernel_rfl) (by kernel_rfl) (by kernel_rfl) (fun _ _ _ h => h) (Or.inl ⟨by rfl, ?_⟩) hS ?_
  rotate_left
  · (intro W hs; go_simp; first | done | with_reducible rfl)
  try simp only [Act.put, List.getElem_toArray, List.getElem_cons_zero, List.getElem_cons_succ, List.setIfInBounds_toArray, List.set_cons_zero, List.set_cons_succ]
  refine wpAnyH_take (i := 7) (v := ?_) rfl (by kernel_rfl) (by kernel_rfl) (by kernel_rfl) (fun _ _ _ h => h) (Or.inl ⟨by rfl, ?_⟩) hS ?_
  rotate_left
  · (intro W hs; go_simp; first | done | with_reducible rfl)
  try simp only [Act.put, List.getElem_toArray, List.getElem_cons_zero, List.getElem_cons_succ, List.setIfInBounds_toArray, List.set_cons_zero, List.set_cons_succ]
  refine wpH_one (i := 8) (by kernel_rfl) rfl (fun K hK => ?_)
  go_simp
  refine (CB.out _ hS).mono ?_
  rintro e' wy ⟨rfl, hfi⟩
  refine hK.out _ _ (hS.trans hfi) (fun hS' => ?_)
  clear hK K hS hfi
  have hS := hS'
  clear hS'
  try simp only [Act.put, List.getElem_toArray, List.getElem_cons_zero, List.getElem_cons_succ, List.setIfInBounds_toArray, List.set_cons_zero, List.set_cons_succ]
  refine wpAnyH_take (i := 9) (v := ?_) rfl (by kernel_rfl) (by kernel_rfl) (by kernel_rfl) (fun _ _ _ h => h) (Or.inl ⟨by rfl, ?_⟩) hS ?_
  rotate_left
  · (intro W hs; go_simp; first | done | with_reducible rfl)
  try simp only [Act.put, List.getElem_toArray, List.getElem_cons_zero, List.getElem_cons_succ, List.setIfInBounds_toArray, List.set_cons_zero, List.set_cons_succ]
  refine wpAnyH_take (i := 10) (v := ?_) rfl (by kernel_rfl) (by kernel_rfl) (by kernel_rfl) (fun _ _ _ h => h) (Or.inl ⟨by rfl, ?_⟩) hS ?_
  rotate_left
  · (intro W hs; go_simp; first | done | with_reducible rfl)
  try simp only [Act.put, List.getElem_toArray, List.getElem_cons_zero, List.getElem_cons_succ, List.setIfInBounds_toArray, List.set_cons_zero, List.set_cons_succ]
  refine wpAnyH_take (i := 11) (v := ?_) rfl (by kernel_rfl) (by kernel_rfl) (by kernel_rfl) (fun _ _ _ h => h) (Or.inl ⟨by rfl, ?_⟩) hS ?_
  rotate_left
  · (intro W hs; go_simp; first | done | with_reducible rfl)
  try simp only [Act.put, List.getElem_toArray, List.getElem_cons_zero, List.getElem_cons_succ, List.setIfInBounds_toArray, List.set_cons_zero, List.set_cons_succ]
  refine wpAnyH_take (i := 12) (v := ?_) rfl (by kernel_rfl) (by kernel_rfl) (by kernel_rfl) (fun _ _ _ h => h) (Or.inl ⟨by rfl, ?_⟩) hS ?_
  rotate_left
  · (intro W hs; go_simp; first | done | with_reducible rfl)
  try simp only [Act.put, List.getElem_toArray, List.getElem_cons_zero, List.getElem_cons_succ, List.setIfInBounds_toArray, List.set_cons_zero, List.set_cons_succ]
  refine wpAnyH_take (i := 13) (v := ?_) rfl (by kernel_rfl) (by kernel_rfl) (by kernel_rfl) (fun _ _ _ h => h) (Or.inl ⟨by rfl, ?_⟩) hS ?_
  rotate_left
  · (intro W hs; go_simp; first | done | with_reducible rfl)
  try simp only [Act.put, List.getElem_toArray, List.getElem_cons_zero, List.getElem_cons_succ, List.setIfInBounds_toArray, List.set_cons_zero, List.set_cons_succ]
  refine wpAnyH_done (by kernel_rfl) ?_ _
  have HS := Lib.hid hS
  clear g0 g1 g2 g3 g4 CB hS s0
  go_wp2_with fail

  have s0 : Fx No wy wy := Fx.refl _ _
  have HXy := Lib.hid (HX.out.trans HS.out)
  have HDD : Hid (∀ g, vi.ownBlock = some g → D g ∧ g ≠ sb) := Lib.hid HRi.out.lie
  have g0 : ∀ W, Fx (fun g => vi.ownBlock = some g) wy W → W.cell? ⟨q, 0, none⟩ = some (.int .i64 e.f) := fun W h => h.cell' (HS.out.cell' HQ0.out (fun h => h)) (fun hg => hqg.out q hg rfl)
  have g1 : ∀ W, Fx (fun g => vi.ownBlock = some g) wy W → W.cell? ⟨q, 1, none⟩ = some (.int .i64 e.t) := fun W h => h.cell' (HS.out.cell' HQ1.out (fun h => h)) (fun hg => hqg.out q hg rfl)
  have g2 : ∀ W, Fx (fun g => vi.ownBlock = some g) wy W → W.cell? ⟨q, 2, none⟩ = some (.int .i64 e.l) := fun W h => h.cell' (HS.out.cell' HQ2.out (fun h => h)) (fun hg => hqg.out q hg rfl)
  have g3 : ∀ W, Fx (fun g => vi.ownBlock = some g) wy W → W.cell? ⟨b, o, none⟩ = some (.slice (some ⟨sb, 0, none⟩) n n) := fun W h => h.cell' (HS.out.cell' r0 (fun h => h)) (fun hg => HNb.out (HDD.out b hg).1)
  have g4 : ∀ W, Fx (fun g => vi.ownBlock = some g) wy W → W.cell? ⟨sb, i, none⟩ = some vi := fun W h => h.cell' (HS.out.cell' r1 (fun h => h)) (fun hg => (HDD.out sb hg).2 rfl)
  have g5 : ∀ W, Fx (fun g => vi.ownBlock = some g) wy W → W.frozen? ⟨sb, i, none⟩ = false := fun W h => (h.cellF (HS.out.cell' r1 (fun h => h)) ((HS.out.cellF r1 r2 (fun h => h)).2) (fun hg => (HDD.out sb hg).2 rfl)).2
  have CI : Hid (∀ W vb, Fx No wy W → EdB W vb e → wy.heap.size ≤ vb → Calls Try.prog 63 #[vi, .int .i64 (p : Nat), .slice (some ⟨vb, 0, none⟩) 1 1] W fun r w' => ∃ v', r = .returned v' ∧ Hid (OwnE w' v' (insE e (rr i))) ∧ Hid (Fx (fun g => vi.ownBlock = some g) W w') ∧ Hid (∀ g, v'.ownBlock = some g → vi.ownBlock = some g ∨ wy.heap.size ≤ g)) := Lib.hid fun W vb h hE hvb => (insert_any (HRi.out.own.no (HXy.out.trans h)) hl hpl hE (fun hg => by have h1 := HRi.out.own.lt hg; have h2 := HXy.out.size; omega)).mono fun r w' ⟨v', h1, h2, h3, h4⟩ => ⟨v', h1, Lib.hid (by rw [← HXs.out, insE_at HA.out HE.out, ← HP.out]; exact h2), Lib.hid h3, Lib.hid fun g hg => (h4 g hg).imp id (fun q => Nat.le_trans h.size q)⟩
  refine wp_region_G 17 (fun b W => b = false → Fx (fun g => vi.ownBlock = some g) wy W) (by kernel_rfl) (fun _ => s0.no.drew) ?_
  intro hS hC
  refine wpG_take (i := 0) (v := ?_) rfl (by kernel_rfl) (by kernel_rfl) (by kernel_rfl) (by kernel_rfl) (fun _ _ _ h => h) (by decide) (Or.inl ⟨by rfl, ?_⟩) hC hS ?_
  rotate_left
  · (intro W hc; have hf := hc rfl; go_simp; first | done | with_reducible rfl)
  clear hS hC
  intro hS hC
  try simp only [Act.put, List.getElem_toArray, List.getElem_cons_zero, List.getElem_cons_succ, List.setIfInBounds_toArray, List.set_cons_zero, List.set_cons_succ]
  refine wpG_take (i := 1) (v := ?_) rfl (by kernel_rfl) (by kernel_rfl) (by kernel_rfl) (by kernel_rfl) (fun _ _ _ h => h) (by decide) (Or.inl ⟨by rfl, ?_⟩) hC hS ?_
  rotate_left
  · (intro W hc; have hf := hc rfl; go_simp; first | done | with_reducible rfl)
  clear hS hC
  intro hS hC
  try simp only [Act.put, List.getElem_toArray, List.getElem_cons_zero, List.getElem_cons_succ, List.setIfInBounds_toArray, List.set_cons_zero, List.set_cons_succ]
  refine wpG_take (i := 2) (v := ?_) rfl (by kernel_rfl) (by kernel_rfl) (by kernel_rfl) (by kernel_rfl) (fun _ _ _ h => h) (by decide) (Or.inl ⟨by rfl, ?_⟩) hC hS ?_
  rotate_left
  · (intro W hc; have hf := hc rfl; go_simp; first | done | with_reducible rfl)
  clear hS hC
  intro hS hC
  try simp only [Act.put, List.getElem_toArray, List.getElem_cons_zero, List.getElem_cons_succ, List.setIfInBounds_toArray, List.set_cons_zero, List.set_cons_succ]
  refine wpG_take (i := 3) (v := ?_) rfl (by kernel_rfl) (by kernel_rfl) (by kernel_rfl) (by kernel_rfl) (fun _ _ _ h => h) (by decide) (Or.inl ⟨by rfl, ?_⟩) hC hS ?_
  rotate_left
  · (intro W hc; have hf := hc rfl; go_simp; first | done | with_reducible rfl)
  clear hS hC
  intro hS hC
  try simp only [Act.put, List.getElem_toArray, List.getElem_cons_zero, List.getElem_cons_succ, List.setIfInBounds_toArray, List.set_cons_zero, List.set_cons_succ]
  refine wpG_take (i := 4) (v := ?_) rfl (by kernel_rfl) (by kernel_rfl) (by kernel_rfl) (by kernel_rfl) (fun _ _ _ h => h) (by decide) (Or.inl ⟨by rfl, ?_⟩) hC hS ?_
  rotate_left
  · (intro W hc; have hf := hc rfl; go_simp; first | done | with_reducible rfl)
  clear hS hC
  intro hS hC
  try simp only [Act.put, List.getElem_toArray, List.getElem_cons_zero, List.getElem_cons_succ, List.setIfInBounds_toArray, List.set_cons_zero, List.set_cons_succ]
  refine wpG_take (i := 5) (v := ?_) rfl (by kernel_rfl) (by kernel_rfl) (by kernel_rfl) (by kernel_rfl) (fun _ _ _ h => h) (by decide) (Or.inl ⟨by rfl, ?_⟩) hC hS ?_
  rotate_left
  · (intro W hc; have hf := hc rfl; go_simp; first | done | with_reducible rfl)
  clear hS hC
  intro hS hC
  try simp only [Act.put, List.getElem_toArray, List.getElem_cons_zero, List.getElem_cons_succ, List.setIfInBounds_toArray, List.set_cons_zero, List.set_cons_succ]
  refine wpG_take (i := 6) (v := ?_) rfl (by kernel_rfl) (by kernel_rfl) (by kernel_rfl) (by kernel_rfl) (fun _ _ _ h => h) (by decide) (Or.inl ⟨by rfl, ?_⟩) hC hS ?_
  rotate_left
  · (intro W hc; have hf := hc rfl; go_simp; first | done | with_reducible rfl)
  clear hS hC
  intro hS hC
  try simp only [Act.put, List.getElem_toArray, List.getElem_cons_zero, List.getElem_cons_succ, List.setIfInBounds_toArray, List.set_cons_zero, List.set_cons_succ]
  refine wpG_take (i := 7) (v := ?_) rfl (by kernel_rfl) (by kernel_rfl) (by kernel_rfl) (by kernel_rfl) (fun _ _ _ h => h) (by decide) (Or.inl ⟨by rfl, ?_⟩) hC hS ?_
  rotate_left
  · (intro W hc; have hf := hc rfl; go_simp; first | done | with_reducible rfl)
  clear hS hC
  intro hS hC
  try simp only [Act.put, List.getElem_toArray, List.getElem_cons_zero, List.getElem_cons_succ, List.setIfInBounds_toArray, List.set_cons_zero, List.set_cons_succ]
  refine wpG_take (i := 8) (v := ?_) rfl (by kernel_rfl) (by kernel_rfl) (by kernel_rfl) (by kernel_rfl) (fun _ _ _ h => h) (by decide) (Or.inl ⟨by rfl, ?_⟩) hC hS ?_
  rotate_left
  · (intro W hc; have hf := hc rfl; go_simp; first | done | with_reducible rfl)
  clear hS hC
  intro hS hC
  try simp only [Act.put, List.getElem_toArray, List.getElem_cons_zero, List.getElem_cons_succ, List.setIfInBounds_toArray, List.set_cons_zero, List.set_cons_succ]
  refine wpG_take (i := 9) (v := ?_) rfl (by kernel_rfl) (by kernel_rfl) (by kernel_rfl) (by kernel_rfl) (fun _ _ _ h => h) (by decide) (Or.inl ⟨by rfl, ?_⟩) hC hS ?_
  rotate_left
  · (intro W hc; have hf := hc rfl; go_simp; first | done | with_reducible rfl)
  clear hS hC
  intro hS hC
  try simp only [Act.put, List.getElem_toArray, List.getElem_cons_zero, List.getElem_cons_succ, List.setIfInBounds_toArray, List.set_cons_zero, List.set_cons_succ]
  refine wpG_take (i := 10) (v := ?_) rfl (by kernel_rfl) (by kernel_rfl) (by kernel_rfl) (by kernel_rfl) (fun _ _ _ h => h) (by decide) (Or.inl ⟨by rfl, ?_⟩) hC hS ?_
  rotate_left
  · (intro W hc; have hf := hc rfl; go_simp; first | done | with_reducible rfl)
  clear hS hC
  intro hS hC
  try simp only [Act.put, List.getElem_toArray, List.getElem_cons_zero, List.getElem_cons_succ, List.setIfInBounds_toArray, List.set_cons_zero, List.set_cons_succ]
  refine wpG_take (i := 11) (v := ?_) rfl (by kernel_rfl) (by kernel_rfl) (by kernel_rfl) (by kernel_rfl) (fun _ _ _ h => h) (by decide) (Or.inl ⟨by rfl, ?_⟩) hC hS ?_
  rotate_left
  · (intro W hc; have hf := hc rfl; go_simp; first | done | with_reducible rfl)
  clear hS hC
  intro hS hC
  try simp only [Act.put, List.getElem_toArray, List.getElem_cons_zero, List.getElem_cons_succ, List.setIfInBounds_toArray, List.set_cons_zero, List.set_cons_succ]
  refine wpG_take (i := 12) (v := ?_) rfl (by kernel_rfl) (by kernel_rfl) (by kernel_rfl) (by kernel_rfl) (fun _ _ _ h => h) (by decide) (Or.inl ⟨by rfl, ?_⟩) hC hS ?_
  rotate_left
  · (intro W hc; have hf := hc rfl; go_simp; first | done | with_reducible rfl)
  clear hS hC
  intro hS hC
  try simp only [Act.put, List.getElem_toArray, List.getElem_cons_zero, List.getElem_cons_succ, List.setIfInBounds_toArray, List.set_cons_zero, List.set_cons_succ]
  refine wpG_take (i := 13) (v := ?_) rfl (by kernel_rfl) (by kernel_rfl) (by kernel_rfl) (by kernel_rfl) (fun _ _ _ h => h) (by decide) (Or.inl ⟨by rfl, ?_⟩) hC hS ?_
  rotate_left
  · (intro W hc; have hf := hc rfl; go_simp; first | done | with_reducible rfl)
  clear hS hC
  intro hS hC
  try simp only [Act.put, List.getElem_toArray, List.getElem_cons_zero, List.getElem_cons_succ, List.setIfInBounds_toArray, List.set_cons_zero, List.set_cons_succ]
  refine wpG_one (i := 14) (by kernel_rfl) rfl hC (fun K hK => ?_)
  go_simp
  refine hK.out _ _ (fun _ => (hS rfl).alloc _) (fun hS' hC' => ?_)
  clear hK K hS hC
  have hS := hS'
  have hC := hC'
  clear hS' hC'
  try simp only [Act.put, List.getElem_toArray, List.getElem_cons_zero, List.getElem_cons_succ, List.setIfInBounds_toArray, List.set_cons_zero, List.set_cons_succ]
  have hvb : Hid (EdB (wy.alloc (.cells #[.int .i64 e.f, .int .i64 e.t, .int .i64 e.l] 25)).drew wy.heap.size e) := Lib.hid (by show (wy.heap.push _)[wy.heap.size]? = _; simp)
  refine wpG_one (i := 15) (by kernel_rfl) rfl hC (fun K hK => ?_)
  go_simp
  refine (CI.out _ _ (by repeat (first | exact s0 | apply Fx.drew | apply Fx.alloc)) hvb.out (Nat.le_refl _)).mono ?_
  rintro e' w2 ⟨v', rfl, HO2, hfi, HB2⟩
  obtain ⟨ao2, cap2, rfl, _⟩ := EdsV.facts HO2.out.row
  have HF2 : Hid (Fx (fun g => vi.ownBlock = some g) wy w2) := Lib.hid ((hS rfl).trans hfi.out)
  refine hK.out _ _ (fun _ => HF2.out) (fun hS' hC' => ?_)
  clear hK K hS hC
  have hS := hS'
  have hC := hC'
  clear hS' hC'
  try simp only [Act.put, List.getElem_toArray, List.getElem_cons_zero, List.getElem_cons_succ, List.setIfInBounds_toArray, List.set_cons_zero, List.set_cons_succ]
  clear hfi CI hvb
  refine wpG_take (i := 16) (v := ?_) rfl (by kernel_rfl) (by kernel_rfl) (by kernel_rfl) (by kernel_rfl) (fun _ _ _ h => h) (by decide) (Or.inl ⟨by rfl, ?_⟩) hC hS ?_
  rotate_left
  · (intro W hc; have hf := hc rfl; go_simp; first | done | with_reducible rfl)
  clear hS hC
  intro hS hC
  try simp only [Act.put, List.getElem_toArray, List.getElem_cons_zero, List.getElem_cons_succ, List.setIfInBounds_toArray, List.set_cons_zero, List.set_cons_succ]
  refine wpG_one (i := 17) (by kernel_rfl) rfl hC (fun K hK => ?_)
  have u0 := g4 _ HF2.out
  have u1 := g5 _ HF2.out
  go_simp
  refine hK.out _ _ (fun h => absurd h (by decide +kernel)) (fun _ _ => ?_)
  clear hK K hS hC
  refine wpG_done (by kernel_rfl) ?_ _
  have hz := HXy.out.size
  have HZ := Lib.hid (rowsV_store (w := w) (w2 := w2) (rr := rr) (vs := vs) (D := D) (n := n) (i := i) (xs := insE e (rr i)) HsD.out HRs.out H3.out hi (by rw [← HVi.out]; exact (HXy.out.no).trans HF2.out) HO2.out (by
    rw [← HVi.out]
    intro g hg
    rcases HB2.out g hg with h | h
    · exact .inl h
    · exact .inr (by omega)) hsb)
  clear u0 u1 g0 g1 g2 g3 g4 g5
  go_wp2
  go_end0
  exact ⟨rfl, HZ.out.2, by rw [DU.setCell]; exact HZ.out.1⟩
set_option maxRecDepth 100000 in
set_option maxHeartbeats 2000000 in
theorem drop_any {b o i : Nat} (hc : w.cell? ⟨b, o, none⟩ = some (.slice (some ⟨sb, 0, none⟩) n n)) (h : RowsV w D sb n rr) (hi : i < n) (hn : n ≤ 70000) (ha : Asc (rr i)) (hl : (rr i).length ≤ 1000000) (hb : ¬ D b) (e : Ed) (he : e ∈ rr i) :
    Calls Try.prog 52 #[.pointer (some ⟨b, o, none⟩), .int .i64 (i : Nat), evE e] w fun r w' => r = .returned (.tuple #[]) ∧ Fx D w w' ∧ RowsV w' (DU D w w') sb n (upd rr i (delE e (rr i))) := by
  obtain ⟨hsD, vs, h2, h3⟩ := h
  have hRi := h2 i hi
  have HRs := Lib.hid (fun j (hj : j < n) => h2 j hj)
  have H3 := Lib.hid h3
  have HsD := Lib.hid hsD
  have HNb := Lib.hid hb
  have HRi := Lib.hid hRi
  obtain ⟨vi, hvi⟩ : ∃ v, v = vs i := ⟨_, rfl⟩
  rw [← hvi] at HRi
  obtain ⟨xs, hxs⟩ : ∃ xs, xs = rr i := ⟨_, rfl⟩
  rw [← hxs] at HRi ha hl he
  have HVi := Lib.hid hvi
  have HXs := Lib.hid hxs
  have HA := Lib.hid ha
  have HE := Lib.hid he
  have hsb : sb < w.heap.size := World.block_lt_of_cell? w _ HRi.out.cell
  have hbw : b < w.heap.size := World.block_lt_of_cell? w _ hc
  have HC0 := Lib.hid hc
  have hrow : EdsV w (fun b => vi.ownBlock = some b) vi xs := SlV.own HRi.out.own
  have HRow := Lib.hid hrow
  have hpl := posE_le e xs
  obtain ⟨p, hp⟩ : ∃ p, p = posE e xs := ⟨_, rfl⟩
  rw [← hp] at hpl
  have HP := Lib.hid hp
  have hin0 : (0 : Int) ≤ (i : Int) := by omega
  have hin1 : (i : Int) < (n : Int) := by omega
  unfold evE
  clear hsD h2 h3 hRi hvi hxs ha he hc hrow hb hp
  go_enter Try.func52, Try.ntmps52
  go_wp2_with fail
  refine wp_hold (fun W => Fx No w W ∧ W.cell? ⟨w.heap.size, 0, none⟩ = some (.int .i64 e.f) ∧ W.cell? ⟨w.heap.size, 1, none⟩ = some (.int .i64 e.t) ∧ W.cell? ⟨w.heap.size, 2, none⟩ = some (.int .i64 e.l)) ⟨(Fx.refl No w).alloc _, by go_simp, by go_simp, by go_simp⟩ ?_
  rintro wx ⟨hfx, c0, c1, c2⟩
  obtain ⟨q, hq⟩ : ∃ q, q = w.heap.size := ⟨_, rfl⟩
  rw [← hq] at c0 c1 c2 ⊢
  have HX := Lib.hid hfx
  have s0 : Fx No wx wx := Fx.refl _ _
  have Hq := Lib.hid hq
  have HQ0 := Lib.hid c0
  have HQ1 := Lib.hid c1
  have HQ2 := Lib.hid c2
  have hqg : Hid (∀ g, vi.ownBlock = some g → g ≠ q) := Lib.hid fun g hg e => by have := HRi.out.own.lt hg; rw [Hq.out] at e; omega
  clear hfx hq c0 c1 c2
  have r0 := HX.out.cell' HC0.out (fun h => h)
  have r1 := HX.out.cellF HRi.out.cell HRi.out.live (fun h => h)
  obtain ⟨r1, r2⟩ := r1
  have g0 : ∀ W, Fx No wx W → W.cell? ⟨q, 0, none⟩ = some (.int .i64 e.f) := fun W h => h.cell' HQ0.out (fun h => h)
  have g1 : ∀ W, Fx No wx W → W.cell? ⟨q, 1, none⟩ = some (.int .i64 e.t) := fun W h => h.cell' HQ1.out (fun h => h)
  have g2 : ∀ W, Fx No wx W → W.cell? ⟨q, 2, none⟩ = some (.int .i64 e.l) := fun W h => h.cell' HQ2.out (fun h => h)
  have g3 : ∀ W, Fx No wx W → W.cell? ⟨b, o, none⟩ = some (.slice (some ⟨sb, 0, none⟩) n n) := fun W h => h.cell' r0 (fun h => h)
  have g4 : ∀ W, Fx No wx W → W.cell? ⟨sb, i, none⟩ = some vi := fun W h => h.cell' r1 (fun h => h)
  have CB : Hid (∀ W, Fx No wx W → Calls Try.prog 62 #[vi, (.agg #[.int .i64 e.f, .int .i64 e.t, .int .i64 e.l]), .func (.func 17) #[] #[]] W fun r w' => r = .returned (.tuple #[.int .i64 (p : Nat), .bool (decide (e ∈ xs))]) ∧ Fx No W w') := Lib.hid fun W h => by rw [HP.out]; exact bsearch_any (HRow.out.no (HX.out.trans h)) hl HA.out e
  have hde : decide (e ∈ xs) = true := decide_eq_true HE.out
  rw [hde] at CB
  clear hde
  refine wp_region_H (fun W => Fx No wx W) (by kernel_rfl) s0.drew ?_
  intro hS
  refine wpAnyH_take (i := 0) (v := ?_) rfl (by kernel_rfl) (by kernel_rfl) (by kernel_rfl) (fun _ _ _ h => h) (Or.inl ⟨by rfl, ?_⟩) hS ?_
  rotate_left
  · (intro W hs; go_simp; first | done | with_reducible rfl)
  try simp only [Act.put, List.getElem_toArray, List.getElem_cons_zero, List.getElem_cons_succ, List.setIfInBounds_toArray, List.set_cons_zero, List.set_cons_succ]
  refine wpAnyH_take (i := 1) (v := ?_) rfl (by kernel_rfl) (by kernel_rfl) (by kernel_rfl) (fun _ _ _ h => h) (Or.inl ⟨by rfl, ?_⟩) hS ?_
  rotate_left
  · (intro W hs; go_simp; first | done | with_reducible rfl)
  try simp only [Act.put, List.getElem_toArray, List.getElem_cons_zero, List.getElem_cons_succ, List.setIfInBounds_toArray, List.set_cons_zero, List.set_cons_succ]
  refine wpAnyH_take (i := 2) (v := ?_) rfl (by kernel_rfl) (by kernel_rfl) (by kernel_rfl) (fun _ _ _ h => h) (Or.inl ⟨by rfl, ?_⟩) hS ?_
  rotate_left
  · (intro W hs; go_simp; first | done | with_reducible rfl)
  try simp only [Act.put, List.getElem_toArray, List.getElem_cons_zero, List.getElem_cons_succ, List.setIfInBounds_toArray, List.set_cons_zero, List.set_cons_succ]
  refine wpAnyH_take (i := 3) (v := ?_) rfl (by kernel_rfl) (by kernel_rfl) (by kernel_rfl) (fun _ _ _ h => h) (Or.inl ⟨by rfl, ?_⟩) hS ?_
  rotate_left
  · (intro W hs; go_simp; first | done | with_reducible rfl)
  try simp only [Act.put, List.getElem_toArray, List.getElem_cons_zero, List.getElem_cons_succ, List.setIfInBounds_toArray, List.set_cons_zero, List.set_cons_succ]
  refine wpAnyH_take (i := 4) (v := ?_) rfl (by kernel_rfl) (by kernel_rfl) (by kernel_rfl) (fun _ _ _ h => h) (Or.inl ⟨by rfl, ?_⟩) hS ?_
  rotate_left
  · (intro W hs; go_simp; first | done | with_reducible rfl)
  try simp only [Act.put, List.getElem_toArray, List.getElem_cons_zero, List.getElem_cons_succ, List.setIfInBounds_toArray, List.set_cons_zero, List.set_cons_succ]
  refine wpAnyH_take (i := 5) (v := ?_) rfl (by kernel_rfl) (by kernel_rfl) (by kernel_rfl) (fun _ _ _ h => h) (Or.inl ⟨by rfl, ?_⟩) hS ?_
  rotate_left
  · (intro W hs; go_simp; first | done | with_reducible rfl)
  try simp only [Act.put, List.getElem_toArray, List.getElem_cons_zero, List.getElem_cons_succ, List.setIfInBounds_toArray, List.set_cons_zero, List.set_cons_succ]
  refine wpAnyH_take (i := 6) (v := ?_) rfl (by kernel_rfl) (by kernel_rfl) (by kernel_rfl) (fun _ _ _ h => h) (Or.inl ⟨by rfl, ?_⟩) hS ?_
  rotate_left
  · (intro W hs; go_simp; first | done | with_reducible rfl)
  try simp only [Act.put, List.getElem_toArray, List.getElem_cons_zero, List.getElem_cons_succ, List.setIfInBounds_toArray, List.set_cons_zero, List.set_cons_succ]
  refine wpAnyH_take (i := 7) (v := ?_) rfl (by kernel_rfl) (by kernel_rfl) (by kernel_rfl) (fun _ _ _ h => h) (Or.inl ⟨by rfl, ?_⟩) hS ?_
  rotate_left
  · (intro W hs; go_simp; first | done | with_reducible rfl)
  try simp only [Act.put, List.getElem_toArray, List.getElem_cons_zero, List.getElem_cons_succ, List.setIfInBounds_toArray, List.set_cons_zero, List.set_cons_succ]
  refine wpH_one (i := 8) (by kernel_rfl) rfl (fun K hK => ?_)
  go_simp
  refine (CB.out _ hS).mono ?_
  rintro e' wy ⟨rfl, hfi⟩
  refine hK.out _ _ (hS.trans hfi) (fun hS' => ?_)
  clear hK K hS hfi
  have hS := hS'
  clear hS'
  try simp only [Act.put, List.getElem_toArray, List.getElem_cons_zero, List.getElem_cons_succ, List.setIfInBounds_toArray, List.set_cons_zero, List.set_cons_succ]
  refine wpAnyH_take (i := 9) (v := ?_) rfl (by kernel_rfl) (by kernel_rfl) (by kernel_rfl) (fun _ _ _ h => h) (Or.inl ⟨by rfl, ?_⟩) hS ?_
  rotate_left
  · (intro W hs; go_simp; first | done | with_reducible rfl)
  try simp only [Act.put, List.getElem_toArray, List.getElem_cons_zero, List.getElem_cons_succ, List.setIfInBounds_toArray, List.set_cons_zero, List.set_cons_succ]
  refine wpAnyH_take (i := 10) (v := ?_) rfl (by kernel_rfl) (by kernel_rfl) (by kernel_rfl) (fun _ _ _ h => h) (Or.inl ⟨by rfl, ?_⟩) hS ?_
  rotate_left
  · (intro W hs; go_simp; first | done | with_reducible rfl)
  try simp only [Act.put, List.getElem_toArray, List.getElem_cons_zero, List.getElem_cons_succ, List.setIfInBounds_toArray, List.set_cons_zero, List.set_cons_succ]
  refine wpAnyH_take (i := 11) (v := ?_) rfl (by kernel_rfl) (by kernel_rfl) (by kernel_rfl) (fun _ _ _ h => h) (Or.inl ⟨by rfl, ?_⟩) hS ?_
  rotate_left
  · (intro W hs; go_simp; first | done | with_reducible rfl)
  try simp only [Act.put, List.getElem_toArray, List.getElem_cons_zero, List.getElem_cons_succ, List.setIfInBounds_toArray, List.set_cons_zero, List.set_cons_succ]
  refine wpAnyH_take (i := 12) (v := ?_) rfl (by kernel_rfl) (by kernel_rfl) (by kernel_rfl) (fun _ _ _ h => h) (Or.inl ⟨by rfl, ?_⟩) hS ?_
  rotate_left
  · (intro W hs; go_simp; first | done | with_reducible rfl)
  try simp only [Act.put, List.getElem_toArray, List.getElem_cons_zero, List.getElem_cons_succ, List.setIfInBounds_toArray, List.set_cons_zero, List.set_cons_succ]
  refine wpAnyH_take (i := 13) (v := ?_) rfl (by kernel_rfl) (by kernel_rfl) (by kernel_rfl) (fun _ _ _ h => h) (Or.inl ⟨by rfl, ?_⟩) hS ?_
  rotate_left
  · (intro W hs; go_simp; first | done | with_reducible rfl)
  try simp only [Act.put, List.getElem_toArray, List.getElem_cons_zero, List.getElem_cons_succ, List.setIfInBounds_toArray, List.set_cons_zero, List.set_cons_succ]
  refine wpAnyH_done (by kernel_rfl) ?_ _
  have HS := Lib.hid hS
  clear g0 g1 g2 g3 g4 CB hS s0
  go_wp2_with fail

  have s0 : Fx No wy wy := Fx.refl _ _
  have HXy := Lib.hid (HX.out.trans HS.out)
  have HDD : Hid (∀ g, vi.ownBlock = some g → D g ∧ g ≠ sb) := Lib.hid HRi.out.lie
  have g0 : ∀ W, Fx (fun g => vi.ownBlock = some g) wy W → W.cell? ⟨q, 0, none⟩ = some (.int .i64 e.f) := fun W h => h.cell' (HS.out.cell' HQ0.out (fun h => h)) (fun hg => hqg.out q hg rfl)
  have g1 : ∀ W, Fx (fun g => vi.ownBlock = some g) wy W → W.cell? ⟨q, 1, none⟩ = some (.int .i64 e.t) := fun W h => h.cell' (HS.out.cell' HQ1.out (fun h => h)) (fun hg => hqg.out q hg rfl)
  have g2 : ∀ W, Fx (fun g => vi.ownBlock = some g) wy W → W.cell? ⟨q, 2, none⟩ = some (.int .i64 e.l) := fun W h => h.cell' (HS.out.cell' HQ2.out (fun h => h)) (fun hg => hqg.out q hg rfl)
  have g3 : ∀ W, Fx (fun g => vi.ownBlock = some g) wy W → W.cell? ⟨b, o, none⟩ = some (.slice (some ⟨sb, 0, none⟩) n n) := fun W h => h.cell' (HS.out.cell' r0 (fun h => h)) (fun hg => HNb.out (HDD.out b hg).1)
  have g4 : ∀ W, Fx (fun g => vi.ownBlock = some g) wy W → W.cell? ⟨sb, i, none⟩ = some vi := fun W h => h.cell' (HS.out.cell' r1 (fun h => h)) (fun hg => (HDD.out sb hg).2 rfl)
  have g5 : ∀ W, Fx (fun g => vi.ownBlock = some g) wy W → W.frozen? ⟨sb, i, none⟩ = false := fun W h => (h.cellF (HS.out.cell' r1 (fun h => h)) ((HS.out.cellF r1 r2 (fun h => h)).2) (fun hg => (HDD.out sb hg).2 rfl)).2
  have hpos : p < xs.length := by rw [HP.out]; exact (List.getElem?_eq_some_iff.1 (posE_mem HA.out HE.out)).1
  have hw1 : IntKind.i64.wrap ((p : Int) + 1) = (p : Int) + 1 := by rw [IntKind.wrap_i64]; omega
  have CI : Hid (∀ W, Fx No wy W → Calls Try.prog 64 #[vi, .int .i64 (p : Nat), .int .i64 ((p : Int) + 1)] W fun r w' => ∃ v', r = .returned v' ∧ Hid (OwnE w' v' (delE e (rr i))) ∧ Hid (Fx (fun g => vi.ownBlock = some g) W w') ∧ Hid (∀ g, v'.ownBlock = some g → vi.ownBlock = some g ∨ wy.heap.size ≤ g)) := Lib.hid fun W h => (delete_any (HRi.out.own.no (HXy.out.trans h)) hl hpos).mono fun r w' ⟨v', h1, h2, h3, h4⟩ => ⟨v', h1, Lib.hid (by rw [← HXs.out, delE_at HA.out HE.out, ← HP.out]; exact h2), Lib.hid h3, Lib.hid fun g hg => .inl (by rw [← h4]; exact hg)⟩
  refine wp_region_G 17 (fun b W => b = false → Fx (fun g => vi.ownBlock = some g) wy W) (by kernel_rfl) (fun _ => s0.no.drew) ?_
  intro hS hC
  refine wpG_take (i := 0) (v := ?_) rfl (by kernel_rfl) (by kernel_rfl) (by kernel_rfl) (by kernel_rfl) (fun _ _ _ h => h) (by decide) (Or.inl ⟨by rfl, ?_⟩) hC hS ?_
  rotate_left
  · (intro W hc; have hf := hc rfl; go_simp; first | done | with_reducible rfl)
  clear hS hC
  intro hS hC
  try simp only [Act.put, List.getElem_toArray, List.getElem_cons_zero, List.getElem_cons_succ, List.setIfInBounds_toArray, List.set_cons_zero, List.set_cons_succ]
  refine wpG_take (i := 1) (v := ?_) rfl (by kernel_rfl) (by kernel_rfl) (by kernel_rfl) (by kernel_rfl) (fun _ _ _ h => h) (by decide) (Or.inl ⟨by rfl, ?_⟩) hC hS ?_
  rotate_left
  · (intro W hc; have hf := hc rfl; go_simp; first | done | with_reducible rfl)
  clear hS hC
  intro hS hC
  try simp only [Act.put, List.getElem_toArray, List.getElem_cons_zero, List.getElem_cons_succ, List.setIfInBounds_toArray, List.set_cons_zero, List.set_cons_succ]
  refine wpG_take (i := 2) (v := ?_) rfl (by kernel_rfl) (by kernel_rfl) (by kernel_rfl) (by kernel_rfl) (fun _ _ _ h => h) (by decide) (Or.inl ⟨by rfl, ?_⟩) hC hS ?_
  rotate_left
  · (intro W hc; have hf := hc rfl; go_simp; first | done | with_reducible rfl)
  clear hS hC
  intro hS hC
  try simp only [Act.put, List.getElem_toArray, List.getElem_cons_zero, List.getElem_cons_succ, List.setIfInBounds_toArray, List.set_cons_zero, List.set_cons_succ]
  refine wpG_take (i := 3) (v := ?_) rfl (by kernel_rfl) (by kernel_rfl) (by kernel_rfl) (by kernel_rfl) (fun _ _ _ h => h) (by decide) (Or.inl ⟨by rfl, ?_⟩) hC hS ?_
  rotate_left
  · (intro W hc; have hf := hc rfl; go_simp; first | done | with_reducible rfl)
  clear hS hC
  intro hS hC
  try simp only [Act.put, List.getElem_toArray, List.getElem_cons_zero, List.getElem_cons_succ, List.setIfInBounds_toArray, List.set_cons_zero, List.set_cons_succ]
  refine wpG_take (i := 4) (v := ?_) rfl (by kernel_rfl) (by kernel_rfl) (by kernel_rfl) (by kernel_rfl) (fun _ _ _ h => h) (by decide) (Or.inl ⟨by rfl, ?_⟩) hC hS ?_
  rotate_left
  · (intro W hc; have hf := hc rfl; go_simp; first | done | with_reducible rfl)
  clear hS hC
  intro hS hC
  try simp only [Act.put, List.getElem_toArray, List.getElem_cons_zero, List.getElem_cons_succ, List.setIfInBounds_toArray, List.set_cons_zero, List.set_cons_succ]
  refine wpG_take (i := 5) (v := ?_) rfl (by kernel_rfl) (by kernel_rfl) (by kernel_rfl) (by kernel_rfl) (fun _ _ _ h => h) (by decide) (Or.inl ⟨by rfl, ?_⟩) hC hS ?_
  rotate_left
  · (intro W hc; have hf := hc rfl; go_simp; first | done | with_reducible rfl)
  clear hS hC
  intro hS hC
  try simp only [Act.put, List.getElem_toArray, List.getElem_cons_zero, List.getElem_cons_succ, List.setIfInBounds_toArray, List.set_cons_zero, List.set_cons_succ]
  refine wpG_take (i := 6) (v := ?_) rfl (by kernel_rfl) (by kernel_rfl) (by kernel_rfl) (by kernel_rfl) (fun _ _ _ h => h) (by decide) (Or.inl ⟨by rfl, ?_⟩) hC hS ?_
  rotate_left
  · (intro W hc; have hf := hc rfl; go_simp; first | done | with_reducible rfl)
  clear hS hC
  intro hS hC
  try simp only [Act.put, List.getElem_toArray, List.getElem_cons_zero, List.getElem_cons_succ, List.setIfInBounds_toArray, List.set_cons_zero, List.set_cons_succ]
  refine wpG_take (i := 7) (v := ?_) rfl (by kernel_rfl) (by kernel_rfl) (by kernel_rfl) (by kernel_rfl) (fun _ _ _ h => h) (by decide) (Or.inl ⟨by rfl, ?_⟩) hC hS ?_
  rotate_left
  · (intro W hc; have hf := hc rfl; go_simp; first | done | with_reducible rfl)
  clear hS hC
  intro hS hC
  try simp only [Act.put, List.getElem_toArray, List.getElem_cons_zero, List.getElem_cons_succ, List.setIfInBounds_toArray, List.set_cons_zero, List.set_cons_succ]
  refine wpG_take (i := 8) (v := ?_) rfl (by kernel_rfl) (by kernel_rfl) (by kernel_rfl) (by kernel_rfl) (fun _ _ _ h => h) (by decide) (Or.inl ⟨by rfl, ?_⟩) hC hS ?_
  rotate_left
  · (intro W hc; have hf := hc rfl; go_simp; first | done | with_reducible rfl)
  clear hS hC
  intro hS hC
  try simp only [Act.put, List.getElem_toArray, List.getElem_cons_zero, List.getElem_cons_succ, List.setIfInBounds_toArray, List.set_cons_zero, List.set_cons_succ]
  refine wpG_take (i := 9) (v := ?_) rfl (by kernel_rfl) (by kernel_rfl) (by kernel_rfl) (by kernel_rfl) (fun _ _ _ h => h) (by decide) (Or.inl ⟨by rfl, ?_⟩) hC hS ?_
  rotate_left
  · (intro W hc; have hf := hc rfl; go_simp; first | done | with_reducible rfl)
  clear hS hC
  intro hS hC
  try simp only [Act.put, List.getElem_toArray, List.getElem_cons_zero, List.getElem_cons_succ, List.setIfInBounds_toArray, List.set_cons_zero, List.set_cons_succ]
  refine wpG_take (i := 10) (v := ?_) rfl (by kernel_rfl) (by kernel_rfl) (by kernel_rfl) (by kernel_rfl) (fun _ _ _ h => h) (by decide) (Or.inl ⟨by rfl, ?_⟩) hC hS ?_
  rotate_left
  · (intro W hc; have hf := hc rfl; go_simp; first | done | with_reducible rfl)
  clear hS hC
  intro hS hC
  try simp only [Act.put, List.getElem_toArray, List.getElem_cons_zero, List.getElem_cons_succ, List.setIfInBounds_toArray, List.set_cons_zero, List.set_cons_succ]
  refine wpG_take (i := 11) (v := ?_) rfl (by kernel_rfl) (by kernel_rfl) (by kernel_rfl) (by kernel_rfl) (fun _ _ _ h => h) (by decide) (Or.inl ⟨by rfl, ?_⟩) hC hS ?_
  rotate_left
  · (intro W hc; have hf := hc rfl; go_simp; first | done | with_reducible rfl)
  clear hS hC
  intro hS hC
  try simp only [Act.put, List.getElem_toArray, List.getElem_cons_zero, List.getElem_cons_succ, List.setIfInBounds_toArray, List.set_cons_zero, List.set_cons_succ]
  refine wpG_take (i := 12) (v := ?_) rfl (by kernel_rfl) (by kernel_rfl) (by kernel_rfl) (by kernel_rfl) (fun _ _ _ h => h) (by decide) (Or.inl ⟨by rfl, ?_⟩) hC hS ?_
  rotate_left
  · (intro W hc; have hf := hc rfl; go_simp; first | done | with_reducible rfl)
  clear hS hC
  intro hS hC
  try simp only [Act.put, List.getElem_toArray, List.getElem_cons_zero, List.getElem_cons_succ, List.setIfInBounds_toArray, List.set_cons_zero, List.set_cons_succ]
  refine wpG_take (i := 13) (v := ?_) rfl (by kernel_rfl) (by kernel_rfl) (by kernel_rfl) (by kernel_rfl) (fun _ _ _ h => h) (by decide) (Or.inl ⟨by rfl, ?_⟩) hC hS ?_
  rotate_left
  · (intro W hc; have hf := hc rfl; go_simp; first | done | with_reducible rfl)
  clear hS hC
  intro hS hC
  try simp only [Act.put, List.getElem_toArray, List.getElem_cons_zero, List.getElem_cons_succ, List.setIfInBounds_toArray, List.set_cons_zero, List.set_cons_succ]
  refine wpG_take (i := 14) (v := ?_) rfl (by kernel_rfl) (by kernel_rfl) (by kernel_rfl) (by kernel_rfl) (fun _ _ _ h => h) (by decide) (Or.inl ⟨by rfl, ?_⟩) hC hS ?_
  rotate_left
  · (intro W hc; have hf := hc rfl; go_simp; first | done | with_reducible rfl)
  clear hS hC
  intro hS hC
  try simp only [Act.put, List.getElem_toArray, List.getElem_cons_zero, List.getElem_cons_succ, List.setIfInBounds_toArray, List.set_cons_zero, List.set_cons_succ]
  refine wpG_one (i := 15) (by kernel_rfl) rfl hC (fun K hK => ?_)
  go_simp
  refine (CI.out _ (by repeat (first | exact s0 | apply Fx.drew | apply Fx.alloc))).mono ?_
  rintro e' w2 ⟨v', rfl, HO2, hfi, HB2⟩
  obtain ⟨ao2, cap2, rfl, _⟩ := EdsV.facts HO2.out.row
  have HF2 : Hid (Fx (fun g => vi.ownBlock = some g) wy w2) := Lib.hid ((hS rfl).trans hfi.out)
  refine hK.out _ _ (fun _ => HF2.out) (fun hS' hC' => ?_)
  clear hK K hS hC
  have hS := hS'
  have hC := hC'
  clear hS' hC'
  try simp only [Act.put, List.getElem_toArray, List.getElem_cons_zero, List.getElem_cons_succ, List.setIfInBounds_toArray, List.set_cons_zero, List.set_cons_succ]
  clear hfi CI
  refine wpG_take (i := 16) (v := ?_) rfl (by kernel_rfl) (by kernel_rfl) (by kernel_rfl) (by kernel_rfl) (fun _ _ _ h => h) (by decide) (Or.inl ⟨by rfl, ?_⟩) hC hS ?_
  rotate_left
  · (intro W hc; have hf := hc rfl; go_simp; first | done | with_reducible rfl)
  clear hS hC
  intro hS hC
  try simp only [Act.put, List.getElem_toArray, List.getElem_cons_zero, List.getElem_cons_succ, List.setIfInBounds_toArray, List.set_cons_zero, List.set_cons_succ]
  refine wpG_one (i := 17) (by kernel_rfl) rfl hC (fun K hK => ?_)
  have u0 := g4 _ HF2.out
  have u1 := g5 _ HF2.out
  go_simp
  refine hK.out _ _ (fun h => absurd h (by decide +kernel)) (fun _ _ => ?_)
  clear hK K hS hC
  refine wpG_done (by kernel_rfl) ?_ _
  have hz := HXy.out.size
  have HZ := Lib.hid (rowsV_store (w := w) (w2 := w2) (rr := rr) (vs := vs) (D := D) (n := n) (i := i) (xs := delE e (rr i)) HsD.out HRs.out H3.out hi (by rw [← HVi.out]; exact (HXy.out.no).trans HF2.out) HO2.out (by
    rw [← HVi.out]
    intro g hg
    rcases HB2.out g hg with h | h
    · exact .inl h
    · exact .inr (by omega)) hsb)
  clear u0 u1 g0 g1 g2 g3 g4 g5
  go_wp2
  go_end0
  exact ⟨rfl, HZ.out.2, by rw [DU.setCell]; exact HZ.out.1⟩
end
#print axioms put_any
#print axioms drop_any
end Go.Proofs.Ytcfajeldkioomaa
