/- The laws of graphs: is. -/
import Derived.Test.YtcfajeldkioomaaRgG
namespace Go.Proofs.Ytcfajeldkioomaa
open Go.RowKit
set_option linter.unusedVariables false

/-- cells that may be written -/
def CellsW (w : World) (v : Value) (len : Nat) : Prop := ∀ g j, v.ownBlock = some g → j < len → ∃ u, w.cell? ⟨g, j, none⟩ = some u ∧ w.frozen? ⟨g, j, none⟩ = false
theorem CellsW.of {w : World} {base : Nat} {e : TypeId} {size : Nat} {v : Value} {n : Nat} {xs : List Value} (h : w.ownsRow base e size v n xs) : CellsW w v xs.length := by
  intro g j hg hj
  have hc := h.cells hg j (xs[j]) (by simp [hj])
  rw [Addr.add_lit, Nat.zero_add] at hc
  rcases h.2 with ⟨e1, e2⟩ | ⟨g', cap, cur, e1, hb, hh, _⟩
  · subst e1; simp [Value.ownBlock] at hg
  · subst e1
    obtain rfl : g' = g := by simpa [Value.ownBlock] using hg
    exact ⟨_, hc, frozen_of_row _ _ _ _ _ hh⟩
theorem CellsW.fx {w w' : World} {S : Nat → Prop} {v : Value} {len : Nat} (h : CellsW w v len) (hf : Fx S w w') (hn : ∀ g, v.ownBlock = some g → ¬ S g) : CellsW w' v len := fun g j hg hj => by
  obtain ⟨u, h1, h2⟩ := h g j hg hj
  exact ⟨u, hf.cellF h1 h2 (hn g hg)⟩
theorem CellsW.put {w : World} {v : Value} {len g x : Nat} (h : CellsW w v len) (hg : v.ownBlock = some g) (a : Value) : CellsW (w.setCell ⟨g, x, none⟩ a) v len := fun g' j hg' hj => by
  obtain rfl : g = g' := Option.some.inj (hg.symm.trans hg')
  obtain ⟨u, h1, h2⟩ := h g j hg hj
  by_cases e : j = x
  · subst e; exact ⟨a, World.cell?_setCell_same _ _ _ h1, by simpa using h2⟩
  · exact ⟨u, by rw [World.cell?_setCell_other _ _ _ _ (by intro e2; injection e2; omega)]; exact h1, by simpa using h2⟩
theorem CellsW.ofI {w : World} {B : Nat} {v : Value} {l : List Int} (h : RowI w B v l) : CellsW w v l.length := by
  obtain ⟨ao, cap, rfl, h2, h3, h4, h5⟩ := h
  intro g j hg hj
  rcases h5 with rfl | ⟨g', rfl, h6, h7, h8⟩
  · simp at hj
  · obtain rfl : g' = g := by simpa [Value.ownBlock] using hg
    obtain ⟨c1, c2⟩ := h8 j hj
    simp only [Nat.zero_add] at c1 c2
    exact ⟨_, c1, c2⟩
theorem some_from {L : List Ed} {n : Nat} (hb : ∀ x ∈ L, (0 ≤ x.f ∧ x.f < (n : Int)) ∧ 0 ≤ x.t ∧ x.t < (n : Int)) {m : Int} (h0 : 0 ≤ m) : L.filter (someE m (-1)) = rowI (outE L) n m := by
  unfold rowI
  split
  · unfold outE someE
    refine List.filter_congr fun x hx => ?_
    have : ¬ m = -1 := by omega
    simp [this]
    rw [show (max m 0) = m by omega]
  · rw [List.filter_eq_nil_iff]
    intro x hx
    have h1 := hb x hx
    have : ¬ m = -1 := by omega
    have h2 : ¬ x.f = m := by omega
    simp [someE, this, h2]
theorem some_to {L : List Ed} {n : Nat} (hb : ∀ x ∈ L, (0 ≤ x.f ∧ x.f < (n : Int)) ∧ 0 ≤ x.t ∧ x.t < (n : Int)) {m : Int} (h0 : 0 ≤ m) : L.filter (someE (-1) m) = rowI (inE L) n m := by
  unfold rowI
  split
  · unfold inE someE
    refine List.filter_congr fun x hx => ?_
    have : ¬ m = -1 := by omega
    simp [this]
    rw [show (max m 0) = m by omega]
  · rw [List.filter_eq_nil_iff]
    intro x hx
    have h1 := hb x hx
    have : ¬ m = -1 := by omega
    have h2 : ¬ x.t = m := by omega
    simp [someE, this, h2]
theorem some_both {L : List Ed} {n : Nat} (hb : ∀ x ∈ L, (0 ≤ x.f ∧ x.f < (n : Int)) ∧ 0 ≤ x.t ∧ x.t < (n : Int)) {m k : Int} (h0 : 0 ≤ m) (hk : k ≠ -1) : L.filter (someE m k) = (rowI (outE L) n m).filter fun x => decide (x.t = k) := by
  rw [← some_from hb h0, List.filter_filter]
  refine List.filter_congr fun x hx => ?_
  have : ¬ m = -1 := by omega
  simp [someE, this, hk, Bool.and_comm]
theorem rowI_neg {rr : Nat → List Ed} {n : Nat} {m : Int} (h : m < 0) : rowI rr n m = [] := by unfold rowI; rw [if_neg (by omega)]
/-- one step of the other way to tell it -/
def cpStep (out : List Int) (t : Int) : List Int := if out = [] ∨ gi out (out.length - 1) ≠ t then out ++ [t] else out
theorem cpStep_fold (l : List Int) : ∀ a, a ≤ l.length → (l.take a).foldl cpStep [] = compTo l a ∧ (0 < a → gi (compTo l a) ((compTo l a).length - 1) = gi l (a - 1)) := by
  intro a
  induction a with
  | zero => intro _; simp [compTo]
  | succ a ih =>
    intro ha
    obtain ⟨h1, h2⟩ := ih (by omega)
    have ht : l.take (a + 1) = l.take a ++ [gi l a] := by
      have : a < l.length := by omega
      rw [List.take_add_one, List.getElem?_eq_getElem this]; simp [gi, List.getD, this]
    rw [ht, List.foldl_append, h1]
    show cpStep (compTo l a) (gi l a) = _ ∧ _
    by_cases h0 : a = 0
    · subst h0
      refine ⟨by simp [cpStep, compTo], fun _ => by simp [compTo, gi]⟩
    · have hp : 0 < (compTo l a).length := by
        obtain ⟨b, rfl⟩ : ∃ b, a = b + 1 := ⟨a - 1, by omega⟩
        exact compTo_pos l b
      have hne : compTo l a ≠ [] := fun e => by rw [e] at hp; simp at hp
      have h2 := h2 (by omega)
      by_cases he : gi l a = gi l (a - 1)
      · rw [compTo_old (by omega) he]
        refine ⟨?_, fun _ => ?_⟩
        · unfold cpStep; rw [if_neg]; rw [h2, he]; simp [hne]
        · rw [h2, Nat.add_sub_cancel, he]
      · rw [compTo_new he]
        refine ⟨?_, fun _ => ?_⟩
        · unfold cpStep; rw [if_pos (.inr (by rw [h2]; exact fun e => he e.symm))]
        · rw [List.length_append, List.length_cons, List.length_nil, Nat.add_sub_cancel, Nat.add_sub_cancel, gi_append_one]
theorem cpStep_comp (l : List Int) : l.foldl cpStep [] = comp l := by
  have := (cpStep_fold l l.length (Nat.le_refl _)).1
  rwa [List.take_length] at this
theorem nextL_comp {L : List Ed} {n : Nat} (hb : ∀ x ∈ L, (0 ≤ x.f ∧ x.f < (n : Int)) ∧ 0 ≤ x.t ∧ x.t < (n : Int)) (m : Int) : nextL m L = comp ((rowI (outE L) n m).map (·.t)) := by
  have key : ∀ (L : List Ed) (a : List Int), L.foldl (nxStep m) a = ((L.filter fun x => decide (x.f = m)).map (·.t)).foldl cpStep a := by
    intro L
    induction L with
    | nil => intro a; rfl
    | cons x xs ih =>
      intro a
      rw [List.foldl_cons, List.filter_cons]
      by_cases h : x.f = m
      · rw [if_pos (by simp [h]), List.map_cons, List.foldl_cons, ih]
        congr 1
        unfold nxStep cpStep
        simp [h]
      · rw [if_neg (by simp [h]), ih]
        congr 1
        unfold nxStep
        simp [h]
  unfold nextL
  rw [key, cpStep_comp]
  congr 2
  unfold rowI
  split
  · unfold outE
    refine List.filter_congr fun x hx => ?_
    rw [show ((m.toNat : Nat) : Int) = m by omega]
  · rw [List.filter_eq_nil_iff]
    intro x hx
    have h1 := hb x hx
    have h2 : ¬ x.f = m := by omega
    simp [h2]
section
variable {w w' : World} {D E : Nat → Prop} {b n : Nat} {L : List Ed} {rv : Value}
set_option maxRecDepth 100000 in
set_option maxHeartbeats 4000000 in
theorem is_any (hG : GraphV w D b n L) (hR : EdsV w E rv L) (m k : Int) (x : Ed) (hx : x.ok) : Calls Try.prog 28 #[.pointer (some ⟨b, 0, none⟩), .agg #[.int .i64 (n : Nat), rv], .int .i64 m, .int .i64 k, evE x] w fun e w' => e = .returned (.bool true) ∧ Fx No w w' := by
  have H := Lib.hid hG
  have HR := Lib.hid hR
  have HX := Lib.hid hx
  obtain ⟨ao, cap, rfl, _, _, _⟩ := EdsV.facts hR
  have hsm := hG.small
  obtain ⟨k2, hk2⟩ : ∃ k2, k2 = if k < 0 then (n : Int) else k := ⟨_, rfl⟩
  have hk21 : k2 ≠ -1 := by rw [hk2]; split <;> omega
  obtain ⟨F1, hF1⟩ : ∃ F, F = rowI (outE L) n m := ⟨_, rfl⟩
  obtain ⟨F2, hF2⟩ : ∃ F, F = rowI (inE L) n m := ⟨_, rfl⟩
  obtain ⟨F3, hF3⟩ : ∃ F, F = F1.filter fun x => decide (x.t = k2) := ⟨_, rfl⟩
  obtain ⟨FN, hFN⟩ : ∃ F, F = comp (F1.map (·.t)) := ⟨_, rfl⟩
  have HL1 : Hid (0 ≤ m → L.filter (someE m (-1)) = F1) := Lib.hid fun h => by rw [hF1]; exact some_from hG.nodes h
  have HL2 : Hid (0 ≤ m → L.filter (someE (-1) m) = F2) := Lib.hid fun h => by rw [hF2]; exact some_to hG.nodes h
  have HL3 : Hid (0 ≤ m → L.filter (someE m k2) = F3) := Lib.hid fun h => by rw [hF3, hF1]; exact some_both hG.nodes h hk21
  have HLN : Hid (nextL m L = FN) := Lib.hid (by rw [hFN, hF1]; exact nextL_comp hG.nodes m)
  have HN1 : Hid (m < 0 → F1 = [] ∧ F2 = [] ∧ F3 = []) := Lib.hid fun h => by rw [hF3, hF1, hF2, rowI_neg h, rowI_neg h]; exact ⟨rfl, rfl, rfl⟩
  have HOut : Hid (∀ W, Fx No w W → Calls Try.prog 31 #[.pointer (some ⟨b, 0, none⟩), .int .i64 m] W fun e w' => ∃ v', e = .returned v' ∧ Fx No W w' ∧ OwnT 25 e3 3 w' W.heap.size v' F1) := Lib.hid fun W hf => by rw [hF1]; exact gOut_any (H.out.no hf) m
  have HIn : Hid (∀ W, Fx No w W → Calls Try.prog 32 #[.pointer (some ⟨b, 0, none⟩), .int .i64 m] W fun e w' => ∃ v', e = .returned v' ∧ Fx No W w' ∧ OwnT 25 e3 3 w' W.heap.size v' F2) := Lib.hid fun W hf => by rw [hF2]; exact gIn_any (H.out.no hf) m
  have HBet : Hid (∀ W, Fx No w W → Calls Try.prog 36 #[.pointer (some ⟨b, 0, none⟩), .int .i64 m, .int .i64 k2] W fun e w' => ∃ v', e = .returned v' ∧ Fx No W w' ∧ OwnT 25 e3 3 w' W.heap.size v' F3) := Lib.hid fun W hf => by rw [hF3, hF1]; exact gBetween_any (H.out.no hf) m k2
  have HNxt : Hid (∀ W, Fx No w W → Calls Try.prog 37 #[.pointer (some ⟨b, 0, none⟩), .int .i64 m] W fun e w' => ∃ v', e = .returned v' ∧ Fx No W w' ∧ RowI w' W.heap.size v' FN) := Lib.hid fun W hf => by rw [hFN, hF1]; exact gNext_any (H.out.no hf) m
  have hl1 : F1.length ≤ 1000000 := by rw [hF1]; exact rowI_len hG.small
  have hl2 : F2.length ≤ 1000000 := by
    rw [hF2]; unfold rowI; split
    · exact Nat.le_trans (List.length_filter_le _ _) hG.small
    · simp
  have hl3 : F3.length ≤ 1000000 := by rw [hF3]; exact Nat.le_trans (List.length_filter_le _ _) hl1
  have hlN : FN.length ≤ 1000000 := by rw [hFN]; exact Nat.le_trans (compTo_len _ _) (by rw [List.length_map]; exact hl1)
  have HK2 := Lib.hid hk2
  clear hG hR hx hF1 hF2 hF3 hFN hk2 hk21
  obtain ⟨xf, xt, xl⟩ := x
  unfold evE
  simp only
  go_enter Try.func28, Try.ntmps28
  go_upto_region 1 with fail
  refine wp_hold (fun W => Fx No w W ∧ W.cell? ⟨w.heap.size, 0, none⟩ = some (.int .i64 (n : Nat)) ∧ W.cell? ⟨w.heap.size, 1, none⟩ = some (.slice ao L.length cap) ∧ W.cell? ⟨w.heap.size + 1, 0, none⟩ = some (.int .i64 xf) ∧ W.cell? ⟨w.heap.size + 1, 1, none⟩ = some (.int .i64 xt) ∧ W.cell? ⟨w.heap.size + 1, 2, none⟩ = some (.int .i64 xl))
    ⟨((Fx.refl No w).alloc _).alloc _, by go_simp, by go_simp, by go_simp, by go_simp, by go_simp⟩ ?_
  rintro w1 ⟨hfx, c0, c1, e0, e1, e2⟩
  obtain ⟨cb, hcb⟩ : ∃ e, e = w.heap.size := ⟨_, rfl⟩
  rw [← hcb] at c0 c1 e0 e1 e2 ⊢
  obtain ⟨eb, heb⟩ : ∃ e, e = cb + 1 := ⟨_, rfl⟩
  rw [← heb] at e0 e1 e2 ⊢
  have HF1 := Lib.hid hfx
  have HC0 := Lib.hid c0
  have HC1 := Lib.hid c1
  have HE0 := Lib.hid e0
  have HE1 := Lib.hid e1
  have HE2 := Lib.hid e2
  have s0 : Fx No w1 w1 := Fx.refl _ _
  clear hfx hcb heb
  go_cut [49] from 24 to 49 (fun v ws => v = .bool false ∧ Fx No w1 ws)
  case first =>
    have g0 : ∀ W, Fx No w1 W → W.cell? ⟨cb, 0, none⟩ = some (.int .i64 (n : Nat)) := fun W h => h.cell' c0 (fun h => h)
    have g1 : ∀ W, Fx No w1 W → W.cell? ⟨cb, 1, none⟩ = some (.slice ao L.length cap) := fun W h => h.cell' c1 (fun h => h)
    have g2 : ∀ W, Fx No w1 W → W.cell? ⟨eb, 0, none⟩ = some (.int .i64 xf) := fun W h => h.cell' e0 (fun h => h)
    have g3 : ∀ W, Fx No w1 W → W.cell? ⟨eb, 1, none⟩ = some (.int .i64 xt) := fun W h => h.cell' e1 (fun h => h)
    have g4 : ∀ W, Fx No w1 W → W.cell? ⟨eb, 2, none⟩ = some (.int .i64 xl) := fun W h => h.cell' e2 (fun h => h)
    obtain ⟨t, ht⟩ : ∃ t, t = decide ((⟨xf, xt, xl⟩ : Ed) ∈ L) := ⟨_, rfl⟩
    have CL : Hid (∀ W, Fx No w1 W → Calls Try.prog 30 #[.pointer (some ⟨b, 0, none⟩)] W fun e w' => e = .returned (.int .i64 (n : Nat)) ∧ W = w') := Lib.hid fun W hf => gLen_any (H.out.no (HF1.out.trans hf))
    have CM : Hid (∀ W, Fx No w1 W → Calls Try.prog 33 #[.pointer (some ⟨b, 0, none⟩)] W fun e w' => e = .returned (.int .i64 (L.length : Nat)) ∧ W = w') := Lib.hid fun W hf => gMany_any (H.out.no (HF1.out.trans hf))
    have CH : Hid (∀ W, Fx No w1 W → Calls Try.prog 35 #[.pointer (some ⟨b, 0, none⟩), .agg #[.int .i64 xf, .int .i64 xt, .int .i64 xl]] W fun e w' => e = .returned (.bool t) ∧ Fx No W w') := Lib.hid fun W hf => by rw [ht]; exact gHas_any (H.out.no (HF1.out.trans hf)) ⟨xf, xt, xl⟩ HX.out
    have CR : Hid (∀ W, Fx No w1 W → Calls Try.prog 51 #[.agg #[.int .i64 (n : Nat), .slice ao L.length cap], .agg #[.int .i64 xf, .int .i64 xt, .int .i64 xl]] W fun e w' => e = .returned (.bool t) ∧ Fx No W w') := Lib.hid fun W hf => by rw [ht]; exact refHas_any (HR.out.no (HF1.out.trans hf)) (n : Int) ⟨xf, xt, xl⟩
    clear ht c0 c1 e0 e1 e2
    refine wp_region_H (fun W => Fx No w1 W) (by kernel_rfl) s0.drew ?_
    intro hS
    refine wpAnyH_take (i := 0) (v := ?_) rfl (by kernel_rfl) (by kernel_rfl) (by kernel_rfl) (fun _ _ _ h => h) (Or.inl ⟨by rfl, ?_⟩) hS ?_
    rotate_left
    · (intro W hs; go_simp; first | done | with_reducible rfl)
    try simp only [Act.put, List.getElem_toArray, List.getElem_cons_zero, List.getElem_cons_succ, List.setIfInBounds_toArray, List.set_cons_zero, List.set_cons_succ]
    refine wpAnyH_take (i := 2) (v := ?_) rfl (by kernel_rfl) (by kernel_rfl) (by kernel_rfl) (fun _ _ _ h => h) (Or.inl ⟨by rfl, ?_⟩) hS ?_
    rotate_left
    · (intro W hs; go_simp; first | done | with_reducible rfl)
    try simp only [Act.put, List.getElem_toArray, List.getElem_cons_zero, List.getElem_cons_succ, List.setIfInBounds_toArray, List.set_cons_zero, List.set_cons_succ]
    refine wpAnyH_take (i := 3) (v := ?_) rfl (by kernel_rfl) (by kernel_rfl) (by kernel_rfl) (fun _ _ _ h => h) (Or.inl ⟨by rfl, ?_⟩) hS ?_
    rotate_left
    · (intro W hs; go_simp; first | done | with_reducible rfl)
    try simp only [Act.put, List.getElem_toArray, List.getElem_cons_zero, List.getElem_cons_succ, List.setIfInBounds_toArray, List.set_cons_zero, List.set_cons_succ]
    refine wpH_one (i := 1) (by kernel_rfl) rfl (fun K hK => ?_)
    go_simp
    refine (CL.out _ hS).mono ?_
    rintro e w' ⟨rfl, rfl⟩
    refine hK.out _ _ (hS) (fun hS' => ?_)
    clear hK K hS
    have hS := hS'
    clear hS'
    try simp only [Act.put, List.getElem_toArray, List.getElem_cons_zero, List.getElem_cons_succ, List.setIfInBounds_toArray, List.set_cons_zero, List.set_cons_succ]
    refine wpAnyH_take (i := 4) (v := ?_) rfl (by kernel_rfl) (by kernel_rfl) (by kernel_rfl) (fun _ _ _ h => h) (Or.inl ⟨by rfl, ?_⟩) hS ?_
    rotate_left
    · (intro W hs; go_simp; first | done | with_reducible rfl)
    try simp only [Act.put, List.getElem_toArray, List.getElem_cons_zero, List.getElem_cons_succ, List.setIfInBounds_toArray, List.set_cons_zero, List.set_cons_succ]
    refine wpAnyH_take (i := 5) (v := ?_) rfl (by kernel_rfl) (by kernel_rfl) (by kernel_rfl) (fun _ _ _ h => h) (Or.inl ⟨by rfl, ?_⟩) hS ?_
    rotate_left
    · (intro W hs; go_simp; first | done | with_reducible rfl)
    try simp only [Act.put, List.getElem_toArray, List.getElem_cons_zero, List.getElem_cons_succ, List.setIfInBounds_toArray, List.set_cons_zero, List.set_cons_succ]
    refine wpAnyH_take (i := 6) (v := ?_) rfl (by kernel_rfl) (by kernel_rfl) (by kernel_rfl) (fun _ _ _ h => h) (Or.inl ⟨by rfl, ?_⟩) hS ?_
    rotate_left
    · (intro W hs; go_simp; first | done | with_reducible rfl)
    try simp only [Act.put, List.getElem_toArray, List.getElem_cons_zero, List.getElem_cons_succ, List.setIfInBounds_toArray, List.set_cons_zero, List.set_cons_succ]
    refine wpAnyH_take (i := 8) (v := ?_) rfl (by kernel_rfl) (by kernel_rfl) (by kernel_rfl) (fun _ _ _ h => h) (Or.inl ⟨by rfl, ?_⟩) hS ?_
    rotate_left
    · (intro W hs; go_simp; first | done | with_reducible rfl)
    try simp only [Act.put, List.getElem_toArray, List.getElem_cons_zero, List.getElem_cons_succ, List.setIfInBounds_toArray, List.set_cons_zero, List.set_cons_succ]
    refine wpAnyH_take (i := 9) (v := ?_) rfl (by kernel_rfl) (by kernel_rfl) (by kernel_rfl) (fun _ _ _ h => h) (Or.inl ⟨by rfl, ?_⟩) hS ?_
    rotate_left
    · (intro W hs; go_simp; first | done | with_reducible rfl)
    try simp only [Act.put, List.getElem_toArray, List.getElem_cons_zero, List.getElem_cons_succ, List.setIfInBounds_toArray, List.set_cons_zero, List.set_cons_succ]
    refine wpAnyH_take (i := 10) (v := ?_) rfl (by kernel_rfl) (by kernel_rfl) (by kernel_rfl) (fun _ _ _ h => h) (Or.inl ⟨by rfl, ?_⟩) hS ?_
    rotate_left
    · (intro W hs; go_simp; first | done | with_reducible rfl)
    try simp only [Act.put, List.getElem_toArray, List.getElem_cons_zero, List.getElem_cons_succ, List.setIfInBounds_toArray, List.set_cons_zero, List.set_cons_succ]
    refine wpH_one (i := 7) (by kernel_rfl) rfl (fun K hK => ?_)
    go_simp
    refine (CM.out _ hS).mono ?_
    rintro e w' ⟨rfl, rfl⟩
    refine hK.out _ _ (hS) (fun hS' => ?_)
    clear hK K hS
    have hS := hS'
    clear hS'
    try simp only [Act.put, List.getElem_toArray, List.getElem_cons_zero, List.getElem_cons_succ, List.setIfInBounds_toArray, List.set_cons_zero, List.set_cons_succ]
    refine wpAnyH_take (i := 11) (v := ?_) rfl (by kernel_rfl) (by kernel_rfl) (by kernel_rfl) (fun _ _ _ h => h) (Or.inl ⟨by rfl, ?_⟩) hS ?_
    rotate_left
    · (intro W hs; go_simp; first | done | with_reducible rfl)
    try simp only [Act.put, List.getElem_toArray, List.getElem_cons_zero, List.getElem_cons_succ, List.setIfInBounds_toArray, List.set_cons_zero, List.set_cons_succ]
    refine wpAnyH_take (i := 12) (v := ?_) rfl (by kernel_rfl) (by kernel_rfl) (by kernel_rfl) (fun _ _ _ h => h) (Or.inl ⟨by rfl, ?_⟩) hS ?_
    rotate_left
    · (intro W hs; go_simp; first | done | with_reducible rfl)
    try simp only [Act.put, List.getElem_toArray, List.getElem_cons_zero, List.getElem_cons_succ, List.setIfInBounds_toArray, List.set_cons_zero, List.set_cons_succ]
    refine wpAnyH_take (i := 13) (v := ?_) rfl (by kernel_rfl) (by kernel_rfl) (by kernel_rfl) (fun _ _ _ h => h) (Or.inl ⟨by rfl, ?_⟩) hS ?_
    rotate_left
    · (intro W hs; go_simp; first | done | with_reducible rfl)
    try simp only [Act.put, List.getElem_toArray, List.getElem_cons_zero, List.getElem_cons_succ, List.setIfInBounds_toArray, List.set_cons_zero, List.set_cons_succ]
    refine wpAnyH_take (i := 14) (v := ?_) rfl (by kernel_rfl) (by kernel_rfl) (by kernel_rfl) (fun _ _ _ h => h) (Or.inl ⟨by rfl, ?_⟩) hS ?_
    rotate_left
    · (intro W hs; go_simp; first | done | with_reducible rfl)
    try simp only [Act.put, List.getElem_toArray, List.getElem_cons_zero, List.getElem_cons_succ, List.setIfInBounds_toArray, List.set_cons_zero, List.set_cons_succ]
    refine wpAnyH_take (i := 15) (v := ?_) rfl (by kernel_rfl) (by kernel_rfl) (by kernel_rfl) (fun _ _ _ h => h) (Or.inl ⟨by rfl, ?_⟩) hS ?_
    rotate_left
    · (intro W hs; go_simp; first | done | with_reducible rfl)
    try simp only [Act.put, List.getElem_toArray, List.getElem_cons_zero, List.getElem_cons_succ, List.setIfInBounds_toArray, List.set_cons_zero, List.set_cons_succ]
    refine wpAnyH_take (i := 17) (v := ?_) rfl (by kernel_rfl) (by kernel_rfl) (by kernel_rfl) (fun _ _ _ h => h) (Or.inl ⟨by rfl, ?_⟩) hS ?_
    rotate_left
    · (intro W hs; go_simp; first | done | with_reducible rfl)
    try simp only [Act.put, List.getElem_toArray, List.getElem_cons_zero, List.getElem_cons_succ, List.setIfInBounds_toArray, List.set_cons_zero, List.set_cons_succ]
    refine wpAnyH_take (i := 18) (v := ?_) rfl (by kernel_rfl) (by kernel_rfl) (by kernel_rfl) (fun _ _ _ h => h) (Or.inl ⟨by rfl, ?_⟩) hS ?_
    rotate_left
    · (intro W hs; go_simp; first | done | with_reducible rfl)
    try simp only [Act.put, List.getElem_toArray, List.getElem_cons_zero, List.getElem_cons_succ, List.setIfInBounds_toArray, List.set_cons_zero, List.set_cons_succ]
    refine wpH_two (i := 16) (j := 19) (by kernel_rfl) rfl rfl (fun K hK => ?_) (fun K hK => ?_)
    · go_simp
      refine (CH.out _ hS).mono ?_
      rintro e w3 ⟨rfl, hfi⟩
      refine hK.out _ _ (hS.trans hfi) (fun hS' => ?_)
      clear hK K hS hfi
      have hS := hS'
      clear hS'
      try simp only [Act.put, List.getElem_toArray, List.getElem_cons_zero, List.getElem_cons_succ, List.setIfInBounds_toArray, List.set_cons_zero, List.set_cons_succ]
      refine wpH_one (i := 19) (by kernel_rfl) rfl (fun K hK => ?_)
      go_simp
      refine hK.out _ _ (hS.alloc _) (fun hS' => ?_)
      clear hK K hS
      have hS := hS'
      clear hS'
      try simp only [Act.put, List.getElem_toArray, List.getElem_cons_zero, List.getElem_cons_succ, List.setIfInBounds_toArray, List.set_cons_zero, List.set_cons_succ]
      have HSl : Hid (EdsV (w3.alloc (.cells #[.int .i64 xf, .int .i64 xt, .int .i64 xl] 25)) (fun _ => True) (.slice (some ⟨w3.heap.size, 0, none⟩) 1 1) [⟨xf, xt, xl⟩]) := Lib.hid (SlV.lit w3 25 #[.int .i64 xf, .int .i64 xt, .int .i64 xl] 3 1 rfl (by unfold maxLen; omega))
      refine wpH_one (i := 20) (by kernel_rfl) rfl (fun K hK => ?_)
      go_simp
      refine (docEdges_any HSl.out (by simp)).mono ?_
      rintro e w4 ⟨v4, rfl, hfi, ho⟩
      obtain ⟨gq, gcap, rfl, _, _⟩ := ownsRow_pos ho (by simp)
      obtain ⟨aq, cq, e4, _, _, hc4⟩ := EdsV.facts (OwnT.row ho)
      obtain ⟨bq, oq, rfl, _, d0, d1, d2⟩ := hc4 0 (by simp)
      simp only [Value.slice.injEq, Option.some.injEq, Addr.mk.injEq] at e4
      obtain ⟨⟨rfl, rfl, _⟩, _, rfl⟩ := e4
      simp only [Nat.zero_mul, Nat.add_zero, Nat.zero_add, gt, List.getD, List.getElem?_cons_zero, Option.getD_some] at d0 d1 d2
      refine hK.out _ _ (hS.trans hfi) (fun hS' => ?_)
      clear hK K hS hfi ho hc4
      have hS := hS'
      clear hS'
      try simp only [Act.put, List.getElem_toArray, List.getElem_cons_zero, List.getElem_cons_succ, List.setIfInBounds_toArray, List.set_cons_zero, List.set_cons_succ]
      refine wpH_one (i := 21) (by kernel_rfl) rfl (fun K hK => ?_)
      go_simp
      refine hK.out _ _ (hS) (fun hS' => ?_)
      clear hK K hS
      have hS := hS'
      clear hS'
      try simp only [Act.put, List.getElem_toArray, List.getElem_cons_zero, List.getElem_cons_succ, List.setIfInBounds_toArray, List.set_cons_zero, List.set_cons_succ]
      refine wpH_one (i := 22) (by kernel_rfl) rfl (fun K hK => ?_)
      go_simp
      refine hK.out _ _ (hS) (fun hS' => ?_)
      clear hK K hS
      have hS := hS'
      clear hS'
      try simp only [Act.put, List.getElem_toArray, List.getElem_cons_zero, List.getElem_cons_succ, List.setIfInBounds_toArray, List.set_cons_zero, List.set_cons_succ]
      refine wpH_one (i := 23) (by kernel_rfl) rfl (fun K hK => ?_)
      go_simp
      refine (CR.out _ hS).mono ?_
      rintro e w5 ⟨rfl, hfi⟩
      refine hK.out _ _ (hS.trans hfi) (fun hS' => ?_)
      clear hK K hS hfi
      have hS := hS'
      clear hS'
      try simp only [Act.put, List.getElem_toArray, List.getElem_cons_zero, List.getElem_cons_succ, List.setIfInBounds_toArray, List.set_cons_zero, List.set_cons_succ]
      refine wpAnyH_take (i := 24) (v := ?_) rfl (by kernel_rfl) (by kernel_rfl) (by kernel_rfl) (fun _ _ _ h => h) (Or.inl ⟨by rfl, ?_⟩) hS ?_
      rotate_left
      · (intro W hs; go_simp; first | done | with_reducible rfl)
      try simp only [Act.put, List.getElem_toArray, List.getElem_cons_zero, List.getElem_cons_succ, List.setIfInBounds_toArray, List.set_cons_zero, List.set_cons_succ]
      refine wpAnyH_take (i := 25) (v := ?_) rfl (by kernel_rfl) (by kernel_rfl) (by kernel_rfl) (fun _ _ _ h => h) (Or.inl ⟨by rfl, ?_⟩) hS ?_
      rotate_left
      · (intro W hs; go_simp; first | done | with_reducible rfl)
      try simp only [Act.put, List.getElem_toArray, List.getElem_cons_zero, List.getElem_cons_succ, List.setIfInBounds_toArray, List.set_cons_zero, List.set_cons_succ]
      refine wpAnyH_done (by kernel_rfl) ?_ _
      have HS := Lib.hid hS
      clear g0 g1 g2 g3 g4 s0 hS d0 d1 d2
      go_wp2_with fail
      go_meet
      exact ⟨rfl, HS.out⟩
    · go_simp
      have HSl := Lib.hid (SlV.lit w1.drew 25 #[.int .i64 xf, .int .i64 xt, .int .i64 xl] 3 1 rfl (by unfold maxLen; omega))
      refine hK.out _ _ (hS.alloc _) (fun hS' => ?_)
      clear hK K hS
      have hS := hS'
      clear hS'
      try simp only [Act.put, List.getElem_toArray, List.getElem_cons_zero, List.getElem_cons_succ, List.setIfInBounds_toArray, List.set_cons_zero, List.set_cons_succ]
      refine wpH_one (i := 16) (by kernel_rfl) rfl (fun K hK => ?_)
      go_simp
      refine (CH.out _ hS).mono ?_
      rintro e w3 ⟨rfl, hfi⟩
      have HSl : Hid (EdsV w3 (fun _ => True) (.slice (some ⟨w1.drew.heap.size, 0, none⟩) 1 1) [⟨xf, xt, xl⟩]) := Lib.hid (SlV.keep HSl.out hfi No.disj)
      refine hK.out _ _ (hS.trans hfi) (fun hS' => ?_)
      clear hK K hS hfi
      have hS := hS'
      clear hS'
      try simp only [Act.put, List.getElem_toArray, List.getElem_cons_zero, List.getElem_cons_succ, List.setIfInBounds_toArray, List.set_cons_zero, List.set_cons_succ]
      refine wpH_one (i := 20) (by kernel_rfl) rfl (fun K hK => ?_)
      go_simp
      refine (docEdges_any HSl.out (by simp)).mono ?_
      rintro e w4 ⟨v4, rfl, hfi, ho⟩
      obtain ⟨gq, gcap, rfl, _, _⟩ := ownsRow_pos ho (by simp)
      obtain ⟨aq, cq, e4, _, _, hc4⟩ := EdsV.facts (OwnT.row ho)
      obtain ⟨bq, oq, rfl, _, d0, d1, d2⟩ := hc4 0 (by simp)
      simp only [Value.slice.injEq, Option.some.injEq, Addr.mk.injEq] at e4
      obtain ⟨⟨rfl, rfl, _⟩, _, rfl⟩ := e4
      simp only [Nat.zero_mul, Nat.add_zero, Nat.zero_add, gt, List.getD, List.getElem?_cons_zero, Option.getD_some] at d0 d1 d2
      refine hK.out _ _ (hS.trans hfi) (fun hS' => ?_)
      clear hK K hS hfi ho hc4
      have hS := hS'
      clear hS'
      try simp only [Act.put, List.getElem_toArray, List.getElem_cons_zero, List.getElem_cons_succ, List.setIfInBounds_toArray, List.set_cons_zero, List.set_cons_succ]
      refine wpH_one (i := 21) (by kernel_rfl) rfl (fun K hK => ?_)
      go_simp
      refine hK.out _ _ (hS) (fun hS' => ?_)
      clear hK K hS
      have hS := hS'
      clear hS'
      try simp only [Act.put, List.getElem_toArray, List.getElem_cons_zero, List.getElem_cons_succ, List.setIfInBounds_toArray, List.set_cons_zero, List.set_cons_succ]
      refine wpH_one (i := 22) (by kernel_rfl) rfl (fun K hK => ?_)
      go_simp
      refine hK.out _ _ (hS) (fun hS' => ?_)
      clear hK K hS
      have hS := hS'
      clear hS'
      try simp only [Act.put, List.getElem_toArray, List.getElem_cons_zero, List.getElem_cons_succ, List.setIfInBounds_toArray, List.set_cons_zero, List.set_cons_succ]
      refine wpH_one (i := 23) (by kernel_rfl) rfl (fun K hK => ?_)
      go_simp
      refine (CR.out _ hS).mono ?_
      rintro e w5 ⟨rfl, hfi⟩
      refine hK.out _ _ (hS.trans hfi) (fun hS' => ?_)
      clear hK K hS hfi
      have hS := hS'
      clear hS'
      try simp only [Act.put, List.getElem_toArray, List.getElem_cons_zero, List.getElem_cons_succ, List.setIfInBounds_toArray, List.set_cons_zero, List.set_cons_succ]
      refine wpAnyH_take (i := 24) (v := ?_) rfl (by kernel_rfl) (by kernel_rfl) (by kernel_rfl) (fun _ _ _ h => h) (Or.inl ⟨by rfl, ?_⟩) hS ?_
      rotate_left
      · (intro W hs; go_simp; first | done | with_reducible rfl)
      try simp only [Act.put, List.getElem_toArray, List.getElem_cons_zero, List.getElem_cons_succ, List.setIfInBounds_toArray, List.set_cons_zero, List.set_cons_succ]
      refine wpAnyH_take (i := 25) (v := ?_) rfl (by kernel_rfl) (by kernel_rfl) (by kernel_rfl) (fun _ _ _ h => h) (Or.inl ⟨by rfl, ?_⟩) hS ?_
      rotate_left
      · (intro W hs; go_simp; first | done | with_reducible rfl)
      try simp only [Act.put, List.getElem_toArray, List.getElem_cons_zero, List.getElem_cons_succ, List.setIfInBounds_toArray, List.set_cons_zero, List.set_cons_succ]
      refine wpAnyH_done (by kernel_rfl) ?_ _
      have HS := Lib.hid hS
      clear g0 g1 g2 g3 g4 s0 hS d0 d1 d2
      go_wp2_with fail
      go_meet
      exact ⟨rfl, HS.out⟩
  case rest =>
    obtain ⟨wb, hwb⟩ : ∃ wb, wb = wc := ⟨_, rfl⟩
    subst hwb
    obtain ⟨rfl, hf⟩ := hcut
    have HFb : Hid (Fx No w wb) := Lib.hid (HF1.out.trans hf)
    have HB0 := Lib.hid (hf.cell' HC0.out (fun h => h))
    have HB1 := Lib.hid (hf.cell' HC1.out (fun h => h))
    have c0 := HB0.out
    clear hf e0 e1 e2 s0 c1 HE0 HE1 HE2
    go_upto_if 51 with fail
    go_cut [3] from 50 to 53 (fun v ws => v = .int .i64 k2 ∧ Fx No wb ws)
    case first =>
      by_cases hk : k < 0
      · have HE : Hid (k2 = (n : Int)) := Lib.hid (by rw [HK2.out, if_pos hk])
        go_wp2_with fail
        go_meet
        exact ⟨by rw [HE.out], Fx.refl _ _⟩
      · have HE : Hid (k2 = k) := Lib.hid (by rw [HK2.out, if_neg hk])
        go_wp2_with fail
        go_meet
        exact ⟨by rw [HE.out], Fx.refl _ _⟩
    case rest =>
      obtain ⟨wd, hwd⟩ : ∃ wd, wd = wc := ⟨_, rfl⟩
      subst hwd
      obtain ⟨rfl, hf⟩ := hcut
      have HFd : Hid (Fx No w wd) := Lib.hid (HFb.out.trans hf)
      have HD0 := Lib.hid (hf.cell' HB0.out (fun h => h))
      have HD1 := Lib.hid (hf.cell' HB1.out (fun h => h))
      have g0 : ∀ W, Fx No wd W → W.cell? ⟨cb, 0, none⟩ = some (.int .i64 (n : Nat)) := fun W h => h.cell' HD0.out (fun h => h)
      have g1 : ∀ W, Fx No wd W → W.cell? ⟨cb, 1, none⟩ = some (.slice ao L.length cap) := fun W h => h.cell' HD1.out (fun h => h)
      have s0 : Fx No wd wd := Fx.refl _ _
      have CS : Hid (∀ (fr tt : Int) W, Fx No wd W → Calls Try.prog 53 #[.agg #[.int .i64 (n : Nat), .slice ao L.length cap],   .int .i64 fr, .int .i64 tt] W fun e w' => ∃ v', e = .returned v' ∧ Fx No W w' ∧ OwnR w' W.heap.size v' (L.filter (someE fr tt))) := Lib.hid fun fr tt W hf => refSome_any (HR.out.no (HFd.out.trans hf)) (n : Int) fr tt hsm
      clear hf c0 HB0 HB1
      go_upto_region 5 with fail
      refine wp_region_H (fun W => Fx No wd W) (by kernel_rfl) s0.drew ?_
      intro hS
      refine wpAnyH_take (i := 0) (v := ?_) rfl (by kernel_rfl) (by kernel_rfl) (by kernel_rfl) (fun _ _ _ h => h) (Or.inl ⟨by rfl, ?_⟩) hS ?_
      rotate_left
      · (intro W hs; go_simp; first | done | with_reducible rfl)
      try simp only [Act.put, List.getElem_toArray, List.getElem_cons_zero, List.getElem_cons_succ, List.setIfInBounds_toArray, List.set_cons_zero, List.set_cons_succ]
      refine wpAnyH_take (i := 1) (v := ?_) rfl (by kernel_rfl) (by kernel_rfl) (by kernel_rfl) (fun _ _ _ h => h) (Or.inl ⟨by rfl, ?_⟩) hS ?_
      rotate_left
      · (intro W hs; go_simp; first | done | with_reducible rfl)
      try simp only [Act.put, List.getElem_toArray, List.getElem_cons_zero, List.getElem_cons_succ, List.setIfInBounds_toArray, List.set_cons_zero, List.set_cons_succ]
      refine wpAnyH_take (i := 3) (v := ?_) rfl (by kernel_rfl) (by kernel_rfl) (by kernel_rfl) (fun _ _ _ h => h) (Or.inl ⟨by rfl, ?_⟩) hS ?_
      rotate_left
      · (intro W hs; go_simp; first | done | with_reducible rfl)
      try simp only [Act.put, List.getElem_toArray, List.getElem_cons_zero, List.getElem_cons_succ, List.setIfInBounds_toArray, List.set_cons_zero, List.set_cons_succ]
      refine wpAnyH_take (i := 4) (v := ?_) rfl (by kernel_rfl) (by kernel_rfl) (by kernel_rfl) (fun _ _ _ h => h) (Or.inl ⟨by rfl, ?_⟩) hS ?_
      rotate_left
      · (intro W hs; go_simp; first | done | with_reducible rfl)
      try simp only [Act.put, List.getElem_toArray, List.getElem_cons_zero, List.getElem_cons_succ, List.setIfInBounds_toArray, List.set_cons_zero, List.set_cons_succ]
      refine wpAnyH_take (i := 6) (v := ?_) rfl (by kernel_rfl) (by kernel_rfl) (by kernel_rfl) (fun _ _ _ h => h) (Or.inl ⟨by rfl, ?_⟩) hS ?_
      rotate_left
      · (intro W hs; go_simp; first | done | with_reducible rfl)
      try simp only [Act.put, List.getElem_toArray, List.getElem_cons_zero, List.getElem_cons_succ, List.setIfInBounds_toArray, List.set_cons_zero, List.set_cons_succ]
      refine wpAnyH_take (i := 7) (v := ?_) rfl (by kernel_rfl) (by kernel_rfl) (by kernel_rfl) (fun _ _ _ h => h) (Or.inl ⟨by rfl, ?_⟩) hS ?_
      rotate_left
      · (intro W hs; go_simp; first | done | with_reducible rfl)
      try simp only [Act.put, List.getElem_toArray, List.getElem_cons_zero, List.getElem_cons_succ, List.setIfInBounds_toArray, List.set_cons_zero, List.set_cons_succ]
      refine wpAnyH_take (i := 8) (v := ?_) rfl (by kernel_rfl) (by kernel_rfl) (by kernel_rfl) (fun _ _ _ h => h) (Or.inl ⟨by rfl, ?_⟩) hS ?_
      rotate_left
      · (intro W hs; go_simp; first | done | with_reducible rfl)
      try simp only [Act.put, List.getElem_toArray, List.getElem_cons_zero, List.getElem_cons_succ, List.setIfInBounds_toArray, List.set_cons_zero, List.set_cons_succ]
      refine wpH_one (i := 2) (by kernel_rfl) rfl (fun K hK => ?_)
      go_simp
      refine (CS.out _ _ _ hS).mono ?_
      rintro e y1 ⟨v1, rfl, hfi, ho⟩
      have HV1 := Lib.hid ho
      refine hK.out _ _ (hS.trans hfi) (fun hS' => ?_)
      clear hK K hS hfi ho
      have hS := hS'
      clear hS'
      try simp only [Act.put, List.getElem_toArray, List.getElem_cons_zero, List.getElem_cons_succ, List.setIfInBounds_toArray, List.set_cons_zero, List.set_cons_succ]
      refine wpH_one (i := 5) (by kernel_rfl) rfl (fun K hK => ?_)
      go_simp
      refine (CS.out _ _ _ hS).mono ?_
      rintro e y2 ⟨v2, rfl, hfi, ho⟩
      have HV1 := Lib.hid (OwnT.no HV1.out hfi)
      have HV2 := Lib.hid ho
      refine hK.out _ _ (hS.trans hfi) (fun hS' => ?_)
      clear hK K hS hfi ho
      have hS := hS'
      clear hS'
      try simp only [Act.put, List.getElem_toArray, List.getElem_cons_zero, List.getElem_cons_succ, List.setIfInBounds_toArray, List.set_cons_zero, List.set_cons_succ]
      refine wpH_one (i := 9) (by kernel_rfl) rfl (fun K hK => ?_)
      go_simp
      refine (CS.out _ _ _ hS).mono ?_
      rintro e y3 ⟨v3, rfl, hfi, ho⟩
      have HV1 := Lib.hid (OwnT.no HV1.out hfi)
      have HV2 := Lib.hid (OwnT.no HV2.out hfi)
      have HV3 := Lib.hid ho
      refine hK.out _ _ (hS.trans hfi) (fun hS' => ?_)
      clear hK K hS hfi ho
      have hS := hS'
      clear hS'
      try simp only [Act.put, List.getElem_toArray, List.getElem_cons_zero, List.getElem_cons_succ, List.setIfInBounds_toArray, List.set_cons_zero, List.set_cons_succ]
      refine wpAnyH_take (i := 10) (v := ?_) rfl (by kernel_rfl) (by kernel_rfl) (by kernel_rfl) (fun _ _ _ h => h) (Or.inl ⟨by rfl, ?_⟩) hS ?_
      rotate_left
      · (intro W hs; go_simp; first | done | with_reducible rfl)
      try simp only [Act.put, List.getElem_toArray, List.getElem_cons_zero, List.getElem_cons_succ, List.setIfInBounds_toArray, List.set_cons_zero, List.set_cons_succ]
      refine wpAnyH_take (i := 11) (v := ?_) rfl (by kernel_rfl) (by kernel_rfl) (by kernel_rfl) (fun _ _ _ h => h) (Or.inl ⟨by rfl, ?_⟩) hS ?_
      rotate_left
      · (intro W hs; go_simp; first | done | with_reducible rfl)
      try simp only [Act.put, List.getElem_toArray, List.getElem_cons_zero, List.getElem_cons_succ, List.setIfInBounds_toArray, List.set_cons_zero, List.set_cons_succ]
      refine wpAnyH_take (i := 12) (v := ?_) rfl (by kernel_rfl) (by kernel_rfl) (by kernel_rfl) (fun _ _ _ h => h) (Or.inl ⟨by rfl, ?_⟩) hS ?_
      rotate_left
      · (intro W hs; go_simp; first | done | with_reducible rfl)
      try simp only [Act.put, List.getElem_toArray, List.getElem_cons_zero, List.getElem_cons_succ, List.setIfInBounds_toArray, List.set_cons_zero, List.set_cons_succ]
      refine wpAnyH_done (by kernel_rfl) ?_ _
      have HSy := Lib.hid hS
      clear g0 g1 s0 hS CS
      go_upto_if 65 with fail
      go_cut [11, 12, 13] from 64 to 65 (fun a b c ws => EdsV ws (fun _ => True) a F1 ∧ EdsV ws (fun _ => True) b F2 ∧ EdsV ws (fun _ => True) c F3 ∧ Fx No wd ws)
      case first =>
        by_cases hm : m < 0
        · go_wp2_with fail
          go_meet
          obtain ⟨h1, h2, h3⟩ := HN1.out hm
          rw [h1, h2, h3]
          exact ⟨RowV.nil _ _, RowV.nil _ _, RowV.nil _ _, HSy.out⟩
        · have hm0 : 0 ≤ m := by omega
          go_wp2_with fail
          go_meet
          rw [← HL1.out hm0, ← HL2.out hm0, ← HL3.out hm0]
          exact ⟨HV1.out.row.mono fun _ _ => trivial, HV2.out.row.mono fun _ _ => trivial, HV3.out.row.mono fun _ _ => trivial, HSy.out⟩
      case rest =>
        obtain ⟨wo, hwo⟩ : ∃ wo, wo = wc := ⟨_, rfl⟩
        subst hwo
        obtain ⟨hr1, hr2, hr3, hf⟩ := hcut
        have HFo : Hid (Fx No w wo) := Lib.hid (HFd.out.trans hf)
        have HO0 := Lib.hid (hf.cell' HD0.out (fun h => h))
        have HO1 := Lib.hid (hf.cell' HD1.out (fun h => h))
        have HR1 := Lib.hid hr1
        have HR2 := Lib.hid hr2
        have HR3 := Lib.hid hr3
        have HRo := Lib.hid (HR.out.no HFo.out)
        clear hf hr1 hr2 hr3 HD0 HD1 HSy HV1 HV2 HV3
        go_wp2
        go_loopw [14, 15, 16, 17, 18, 19, 20, 21, 22, 23] (fun t _ _ _ _ _ _ _ _ _ ws => ∃ τ : Nat, t = .int .i64 τ ∧ τ ≤ 2 ∧ Fx No wo ws) (fun t _ _ _ _ _ _ _ _ _ _ => 2 - (intOf t).toNat)
        case atStart => exact ⟨0, rfl, by omega, Fx.refl _ _⟩
        case round =>
          obtain ⟨τ, rfl, hτ, hf⟩ := hrel
          have HFt := Lib.hid hf
          have HFt0 := Lib.hid (HFo.out.trans hf)
          clear hf
          obtain ⟨wt, hwt⟩ : ∃ wt, wt = wr := ⟨_, rfl⟩
          subst hwt
          by_cases hτl : τ < 2
          · have hd2 : decide ((τ : Int) < 2) = true := decide_eq_true (by omega)
            have HTl := Lib.hid hτl
            go_wp2_with fail
            refine (gEdges_any (H.out.no HFt0.out)).mono ?_
            rintro e x1 ⟨v1, rfl, hf, ho⟩
            obtain ⟨a1, p1, rfl, _, _, _⟩ := EdsV.facts (OwnT.row ho)
            have HA1 := Lib.hid ho
            have HS1 : Hid (∀ g, (Value.slice a1 L.length p1).ownBlock = some g → wt.heap.size ≤ g ∧ g < x1.heap.size) := Lib.hid fun g e => World.ownsRow.lt ho g e
            have HP1 : Hid (0 < L.length → ∃ ga, a1 = some ⟨ga, 0, none⟩) := Lib.hid fun h0 => by
              obtain ⟨g, c, e, _⟩ := ownsRow_pos ho h0
              simp only [Value.slice.injEq] at e
              exact ⟨g, e.1⟩
            have HQ1 : Hid (Fx No wt x1) := Lib.hid (hf)
            have hz1 := hf.size
            clear hf ho
            go_wp2_with fail
            refine (HOut.out _ (HFt0.out.trans HQ1.out)).mono ?_
            rintro e x2 ⟨v2, rfl, hf, ho⟩
            obtain ⟨a2, p2, rfl, _, _, _⟩ := EdsV.facts (OwnT.row ho)
            have HA2 := Lib.hid ho
            have HS2 : Hid (∀ g, (Value.slice a2 F1.length p2).ownBlock = some g → x1.heap.size ≤ g ∧ g < x2.heap.size) := Lib.hid fun g e => World.ownsRow.lt ho g e
            have HP2 : Hid (0 < F1.length → ∃ ga, a2 = some ⟨ga, 0, none⟩) := Lib.hid fun h0 => by
              obtain ⟨g, c, e, _⟩ := ownsRow_pos ho h0
              simp only [Value.slice.injEq] at e
              exact ⟨g, e.1⟩
            have HA1 := Lib.hid (OwnT.no HA1.out hf)
            have HQ2 : Hid (Fx No wt x2) := Lib.hid (HQ1.out.trans hf)
            have hz2 := hf.size
            clear hf ho
            go_wp2_with fail
            refine (HIn.out _ (HFt0.out.trans HQ2.out)).mono ?_
            rintro e x3 ⟨v3, rfl, hf, ho⟩
            obtain ⟨a3, p3, rfl, _, _, _⟩ := EdsV.facts (OwnT.row ho)
            have HA3 := Lib.hid ho
            have HS3 : Hid (∀ g, (Value.slice a3 F2.length p3).ownBlock = some g → x2.heap.size ≤ g ∧ g < x3.heap.size) := Lib.hid fun g e => World.ownsRow.lt ho g e
            have HP3 : Hid (0 < F2.length → ∃ ga, a3 = some ⟨ga, 0, none⟩) := Lib.hid fun h0 => by
              obtain ⟨g, c, e, _⟩ := ownsRow_pos ho h0
              simp only [Value.slice.injEq] at e
              exact ⟨g, e.1⟩
            have HA1 := Lib.hid (OwnT.no HA1.out hf)
            have HA2 := Lib.hid (OwnT.no HA2.out hf)
            have HQ3 : Hid (Fx No wt x3) := Lib.hid (HQ2.out.trans hf)
            have hz3 := hf.size
            clear hf ho
            go_wp2_with fail
            refine (HBet.out _ (HFt0.out.trans HQ3.out)).mono ?_
            rintro e x4 ⟨v4, rfl, hf, ho⟩
            obtain ⟨a4, p4, rfl, _, _, _⟩ := EdsV.facts (OwnT.row ho)
            have HA4 := Lib.hid ho
            have HS4 : Hid (∀ g, (Value.slice a4 F3.length p4).ownBlock = some g → x3.heap.size ≤ g ∧ g < x4.heap.size) := Lib.hid fun g e => World.ownsRow.lt ho g e
            have HP4 : Hid (0 < F3.length → ∃ ga, a4 = some ⟨ga, 0, none⟩) := Lib.hid fun h0 => by
              obtain ⟨g, c, e, _⟩ := ownsRow_pos ho h0
              simp only [Value.slice.injEq] at e
              exact ⟨g, e.1⟩
            have HA1 := Lib.hid (OwnT.no HA1.out hf)
            have HA2 := Lib.hid (OwnT.no HA2.out hf)
            have HA3 := Lib.hid (OwnT.no HA3.out hf)
            have HQ4 : Hid (Fx No wt x4) := Lib.hid (HQ3.out.trans hf)
            have hz4 := hf.size
            clear hf ho
            go_wp2_with fail
            refine (HNxt.out _ (HFt0.out.trans HQ4.out)).mono ?_
            rintro e x5 ⟨v5, rfl, hf, ho⟩
            obtain ⟨a5, p5, rfl, n1, n2, n3, n4⟩ := id ho
            have HA5 := Lib.hid ho
            have HW5 := Lib.hid (CellsW.ofI ho)
            have HS5 : Hid (∀ g, (Value.slice a5 FN.length p5).ownBlock = some g → x4.heap.size ≤ g ∨ FN.length = 0) := Lib.hid fun g e => by
              rcases n4 with h | ⟨g', rfl, h6, h7, h8⟩
              · exact .inr (by rw [h]; rfl)
              · obtain rfl : g' = g := by simpa [Value.ownBlock] using e
                exact .inl h6
            have HP5 : Hid (0 < FN.length → ∃ ga, a5 = some ⟨ga, 0, none⟩) := Lib.hid fun h0 => by
              rcases n4 with h | ⟨g', rfl, h6, h7, h8⟩
              · rw [h] at h0; simp at h0
              · exact ⟨g', rfl⟩
            have HA1 := Lib.hid (OwnT.no HA1.out hf)
            have HA2 := Lib.hid (OwnT.no HA2.out hf)
            have HA3 := Lib.hid (OwnT.no HA3.out hf)
            have HA4 := Lib.hid (OwnT.no HA4.out hf)
            have HQ5 : Hid (Fx No wt x5) := Lib.hid (HQ4.out.trans hf)
            have hz5 := hf.size
            clear hf ho n1 n2 n3 n4
            have HQx : Hid (Fx No wo x5) := Lib.hid (HFt.out.trans HQ5.out)
            have hb0 : ∀ W, Fx No x5 W → W.cell? ⟨cb, 0, none⟩ = some (.int .i64 (n : Nat)) := fun W h => (HQx.out.trans h).cell' HO0.out (fun h => h)
            have hb1 : ∀ W, Fx No x5 W → W.cell? ⟨cb, 1, none⟩ = some (.slice ao L.length cap) := fun W h => (HQx.out.trans h).cell' HO1.out (fun h => h)
            have s0 : Fx No x5 x5 := Fx.refl _ _
            go_upto_region 12 with fail
            go_cut [119] from 85 to 119 (fun v ws => v = .bool false ∧ Fx No x5 ws)
            case first =>
              refine wp_region_H (fun W => Fx No x5 W) (by kernel_rfl) s0.drew ?_
              intro hS
              refine wpAnyH_take (i := 0) (v := ?_) rfl (by kernel_rfl) (by kernel_rfl) (by kernel_rfl) (fun _ _ _ h => h) (Or.inl ⟨by rfl, ?_⟩) hS ?_
              rotate_left
              · (intro W hs; go_simp; first | done | with_reducible rfl)
              try simp only [Act.put, List.getElem_toArray, List.getElem_cons_zero, List.getElem_cons_succ, List.setIfInBounds_toArray, List.set_cons_zero, List.set_cons_succ]
              refine wpAnyH_take (i := 2) (v := ?_) rfl (by kernel_rfl) (by kernel_rfl) (by kernel_rfl) (fun _ _ _ h => h) (Or.inl ⟨by rfl, ?_⟩) hS ?_
              rotate_left
              · (intro W hs; go_simp; first | done | with_reducible rfl)
              try simp only [Act.put, List.getElem_toArray, List.getElem_cons_zero, List.getElem_cons_succ, List.setIfInBounds_toArray, List.set_cons_zero, List.set_cons_succ]
              refine wpAnyH_take (i := 3) (v := ?_) rfl (by kernel_rfl) (by kernel_rfl) (by kernel_rfl) (fun _ _ _ h => h) (Or.inl ⟨by rfl, ?_⟩) hS ?_
              rotate_left
              · (intro W hs; go_simp; first | done | with_reducible rfl)
              try simp only [Act.put, List.getElem_toArray, List.getElem_cons_zero, List.getElem_cons_succ, List.setIfInBounds_toArray, List.set_cons_zero, List.set_cons_succ]
              refine wpH_one (i := 1) (by kernel_rfl) rfl (fun K hK => ?_)
              go_simp
              refine (docEdges_any ((OwnT.row HA1.out).no hS) hsm).mono ?_
              rintro e y1 ⟨u1, rfl, hfi, ho⟩
              have HY := Lib.hid (OwnT.row ho)
              refine hK.out _ _ (hS.trans hfi) (fun hS' => ?_)
              clear hK K hS hfi ho
              have hS := hS'
              clear hS'
              try simp only [Act.put, List.getElem_toArray, List.getElem_cons_zero, List.getElem_cons_succ, List.setIfInBounds_toArray, List.set_cons_zero, List.set_cons_succ]
              refine wpH_one (i := 4) (by kernel_rfl) rfl (fun K hK => ?_)
              go_simp
              refine (sameEdges_any HY.out (HRo.out.no (HQx.out.trans hS))).mono ?_
              rintro e y ⟨rfl, hfi⟩
              rw [decide_eq_true (rfl : L = L)]
              refine hK.out _ _ (hS.trans hfi) (fun hS' => ?_)
              clear hK K hS hfi HY
              have hS := hS'
              clear hS'
              try simp only [Act.put, List.getElem_toArray, List.getElem_cons_zero, List.getElem_cons_succ, List.setIfInBounds_toArray, List.set_cons_zero, List.set_cons_succ]
              refine wpAnyH_take (i := 5) (v := ?_) rfl (by kernel_rfl) (by kernel_rfl) (by kernel_rfl) (fun _ _ _ h => h) (Or.inl ⟨by rfl, ?_⟩) hS ?_
              rotate_left
              · (intro W hs; go_simp; first | done | with_reducible rfl)
              try simp only [Act.put, List.getElem_toArray, List.getElem_cons_zero, List.getElem_cons_succ, List.setIfInBounds_toArray, List.set_cons_zero, List.set_cons_succ]
              refine wpAnyH_take (i := 6) (v := ?_) rfl (by kernel_rfl) (by kernel_rfl) (by kernel_rfl) (fun _ _ _ h => h) (Or.inl ⟨by rfl, ?_⟩) hS ?_
              rotate_left
              · (intro W hs; go_simp; first | done | with_reducible rfl)
              try simp only [Act.put, List.getElem_toArray, List.getElem_cons_zero, List.getElem_cons_succ, List.setIfInBounds_toArray, List.set_cons_zero, List.set_cons_succ]
              refine wpAnyH_take (i := 7) (v := ?_) rfl (by kernel_rfl) (by kernel_rfl) (by kernel_rfl) (fun _ _ _ h => h) (Or.inl ⟨by rfl, ?_⟩) hS ?_
              rotate_left
              · (intro W hs; go_simp; first | done | with_reducible rfl)
              try simp only [Act.put, List.getElem_toArray, List.getElem_cons_zero, List.getElem_cons_succ, List.setIfInBounds_toArray, List.set_cons_zero, List.set_cons_succ]
              refine wpAnyH_take (i := 9) (v := ?_) rfl (by kernel_rfl) (by kernel_rfl) (by kernel_rfl) (fun _ _ _ h => h) (Or.inl ⟨by rfl, ?_⟩) hS ?_
              rotate_left
              · (intro W hs; go_simp; first | done | with_reducible rfl)
              try simp only [Act.put, List.getElem_toArray, List.getElem_cons_zero, List.getElem_cons_succ, List.setIfInBounds_toArray, List.set_cons_zero, List.set_cons_succ]
              refine wpH_one (i := 8) (by kernel_rfl) rfl (fun K hK => ?_)
              go_simp
              refine (docEdges_any ((OwnT.row HA2.out).no hS) hl1).mono ?_
              rintro e y2 ⟨u2, rfl, hfi, ho⟩
              have HY := Lib.hid (OwnT.row ho)
              refine hK.out _ _ (hS.trans hfi) (fun hS' => ?_)
              clear hK K hS hfi ho
              have hS := hS'
              clear hS'
              try simp only [Act.put, List.getElem_toArray, List.getElem_cons_zero, List.getElem_cons_succ, List.setIfInBounds_toArray, List.set_cons_zero, List.set_cons_succ]
              refine wpH_one (i := 10) (by kernel_rfl) rfl (fun K hK => ?_)
              go_simp
              refine (sameEdges_any HY.out (HR1.out.no (HQx.out.trans hS))).mono ?_
              rintro e y ⟨rfl, hfi⟩
              rw [decide_eq_true (rfl : F1 = F1)]
              refine hK.out _ _ (hS.trans hfi) (fun hS' => ?_)
              clear hK K hS hfi HY
              have hS := hS'
              clear hS'
              try simp only [Act.put, List.getElem_toArray, List.getElem_cons_zero, List.getElem_cons_succ, List.setIfInBounds_toArray, List.set_cons_zero, List.set_cons_succ]
              refine wpAnyH_take (i := 11) (v := ?_) rfl (by kernel_rfl) (by kernel_rfl) (by kernel_rfl) (fun _ _ _ h => h) (Or.inl ⟨by rfl, ?_⟩) hS ?_
              rotate_left
              · (intro W hs; go_simp; first | done | with_reducible rfl)
              try simp only [Act.put, List.getElem_toArray, List.getElem_cons_zero, List.getElem_cons_succ, List.setIfInBounds_toArray, List.set_cons_zero, List.set_cons_succ]
              refine wpAnyH_take (i := 12) (v := ?_) rfl (by kernel_rfl) (by kernel_rfl) (by kernel_rfl) (fun _ _ _ h => h) (Or.inl ⟨by rfl, ?_⟩) hS ?_
              rotate_left
              · (intro W hs; go_simp; first | done | with_reducible rfl)
              try simp only [Act.put, List.getElem_toArray, List.getElem_cons_zero, List.getElem_cons_succ, List.setIfInBounds_toArray, List.set_cons_zero, List.set_cons_succ]
              refine wpAnyH_take (i := 13) (v := ?_) rfl (by kernel_rfl) (by kernel_rfl) (by kernel_rfl) (fun _ _ _ h => h) (Or.inl ⟨by rfl, ?_⟩) hS ?_
              rotate_left
              · (intro W hs; go_simp; first | done | with_reducible rfl)
              try simp only [Act.put, List.getElem_toArray, List.getElem_cons_zero, List.getElem_cons_succ, List.setIfInBounds_toArray, List.set_cons_zero, List.set_cons_succ]
              refine wpAnyH_take (i := 14) (v := ?_) rfl (by kernel_rfl) (by kernel_rfl) (by kernel_rfl) (fun _ _ _ h => h) (Or.inl ⟨by rfl, ?_⟩) hS ?_
              rotate_left
              · (intro W hs; go_simp; first | done | with_reducible rfl)
              try simp only [Act.put, List.getElem_toArray, List.getElem_cons_zero, List.getElem_cons_succ, List.setIfInBounds_toArray, List.set_cons_zero, List.set_cons_succ]
              refine wpAnyH_take (i := 16) (v := ?_) rfl (by kernel_rfl) (by kernel_rfl) (by kernel_rfl) (fun _ _ _ h => h) (Or.inl ⟨by rfl, ?_⟩) hS ?_
              rotate_left
              · (intro W hs; go_simp; first | done | with_reducible rfl)
              try simp only [Act.put, List.getElem_toArray, List.getElem_cons_zero, List.getElem_cons_succ, List.setIfInBounds_toArray, List.set_cons_zero, List.set_cons_succ]
              refine wpH_one (i := 15) (by kernel_rfl) rfl (fun K hK => ?_)
              go_simp
              refine (docEdges_any ((OwnT.row HA3.out).no hS) hl2).mono ?_
              rintro e y3 ⟨u3, rfl, hfi, ho⟩
              have HY := Lib.hid (OwnT.row ho)
              refine hK.out _ _ (hS.trans hfi) (fun hS' => ?_)
              clear hK K hS hfi ho
              have hS := hS'
              clear hS'
              try simp only [Act.put, List.getElem_toArray, List.getElem_cons_zero, List.getElem_cons_succ, List.setIfInBounds_toArray, List.set_cons_zero, List.set_cons_succ]
              refine wpH_one (i := 17) (by kernel_rfl) rfl (fun K hK => ?_)
              go_simp
              refine (sameEdges_any HY.out (HR2.out.no (HQx.out.trans hS))).mono ?_
              rintro e y ⟨rfl, hfi⟩
              rw [decide_eq_true (rfl : F2 = F2)]
              refine hK.out _ _ (hS.trans hfi) (fun hS' => ?_)
              clear hK K hS hfi HY
              have hS := hS'
              clear hS'
              try simp only [Act.put, List.getElem_toArray, List.getElem_cons_zero, List.getElem_cons_succ, List.setIfInBounds_toArray, List.set_cons_zero, List.set_cons_succ]
              refine wpAnyH_take (i := 18) (v := ?_) rfl (by kernel_rfl) (by kernel_rfl) (by kernel_rfl) (fun _ _ _ h => h) (Or.inl ⟨by rfl, ?_⟩) hS ?_
              rotate_left
              · (intro W hs; go_simp; first | done | with_reducible rfl)
              try simp only [Act.put, List.getElem_toArray, List.getElem_cons_zero, List.getElem_cons_succ, List.setIfInBounds_toArray, List.set_cons_zero, List.set_cons_succ]
              refine wpAnyH_take (i := 19) (v := ?_) rfl (by kernel_rfl) (by kernel_rfl) (by kernel_rfl) (fun _ _ _ h => h) (Or.inl ⟨by rfl, ?_⟩) hS ?_
              rotate_left
              · (intro W hs; go_simp; first | done | with_reducible rfl)
              try simp only [Act.put, List.getElem_toArray, List.getElem_cons_zero, List.getElem_cons_succ, List.setIfInBounds_toArray, List.set_cons_zero, List.set_cons_succ]
              refine wpAnyH_take (i := 20) (v := ?_) rfl (by kernel_rfl) (by kernel_rfl) (by kernel_rfl) (fun _ _ _ h => h) (Or.inl ⟨by rfl, ?_⟩) hS ?_
              rotate_left
              · (intro W hs; go_simp; first | done | with_reducible rfl)
              try simp only [Act.put, List.getElem_toArray, List.getElem_cons_zero, List.getElem_cons_succ, List.setIfInBounds_toArray, List.set_cons_zero, List.set_cons_succ]
              refine wpAnyH_take (i := 21) (v := ?_) rfl (by kernel_rfl) (by kernel_rfl) (by kernel_rfl) (fun _ _ _ h => h) (Or.inl ⟨by rfl, ?_⟩) hS ?_
              rotate_left
              · (intro W hs; go_simp; first | done | with_reducible rfl)
              try simp only [Act.put, List.getElem_toArray, List.getElem_cons_zero, List.getElem_cons_succ, List.setIfInBounds_toArray, List.set_cons_zero, List.set_cons_succ]
              refine wpAnyH_take (i := 23) (v := ?_) rfl (by kernel_rfl) (by kernel_rfl) (by kernel_rfl) (fun _ _ _ h => h) (Or.inl ⟨by rfl, ?_⟩) hS ?_
              rotate_left
              · (intro W hs; go_simp; first | done | with_reducible rfl)
              try simp only [Act.put, List.getElem_toArray, List.getElem_cons_zero, List.getElem_cons_succ, List.setIfInBounds_toArray, List.set_cons_zero, List.set_cons_succ]
              refine wpH_one (i := 22) (by kernel_rfl) rfl (fun K hK => ?_)
              go_simp
              refine (docEdges_any ((OwnT.row HA4.out).no hS) hl3).mono ?_
              rintro e y4 ⟨u4, rfl, hfi, ho⟩
              have HY := Lib.hid (OwnT.row ho)
              refine hK.out _ _ (hS.trans hfi) (fun hS' => ?_)
              clear hK K hS hfi ho
              have hS := hS'
              clear hS'
              try simp only [Act.put, List.getElem_toArray, List.getElem_cons_zero, List.getElem_cons_succ, List.setIfInBounds_toArray, List.set_cons_zero, List.set_cons_succ]
              refine wpH_one (i := 24) (by kernel_rfl) rfl (fun K hK => ?_)
              go_simp
              refine (sameEdges_any HY.out (HR3.out.no (HQx.out.trans hS))).mono ?_
              rintro e y ⟨rfl, hfi⟩
              rw [decide_eq_true (rfl : F3 = F3)]
              refine hK.out _ _ (hS.trans hfi) (fun hS' => ?_)
              clear hK K hS hfi HY
              have hS := hS'
              clear hS'
              try simp only [Act.put, List.getElem_toArray, List.getElem_cons_zero, List.getElem_cons_succ, List.setIfInBounds_toArray, List.set_cons_zero, List.set_cons_succ]
              refine wpAnyH_take (i := 25) (v := ?_) rfl (by kernel_rfl) (by kernel_rfl) (by kernel_rfl) (fun _ _ _ h => h) (Or.inl ⟨by rfl, ?_⟩) hS ?_
              rotate_left
              · (intro W hs; go_simp; first | done | with_reducible rfl)
              try simp only [Act.put, List.getElem_toArray, List.getElem_cons_zero, List.getElem_cons_succ, List.setIfInBounds_toArray, List.set_cons_zero, List.set_cons_succ]
              refine wpAnyH_take (i := 26) (v := ?_) rfl (by kernel_rfl) (by kernel_rfl) (by kernel_rfl) (fun _ _ _ h => h) (Or.inl ⟨by rfl, ?_⟩) hS ?_
              rotate_left
              · (intro W hs; go_simp; first | done | with_reducible rfl)
              try simp only [Act.put, List.getElem_toArray, List.getElem_cons_zero, List.getElem_cons_succ, List.setIfInBounds_toArray, List.set_cons_zero, List.set_cons_succ]
              refine wpAnyH_take (i := 27) (v := ?_) rfl (by kernel_rfl) (by kernel_rfl) (by kernel_rfl) (fun _ _ _ h => h) (Or.inl ⟨by rfl, ?_⟩) hS ?_
              rotate_left
              · (intro W hs; go_simp; first | done | with_reducible rfl)
              try simp only [Act.put, List.getElem_toArray, List.getElem_cons_zero, List.getElem_cons_succ, List.setIfInBounds_toArray, List.set_cons_zero, List.set_cons_succ]
              refine wpAnyH_take (i := 28) (v := ?_) rfl (by kernel_rfl) (by kernel_rfl) (by kernel_rfl) (fun _ _ _ h => h) (Or.inl ⟨by rfl, ?_⟩) hS ?_
              rotate_left
              · (intro W hs; go_simp; first | done | with_reducible rfl)
              try simp only [Act.put, List.getElem_toArray, List.getElem_cons_zero, List.getElem_cons_succ, List.setIfInBounds_toArray, List.set_cons_zero, List.set_cons_succ]
              refine wpAnyH_take (i := 29) (v := ?_) rfl (by kernel_rfl) (by kernel_rfl) (by kernel_rfl) (fun _ _ _ h => h) (Or.inl ⟨by rfl, ?_⟩) hS ?_
              rotate_left
              · (intro W hs; go_simp; first | done | with_reducible rfl)
              try simp only [Act.put, List.getElem_toArray, List.getElem_cons_zero, List.getElem_cons_succ, List.setIfInBounds_toArray, List.set_cons_zero, List.set_cons_succ]
              refine wpAnyH_take (i := 30) (v := ?_) rfl (by kernel_rfl) (by kernel_rfl) (by kernel_rfl) (fun _ _ _ h => h) (Or.inl ⟨by rfl, ?_⟩) hS ?_
              rotate_left
              · (intro W hs; go_simp; first | done | with_reducible rfl)
              try simp only [Act.put, List.getElem_toArray, List.getElem_cons_zero, List.getElem_cons_succ, List.setIfInBounds_toArray, List.set_cons_zero, List.set_cons_succ]
              refine wpH_one (i := 31) (by kernel_rfl) rfl (fun K hK => ?_)
              go_simp
              refine (refNext_any (HRo.out.no (HQx.out.trans hS)) (n : Int) m hsm).mono ?_
              rintro e y9 ⟨u9, rfl, hfi, ho⟩
              rw [HLN.out] at ho
              have HY := Lib.hid (RowI.toInts ho)
              refine hK.out _ _ (hS.trans hfi) (fun hS' => ?_)
              clear hK K hS hfi ho
              have hS := hS'
              clear hS'
              try simp only [Act.put, List.getElem_toArray, List.getElem_cons_zero, List.getElem_cons_succ, List.setIfInBounds_toArray, List.set_cons_zero, List.set_cons_succ]
              refine wpH_one (i := 32) (by kernel_rfl) rfl (fun K hK => ?_)
              go_simp
              refine (sameInts_any ((RowI.toInts HA5.out).keep hS No.disj) HY.out).mono ?_
              rintro e y ⟨rfl, hfi⟩
              rw [beq_self_eq_true]
              refine hK.out _ _ (hS.trans hfi) (fun hS' => ?_)
              clear hK K hS hfi HY
              have hS := hS'
              clear hS'
              try simp only [Act.put, List.getElem_toArray, List.getElem_cons_zero, List.getElem_cons_succ, List.setIfInBounds_toArray, List.set_cons_zero, List.set_cons_succ]
              refine wpAnyH_take (i := 33) (v := ?_) rfl (by kernel_rfl) (by kernel_rfl) (by kernel_rfl) (fun _ _ _ h => h) (Or.inl ⟨by rfl, ?_⟩) hS ?_
              rotate_left
              · (intro W hs; go_simp; first | done | with_reducible rfl)
              try simp only [Act.put, List.getElem_toArray, List.getElem_cons_zero, List.getElem_cons_succ, List.setIfInBounds_toArray, List.set_cons_zero, List.set_cons_succ]
              refine wpAnyH_take (i := 34) (v := ?_) rfl (by kernel_rfl) (by kernel_rfl) (by kernel_rfl) (fun _ _ _ h => h) (Or.inl ⟨by rfl, ?_⟩) hS ?_
              rotate_left
              · (intro W hs; go_simp; first | done | with_reducible rfl)
              try simp only [Act.put, List.getElem_toArray, List.getElem_cons_zero, List.getElem_cons_succ, List.setIfInBounds_toArray, List.set_cons_zero, List.set_cons_succ]
              refine wpAnyH_done (by kernel_rfl) ?_ _
              have HS := Lib.hid hS
              clear hb0 hb1 s0 hS
              go_wp2_with fail
              go_meet
              exact ⟨rfl, HS.out⟩
            case rest =>
              obtain ⟨z0, hz0'⟩ : ∃ z, z = wc := ⟨_, rfl⟩
              subst hz0'
              obtain ⟨rfl, hf⟩ := hcut
              have HT : Hid (Fx No wt z0) := Lib.hid (HQ5.out.trans hf)
              have HW1 : Hid (CellsW z0 (.slice a1 L.length p1) (L.length * 3)) := Lib.hid (by have := (CellsW.of HA1.out).fx hf (fun _ _ h => h); rw [icells_length e3_len] at this; exact this)
              have HW2 : Hid (CellsW z0 (.slice a2 F1.length p2) (F1.length * 3)) := Lib.hid (by have := (CellsW.of HA2.out).fx hf (fun _ _ h => h); rw [icells_length e3_len] at this; exact this)
              have HW3 : Hid (CellsW z0 (.slice a3 F2.length p3) (F2.length * 3)) := Lib.hid (by have := (CellsW.of HA3.out).fx hf (fun _ _ h => h); rw [icells_length e3_len] at this; exact this)
              have HW5 : Hid (CellsW z0 (.slice a5 FN.length p5) FN.length) := Lib.hid (HW5.out.fx hf (fun _ _ h => h))
              have HN12 : Hid (∀ g, (Value.slice a2 F1.length p2).ownBlock = some g → ¬ (Value.slice a1 L.length p1).ownBlock = some g) := Lib.hid fun g e1 e2 => by have := HS2.out g e1; have := HS1.out g e2; omega
              have HN13 : Hid (∀ g, (Value.slice a3 F2.length p3).ownBlock = some g → ¬ (Value.slice a1 L.length p1).ownBlock = some g) := Lib.hid fun g e1 e2 => by have := HS3.out g e1; have := HS1.out g e2; omega
              have HN23 : Hid (∀ g, (Value.slice a3 F2.length p3).ownBlock = some g → ¬ (Value.slice a2 F1.length p2).ownBlock = some g) := Lib.hid fun g e1 e2 => by have := HS3.out g e1; have := HS2.out g e2; omega
              have HLo1 : Hid (∀ g, (Value.slice a1 L.length p1).ownBlock = some g → wt.heap.size ≤ g) := Lib.hid fun g e => (HS1.out g e).1
              have HLo2 : Hid (∀ g, (Value.slice a2 F1.length p2).ownBlock = some g → wt.heap.size ≤ g) := Lib.hid fun g e => by have := HS2.out g e; omega
              have HLo3 : Hid (∀ g, (Value.slice a3 F2.length p3).ownBlock = some g → wt.heap.size ≤ g) := Lib.hid fun g e => by have := HS3.out g e; omega
              clear hf hb0 hb1 s0 HA1 HA2 HA3 HA4 HA5
              go_wp2
              go_loopw [20] (fun i ws => ∃ q : Nat, i = .int .i64 q ∧ q ≤ L.length ∧ Fx (fun x => (Value.slice a1 L.length p1).ownBlock = some x) z0 ws ∧ CellsW ws (Value.slice a1 L.length p1) (L.length * 3)) (fun i _ => L.length - (intOf i).toNat)
              case atStart => exact ⟨0, rfl, Nat.zero_le _, Fx.refl _ _, HW1.out⟩
              case round =>
                obtain ⟨q, rfl, hq, hf, hw⟩ := hrel
                have HFq := Lib.hid hf
                have HWq := Lib.hid hw
                clear hf hw
                by_cases hql : q < L.length
                · have hq1 : (q : Int) < (L.length : Int) := by omega
                  have hq0 : (0 : Int) ≤ (q : Int) := by omega
                  obtain ⟨ga, rfl⟩ := HP1.out (by omega)
                  obtain ⟨u, c1, c2⟩ := HWq.out ga (q * 3) rfl (by omega)
                  go_wp2
                  go_roundw
                  case rel => exact ⟨q + 1, by go_num, by omega, HFq.out.setCell (a := ⟨ga, q * 3, none⟩) (.inr rfl) _, HWq.out.put rfl _⟩
                  case measure => simp [intOf]; omega
                · have hdF : decide ((q : Int) < (L.length : Int)) = false := decide_eq_false (by omega)
                  have hdF2 : decide (q < L.length) = false := decide_eq_false hql
                  have HW2 := Lib.hid (HW2.out.fx HFq.out HN12.out)
                  have HW3 := Lib.hid (HW3.out.fx HFq.out HN13.out)
                  have HW5 : Hid (CellsW wr (.slice a5 FN.length p5) FN.length) := Lib.hid (by
                    rcases Nat.eq_zero_or_pos FN.length with h | h
                    · intro g j _ hj; omega
                    · exact HW5.out.fx HFq.out fun g e1 e2 => by have := HS5.out g e1; have := (HS1.out g e2).2; omega)
                  have HT : Hid (Fx No wt wr) := Lib.hid (HT.out.trans' HFq.out fun g e hl => by have := HLo1.out g e; omega)
                  obtain ⟨z1, hz1'⟩ : ∃ z, z = wr := ⟨_, rfl⟩
                  subst hz1'
                  clear hql
                  go_wp2
                  go_loopw [21] (fun i ws => ∃ q : Nat, i = .int .i64 q ∧ q ≤ F1.length ∧ Fx (fun x => (Value.slice a2 F1.length p2).ownBlock = some x) z1 ws ∧ CellsW ws (Value.slice a2 F1.length p2) (F1.length * 3)) (fun i _ => F1.length - (intOf i).toNat)
                  case atStart => exact ⟨0, rfl, Nat.zero_le _, Fx.refl _ _, HW2.out⟩
                  case round =>
                    obtain ⟨q, rfl, hq, hf, hw⟩ := hrel
                    have HFq := Lib.hid hf
                    have HWq := Lib.hid hw
                    clear hf hw
                    by_cases hql : q < F1.length
                    · have hq1 : (q : Int) < (F1.length : Int) := by omega
                      have hq0 : (0 : Int) ≤ (q : Int) := by omega
                      obtain ⟨ga, rfl⟩ := HP2.out (by omega)
                      obtain ⟨u, c1, c2⟩ := HWq.out ga (q * 3 + 1) rfl (by omega)
                      go_wp2
                      go_roundw
                      case rel => exact ⟨q + 1, by go_num, by omega, HFq.out.setCell (a := ⟨ga, q * 3 + 1, none⟩) (.inr rfl) _, HWq.out.put rfl _⟩
                      case measure => simp [intOf]; omega
                    · have hdF : decide ((q : Int) < (F1.length : Int)) = false := decide_eq_false (by omega)
                      have hdF2 : decide (q < F1.length) = false := decide_eq_false hql
                      have HW3 := Lib.hid (HW3.out.fx HFq.out HN23.out)
                      have HW5 : Hid (CellsW wr (.slice a5 FN.length p5) FN.length) := Lib.hid (by
                        rcases Nat.eq_zero_or_pos FN.length with h | h
                        · intro g j _ hj; omega
                        · exact HW5.out.fx HFq.out fun g e1 e2 => by have := HS5.out g e1; have := (HS2.out g e2).2; omega)
                      have HT : Hid (Fx No wt wr) := Lib.hid (HT.out.trans' HFq.out fun g e hl => by have := HLo2.out g e; omega)
                      obtain ⟨z2, hz2'⟩ : ∃ z, z = wr := ⟨_, rfl⟩
                      subst hz2'
                      clear hql
                      go_wp2
                      go_loopw [22] (fun i ws => ∃ q : Nat, i = .int .i64 q ∧ q ≤ F2.length ∧ Fx (fun x => (Value.slice a3 F2.length p3).ownBlock = some x) z2 ws ∧ CellsW ws (Value.slice a3 F2.length p3) (F2.length * 3)) (fun i _ => F2.length - (intOf i).toNat)
                      case atStart => exact ⟨0, rfl, Nat.zero_le _, Fx.refl _ _, HW3.out⟩
                      case round =>
                        obtain ⟨q, rfl, hq, hf, hw⟩ := hrel
                        have HFq := Lib.hid hf
                        have HWq := Lib.hid hw
                        clear hf hw
                        by_cases hql : q < F2.length
                        · have hq1 : (q : Int) < (F2.length : Int) := by omega
                          have hq0 : (0 : Int) ≤ (q : Int) := by omega
                          obtain ⟨ga, rfl⟩ := HP3.out (by omega)
                          obtain ⟨u, c1, c2⟩ := HWq.out ga (q * 3 + 1) rfl (by omega)
                          go_wp2
                          go_roundw
                          case rel => exact ⟨q + 1, by go_num, by omega, HFq.out.setCell (a := ⟨ga, q * 3 + 1, none⟩) (.inr rfl) _, HWq.out.put rfl _⟩
                          case measure => simp [intOf]; omega
                        · have hdF : decide ((q : Int) < (F2.length : Int)) = false := decide_eq_false (by omega)
                          have hdF2 : decide (q < F2.length) = false := decide_eq_false hql
                          have HW5 : Hid (CellsW wr (.slice a5 FN.length p5) FN.length) := Lib.hid (by
                            rcases Nat.eq_zero_or_pos FN.length with h | h
                            · intro g j _ hj; omega
                            · exact HW5.out.fx HFq.out fun g e1 e2 => by have := HS5.out g e1; have := (HS3.out g e2).2; omega)
                          have HT : Hid (Fx No wt wr) := Lib.hid (HT.out.trans' HFq.out fun g e hl => by have := HLo3.out g e; omega)
                          obtain ⟨z3, hz3'⟩ : ∃ z, z = wr := ⟨_, rfl⟩
                          subst hz3'
                          clear hql
                          go_wp2
                          go_loopw [23] (fun i ws => ∃ q : Nat, i = .int .i64 q ∧ q ≤ FN.length ∧ Fx (fun x => x4.heap.size ≤ x) z3 ws ∧ CellsW ws (Value.slice a5 FN.length p5) FN.length) (fun i _ => FN.length - (intOf i).toNat)
                          case atStart => exact ⟨0, rfl, Nat.zero_le _, Fx.refl _ _, HW5.out⟩
                          case round =>
                            obtain ⟨q, rfl, hq, hf, hw⟩ := hrel
                            have HFq := Lib.hid hf
                            have HWq := Lib.hid hw
                            clear hf hw
                            by_cases hql : q < FN.length
                            · have hq1 : (q : Int) < (FN.length : Int) := by omega
                              have hq0 : (0 : Int) ≤ (q : Int) := by omega
                              obtain ⟨ga, rfl⟩ := HP5.out (by omega)
                              obtain ⟨u, c1, c2⟩ := HWq.out ga q rfl (by omega)
                              go_wp2
                              go_roundw
                              case rel => exact ⟨q + 1, by go_num, by omega, HFq.out.setCell (a := ⟨ga, q, none⟩) (.inr (by have := HS5.out ga rfl; show x4.heap.size ≤ ga; omega)) _, HWq.out.put rfl _⟩
                              case measure => simp [intOf]; omega
                            · have hdF : decide ((q : Int) < (FN.length : Int)) = false := decide_eq_false (by omega)
                              have hdF2 : decide (q < FN.length) = false := decide_eq_false hql
                              have HT : Hid (Fx No wt wr) := Lib.hid (HT.out.trans' HFq.out fun g e hl => by have e : x4.heap.size ≤ g := e; omega)
                              obtain ⟨z5, hz5'⟩ : ∃ z, z = wr := ⟨_, rfl⟩
                              subst hz5'
                              clear hql
                              go_wp2
                              go_roundw
                              case rel => exact ⟨τ + 1, by have := HTl.out; go_num, by have := HTl.out; omega, HFt.out.trans HT.out⟩
                              case measure => (have := HTl.out; simp [intOf]; omega)
          · obtain rfl : τ = 2 := by omega
            go_wp2
            go_ret
            exact ⟨rfl, HFt0.out⟩
end
#print axioms nextL_comp
#print axioms is_any
end Go.Proofs.Ytcfajeldkioomaa
