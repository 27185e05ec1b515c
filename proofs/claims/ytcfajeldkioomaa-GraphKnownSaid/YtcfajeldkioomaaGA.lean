/- graph: how edges compare. -/
import Derived.Test.YtcfajeldkioomaaGMath
import Derived.Test.YtcfajeldkioomaaEqsG
import Derived.Test.YtcfajeldkioomaaRegG
import Derived.Test.YtcfajeldkioomaaRegH
import Derived.Test.YtcfajeldkioomaaStepApp
import Derived.Test.YtcfajeldkioomaaProg
import Derived.KernelRfl
import Derived.IntWalk
namespace Go.Proofs.Ytcfajeldkioomaa
open Go.RowKit
set_option linter.unusedVariables false

theorem wp_hold {P : Program} {c : Code} {Q : Exit → Act → World → Prop} {a : Act} {W : World} (R : World → Prop) (hR : R W) (h : ∀ W', R W' → c.wp P Q a W') : c.wp P Q a W := h W hR
theorem info_int' : (Try.prog.info? 3).map (fun i => (i.zero, i.size, i.bytes)) = some (some (.int .i64 0), 1, 8) := by kernel_rfl
theorem info_edge : (Try.prog.info? 25).map (fun i => (i.zero, i.size, i.bytes)) = some (some (.agg #[.int .i64 0, .int .i64 0, .int .i64 0]), 3, 24) := by kernel_rfl
/-- an edge as a value -/
def evE (x : Ed) : Value := .agg #[.int .i64 x.f, .int .i64 x.t, .int .i64 x.l]
def cmpI (a b : Int) : Int := if a < b then -1 else if b < a then 1 else 0
def firstNZ : List Int → Int
  | [] => 0
  | x :: l => if x ≠ 0 then x else firstNZ l
theorem cmpE_or (a b : Ed) : firstNZ [cmpI a.f b.f, cmpI a.t b.t, cmpI a.l b.l] = cmpE a b := by
  unfold cmpE
  by_cases h : a = b
  · subst h; simp [firstNZ, cmpI]
  · rw [if_neg h]
    have h' : ¬ (a.f = b.f ∧ a.t = b.t ∧ a.l = b.l) := fun ⟨x, y, z⟩ => h (Ed.ext' x y z)
    by_cases h2 : a.lt b
    · rw [if_pos h2]
      unfold Ed.lt at h2
      simp only [firstNZ, cmpI]
      repeat' split
      all_goals first | omega | simp_all
    · rw [if_neg h2]
      unfold Ed.lt at h2
      simp only [firstNZ, cmpI]
      repeat' split
      all_goals first | omega | simp_all
section
variable {w : World}
theorem isNaN_any (a : Int) (w : World) : Calls Try.prog 60 #[.int .i64 a] w fun e w' => e = .returned (.bool false) ∧ w = w' := by
  go_enter Try.func60, Try.ntmps60
  go_wp2
  go_ret
  exact ⟨rfl, rfl⟩
theorem compare_any (a b : Int) (w : World) : Calls Try.prog 46 #[.int .i64 a, .int .i64 b] w fun e w' => e = .returned (.int .i64 (cmpI a b)) ∧ w = w' := by
  unfold cmpI
  by_cases h1 : a < b
  · have d1 : decide (a < b) = true := decide_eq_true h1
    rw [if_pos h1]
    go_enter Try.func46, Try.ntmps46
    go_wp2_with fail
    refine (isNaN_any a _).mono ?_
    rintro e w' ⟨rfl, rfl⟩
    go_wp2_with fail
    refine (isNaN_any b _).mono ?_
    rintro e w' ⟨rfl, rfl⟩
    go_wp2
    go_ret
    exact ⟨rfl, rfl⟩
  · have d1 : decide (a < b) = false := decide_eq_false h1
    rw [if_neg h1]
    by_cases h2 : b < a
    · have d2 : decide (b < a) = true := decide_eq_true h2
      rw [if_pos h2]
      go_enter Try.func46, Try.ntmps46
      go_wp2_with fail
      refine (isNaN_any a _).mono ?_
      rintro e w' ⟨rfl, rfl⟩
      go_wp2_with fail
      refine (isNaN_any b _).mono ?_
      rintro e w' ⟨rfl, rfl⟩
      go_wp2
      go_ret
      exact ⟨rfl, rfl⟩
    · have d2 : decide (b < a) = false := decide_eq_false h2
      rw [if_neg h2]
      go_enter Try.func46, Try.ntmps46
      go_wp2_with fail
      refine (isNaN_any a _).mono ?_
      rintro e w' ⟨rfl, rfl⟩
      go_wp2_with fail
      refine (isNaN_any b _).mono ?_
      rintro e w' ⟨rfl, rfl⟩
      go_wp2
      go_ret
      exact ⟨rfl, rfl⟩
theorem firstNZ_drop {l : List Int} {k : Nat} (hk : k < l.length) : firstNZ (l.drop k) = if gi l k ≠ 0 then gi l k else firstNZ (l.drop (k + 1)) := by
  rw [List.drop_eq_getElem_cons hk]
  simp [firstNZ, gi, hk]
theorem or_any {D : Nat → Prop} {v : Value} {l : List Int} (h : IntsV w D v l) : Calls Try.prog 45 #[v] w fun e w' => e = .returned (.int .i64 (firstNZ l)) ∧ w = w' := by
  obtain ⟨ao, cap, rfl, hl, hc⟩ := h.facts
  have HC := Lib.hid hc
  have H0 : Hid (firstNZ l = firstNZ (l.drop 0)) := Lib.hid (by simp)
  clear hc h
  go_enter Try.func45, Try.ntmps45
  go_wp2
  go_loop [8] (fun i => ∃ k : Nat, i = .int .i64 k ∧ k ≤ l.length ∧ Hid (firstNZ l = firstNZ (l.drop k))) (fun i => l.length - (intOf i).toNat)
  case atStart => exact ⟨0, rfl, Nat.zero_le _, H0⟩
  case round =>
    obtain ⟨k, rfl, hk, HK⟩ := hrel
    by_cases hlt : k < l.length
    · obtain ⟨b, o, rfl, _, hcell⟩ := HC.out k hlt
      have HS := Lib.hid (firstNZ_drop hlt)
      obtain ⟨x, hx⟩ : ∃ x, x = gi l k := ⟨_, rfl⟩
      rw [← hx] at hcell HS
      clear hx
      by_cases h0 : x = 0
      · subst h0
        go_wp2
        go_round
        case rel => exact ⟨k + 1, by go_num, by omega, Lib.hid (by rw [HK.out, HS.out]; simp)⟩
        case measure => simp [intOf]; omega
      · have HN := Lib.hid h0
        go_wp2
        go_ret
        refine ⟨?_, rfl⟩
        rw [HK.out, HS.out, if_pos HN.out]
        rfl
    · obtain rfl : k = l.length := by omega
      go_wp2
      go_ret
      refine ⟨?_, rfl⟩
      rw [HK.out]; simp [firstNZ]
set_option maxHeartbeats 1000000 in
theorem cmp_any (a b : Ed) (w : World) : Calls Try.prog 17 #[evE a, evE b] w fun e w' => e = .returned (.int .i64 (cmpE a b)) ∧ Fx No w w' := by
  unfold evE
  have HE := Lib.hid (cmpE_or a b)
  obtain ⟨af, ta, al⟩ := a
  obtain ⟨bf, tb, bl⟩ := b
  have CC : Hid (∀ (x y : Int) (W : World), Calls Try.prog 46 #[.int .i64 x, .int .i64 y] W fun e w' => e = .returned (.int .i64 (cmpI x y)) ∧ W = w') := Lib.hid compare_any
  go_enter Try.func17, Try.ntmps17
  go_wp2_with fail
  refine wp_hold (fun W => Fx No w W ∧ (W.cell? ⟨w.heap.size, 0, none⟩ = some (.int .i64 af) ∧ W.cell? ⟨w.heap.size, 1, none⟩ = some (.int .i64 ta) ∧ W.cell? ⟨w.heap.size, 2, none⟩ = some (.int .i64 al)) ∧ W.cell? ⟨w.heap.size + 1, 0, none⟩ = some (.int .i64 bf) ∧ W.cell? ⟨w.heap.size + 1, 1, none⟩ = some (.int .i64 tb) ∧ W.cell? ⟨w.heap.size + 1, 2, none⟩ = some (.int .i64 bl)) ⟨((Fx.refl No w).alloc _).alloc _, ⟨by go_simp, by go_simp, by go_simp⟩, by go_simp, by go_simp, by go_simp⟩ ?_
  rintro wx ⟨hfx, ⟨c0, c1, c2⟩, c3, c4, c5⟩
  obtain ⟨q, hq⟩ : ∃ q, q = w.heap.size := ⟨_, rfl⟩
  rw [← hq] at c0 c1 c2 c3 c4 c5 ⊢
  have HX := Lib.hid hfx
  have g0 : ∀ W, Fx No wx W → W.cell? ⟨q, 0, none⟩ = some (.int .i64 af) := fun W h => h.cell' c0 (fun h => h)
  have g1 : ∀ W, Fx No wx W → W.cell? ⟨q, 1, none⟩ = some (.int .i64 ta) := fun W h => h.cell' c1 (fun h => h)
  have g2 : ∀ W, Fx No wx W → W.cell? ⟨q, 2, none⟩ = some (.int .i64 al) := fun W h => h.cell' c2 (fun h => h)
  have g3 : ∀ W, Fx No wx W → W.cell? ⟨q + 1, 0, none⟩ = some (.int .i64 bf) := fun W h => h.cell' c3 (fun h => h)
  have g4 : ∀ W, Fx No wx W → W.cell? ⟨q + 1, 1, none⟩ = some (.int .i64 tb) := fun W h => h.cell' c4 (fun h => h)
  have g5 : ∀ W, Fx No wx W → W.cell? ⟨q + 1, 2, none⟩ = some (.int .i64 bl) := fun W h => h.cell' c5 (fun h => h)
  have s0 : Fx No wx wx := Fx.refl _ _
  clear c0 c1 c2 c3 c4 c5 hfx hq
  refine wp_region_H (fun W => Fx No wx W) (by kernel_rfl) s0.drew ?_
  intro hS
  refine wpAnyH_take (i := 0) (v := ?_) rfl (by kernel_rfl) (by kernel_rfl) (by kernel_rfl) (fun _ _ _ h => h) (Or.inl ⟨by rfl, ?_⟩) hS ?_
  rotate_left
  · (intro W hs; go_simp; first | done | with_reducible rfl)
  try simp only [Act.put, List.getElem_toArray, List.getElem_cons_zero, List.getElem_cons_succ, List.setIfInBounds_toArray, List.set_cons_zero, List.set_cons_succ]
  refine wpAnyH_take (i := 1) (v := ?_) rfl (by kernel_rfl) (by kernel_rfl) (by kernel_rfl) (fun _ _ _ h => h) (Or.inl ⟨by rfl, ?_⟩) hS ?_
  rotate_left
  · (intro W hs; go_simp; first | done | with_reducible rfl)
  try simp only [Act.put, List.getElem_toArray, List.getElem_cons_zero, List.getElem_cons_succ, List.setIfInBounds_toArray, List.set_cons_zero, List.set_cons_succ]
  refine wpAnyH_take (i := 2) (v := ?_) rfl (by kernel_rfl) (by kernel_rfl) (by kernel_rfl) (fun _ _ _ h => h) (Or.inl ⟨by rfl, ?_⟩) hS ?_
  rotate_left
  · (intro W hs; go_simp; first | done | with_reducible rfl)
  try simp only [Act.put, List.getElem_toArray, List.getElem_cons_zero, List.getElem_cons_succ, List.setIfInBounds_toArray, List.set_cons_zero, List.set_cons_succ]
  refine wpAnyH_take (i := 3) (v := ?_) rfl (by kernel_rfl) (by kernel_rfl) (by kernel_rfl) (fun _ _ _ h => h) (Or.inl ⟨by rfl, ?_⟩) hS ?_
  rotate_left
  · (intro W hs; go_simp; first | done | with_reducible rfl)
  try simp only [Act.put, List.getElem_toArray, List.getElem_cons_zero, List.getElem_cons_succ, List.setIfInBounds_toArray, List.set_cons_zero, List.set_cons_succ]
  refine wpAnyH_take (i := 5) (v := ?_) rfl (by kernel_rfl) (by kernel_rfl) (by kernel_rfl) (fun _ _ _ h => h) (Or.inl ⟨by rfl, ?_⟩) hS ?_
  rotate_left
  · (intro W hs; go_simp; first | done | with_reducible rfl)
  try simp only [Act.put, List.getElem_toArray, List.getElem_cons_zero, List.getElem_cons_succ, List.setIfInBounds_toArray, List.set_cons_zero, List.set_cons_succ]
  refine wpAnyH_take (i := 6) (v := ?_) rfl (by kernel_rfl) (by kernel_rfl) (by kernel_rfl) (fun _ _ _ h => h) (Or.inl ⟨by rfl, ?_⟩) hS ?_
  rotate_left
  · (intro W hs; go_simp; first | done | with_reducible rfl)
  try simp only [Act.put, List.getElem_toArray, List.getElem_cons_zero, List.getElem_cons_succ, List.setIfInBounds_toArray, List.set_cons_zero, List.set_cons_succ]
  refine wpAnyH_take (i := 7) (v := ?_) rfl (by kernel_rfl) (by kernel_rfl) (by kernel_rfl) (fun _ _ _ h => h) (Or.inl ⟨by rfl, ?_⟩) hS ?_
  rotate_left
  · (intro W hs; go_simp; first | done | with_reducible rfl)
  try simp only [Act.put, List.getElem_toArray, List.getElem_cons_zero, List.getElem_cons_succ, List.setIfInBounds_toArray, List.set_cons_zero, List.set_cons_succ]
  refine wpAnyH_take (i := 8) (v := ?_) rfl (by kernel_rfl) (by kernel_rfl) (by kernel_rfl) (fun _ _ _ h => h) (Or.inl ⟨by rfl, ?_⟩) hS ?_
  rotate_left
  · (intro W hs; go_simp; first | done | with_reducible rfl)
  try simp only [Act.put, List.getElem_toArray, List.getElem_cons_zero, List.getElem_cons_succ, List.setIfInBounds_toArray, List.set_cons_zero, List.set_cons_succ]
  refine wpAnyH_take (i := 10) (v := ?_) rfl (by kernel_rfl) (by kernel_rfl) (by kernel_rfl) (fun _ _ _ h => h) (Or.inl ⟨by rfl, ?_⟩) hS ?_
  rotate_left
  · (intro W hs; go_simp; first | done | with_reducible rfl)
  try simp only [Act.put, List.getElem_toArray, List.getElem_cons_zero, List.getElem_cons_succ, List.setIfInBounds_toArray, List.set_cons_zero, List.set_cons_succ]
  refine wpAnyH_take (i := 11) (v := ?_) rfl (by kernel_rfl) (by kernel_rfl) (by kernel_rfl) (fun _ _ _ h => h) (Or.inl ⟨by rfl, ?_⟩) hS ?_
  rotate_left
  · (intro W hs; go_simp; first | done | with_reducible rfl)
  try simp only [Act.put, List.getElem_toArray, List.getElem_cons_zero, List.getElem_cons_succ, List.setIfInBounds_toArray, List.set_cons_zero, List.set_cons_succ]
  refine wpAnyH_take (i := 12) (v := ?_) rfl (by kernel_rfl) (by kernel_rfl) (by kernel_rfl) (fun _ _ _ h => h) (Or.inl ⟨by rfl, ?_⟩) hS ?_
  rotate_left
  · (intro W hs; go_simp; first | done | with_reducible rfl)
  try simp only [Act.put, List.getElem_toArray, List.getElem_cons_zero, List.getElem_cons_succ, List.setIfInBounds_toArray, List.set_cons_zero, List.set_cons_succ]
  refine wpAnyH_take (i := 13) (v := ?_) rfl (by kernel_rfl) (by kernel_rfl) (by kernel_rfl) (fun _ _ _ h => h) (Or.inl ⟨by rfl, ?_⟩) hS ?_
  rotate_left
  · (intro W hs; go_simp; first | done | with_reducible rfl)
  try simp only [Act.put, List.getElem_toArray, List.getElem_cons_zero, List.getElem_cons_succ, List.setIfInBounds_toArray, List.set_cons_zero, List.set_cons_succ]
  refine wpH_one (i := 4) (by kernel_rfl) rfl (fun K hK => ?_)
  go_simp
  refine (CC.out _ _ _).mono ?_
  rintro e w' ⟨rfl, rfl⟩
  refine hK.out _ _ (hS) (fun hS' => ?_)
  clear hK K hS
  have hS := hS'
  clear hS'
  try simp only [Act.put, List.getElem_toArray, List.getElem_cons_zero, List.getElem_cons_succ, List.setIfInBounds_toArray, List.set_cons_zero, List.set_cons_succ]
  refine wpH_one (i := 9) (by kernel_rfl) rfl (fun K hK => ?_)
  go_simp
  refine (CC.out _ _ _).mono ?_
  rintro e w' ⟨rfl, rfl⟩
  refine hK.out _ _ (hS) (fun hS' => ?_)
  clear hK K hS
  have hS := hS'
  clear hS'
  try simp only [Act.put, List.getElem_toArray, List.getElem_cons_zero, List.getElem_cons_succ, List.setIfInBounds_toArray, List.set_cons_zero, List.set_cons_succ]
  refine wpH_one (i := 14) (by kernel_rfl) rfl (fun K hK => ?_)
  go_simp
  refine (CC.out _ _ _).mono ?_
  rintro e w' ⟨rfl, rfl⟩
  refine hK.out _ _ (hS) (fun hS' => ?_)
  clear hK K hS
  have hS := hS'
  clear hS'
  try simp only [Act.put, List.getElem_toArray, List.getElem_cons_zero, List.getElem_cons_succ, List.setIfInBounds_toArray, List.set_cons_zero, List.set_cons_succ]
  refine wpH_one (i := 15) (by kernel_rfl) rfl (fun K hK => ?_)
  go_simp
  refine hK.out _ _ (hS.alloc _) (fun hS' => ?_)
  clear hK K hS
  have hS := hS'
  clear hS'
  try simp only [Act.put, List.getElem_toArray, List.getElem_cons_zero, List.getElem_cons_succ, List.setIfInBounds_toArray, List.set_cons_zero, List.set_cons_succ]
  refine wpH_one (i := 16) (by kernel_rfl) rfl (fun K hK => ?_)
  go_simp
  refine (or_any (l := [cmpI af bf, cmpI ta tb, cmpI al bl]) (D := fun _ => True) (SlV.keep (SlV.lit wx 3 #[.int .i64 _, .int .i64 _, .int .i64 _] 1 3 rfl (by unfold maxLen; omega)) ((Fx.refl No _).drew) No.disj)).mono ?_
  rintro e w' ⟨rfl, rfl⟩
  rw [HE.out]
  refine hK.out _ _ (hS) (fun hS' => ?_)
  clear hK K hS
  have hS := hS'
  clear hS'
  try simp only [Act.put, List.getElem_toArray, List.getElem_cons_zero, List.getElem_cons_succ, List.setIfInBounds_toArray, List.set_cons_zero, List.set_cons_succ]
  refine wpH_one (i := 17) (by kernel_rfl) rfl (fun K hK => ?_)
  go_simp
  refine hK.out _ _ (hS) (fun hS' => ?_)
  clear hK K hS
  have hS := hS'
  clear hS'
  try simp only [Act.put, List.getElem_toArray, List.getElem_cons_zero, List.getElem_cons_succ, List.setIfInBounds_toArray, List.set_cons_zero, List.set_cons_succ]
  refine wpAnyH_done (by kernel_rfl) ?_ _
  go_wp2
  go_ret
  exact ⟨rfl, HX.out.trans hS⟩
end
#print axioms cmp_any
end Go.Proofs.Ytcfajeldkioomaa
