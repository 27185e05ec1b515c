/- graph: how edges compare. | graph: binary search in a sorted row of edges. | copy at elements of many cells; append of new elements that are zero; rows known whole. For every seat. | graph: slices.Insert of one edge into an owned row. | graph: slices.Delete of one edge from an owned row; slices.Clone. | graph: the rows behind a side; put, drop, of. -/
import Derived.Test.YteafkafkbipcmaaM1
import Derived.Test.YteafkafkbipcmaaProg
import Derived.KernelRfl
import Derived.IntWalk
import Derived.Deep.RegionLaw
import Derived.Laws.CopyOwn
import Derived.Lib.AppendZerosOnto
import Derived.Lib.Overlaps
import Derived.Lib.SliceRun
import Derived.Laws.Externs

namespace Go.Proofs.Yteafkafkbipcmaa
open Go.RowKit
set_option linter.unusedVariables false

theorem wp_hold {P : Program} {c : Code} {Q : Exit → Act → World → Prop} {a : Act} {W : World} (R : World → Prop) (hR : R W) (h : ∀ W', R W' → c.wp P Q a W') : c.wp P Q a W := h W hR
theorem info_int' : (Try.prog.info? 3).map (fun i => (i.zero, i.size, i.bytes)) = some (some (.int .i64 0), 1, 8) := by kernel_rfl
theorem info_edge : (Try.prog.info? 57).map (fun i => (i.zero, i.size, i.bytes)) = some (some (.agg #[.int .i64 0, .int .i64 0, .int .i64 0]), 3, 24) := by kernel_rfl
/-- an edge as a value -/
def evE (x : Ed) : Value := .agg #[.int .i64 x.f, .int .i64 x.t, .int .i64 x.l]
def cmpI (a b : Int) : Int := if a < b then -1 else if b < a then 1 else 0
def firstNZ : List Int → Int
  | [] => 0
  | x :: l => if x ≠ 0 then x else firstNZ l
theorem cmpE_or (a b : Ed) : firstNZ [cmpI a.f b.f, cmpI a.t b.t, cmpI a.l b.l] = cmpE a b := by
  unfold cmpE
  by_cases h : a = b
  · subst h; simp [firstNZ, cmpI]
  · rw [if_neg h]
    have h' : ¬ (a.f = b.f ∧ a.t = b.t ∧ a.l = b.l) := fun ⟨x, y, z⟩ => h (Ed.ext' x y z)
    by_cases h2 : a.lt b
    · rw [if_pos h2]
      unfold Ed.lt at h2
      simp only [firstNZ, cmpI]
      repeat' split
      all_goals first | omega | simp_all
    · rw [if_neg h2]
      unfold Ed.lt at h2
      simp only [firstNZ, cmpI]
      repeat' split
      all_goals first | omega | simp_all
section
variable {w : World}
theorem isNaN_any (a : Int) (w : World) : Calls Try.prog 63 #[.int .i64 a] w fun e w' => e = .returned (.bool false) ∧ w = w' := by
  go_enter Try.func63, Try.ntmps63
  go_wp2
  go_ret
  exact ⟨rfl, rfl⟩
theorem compare_any (a b : Int) (w : World) : Calls Try.prog 59 #[.int .i64 a, .int .i64 b] w fun e w' => e = .returned (.int .i64 (cmpI a b)) ∧ w = w' := by
  unfold cmpI
  by_cases h1 : a < b
  · have d1 : decide (a < b) = true := decide_eq_true h1
    rw [if_pos h1]
    go_enter Try.func59, Try.ntmps59
    go_wp2_with fail
    refine (isNaN_any a _).mono ?_
    rintro e w' ⟨rfl, rfl⟩
    go_wp2_with fail
    refine (isNaN_any b _).mono ?_
    rintro e w' ⟨rfl, rfl⟩
    go_wp2
    go_ret
    exact ⟨rfl, rfl⟩
  · have d1 : decide (a < b) = false := decide_eq_false h1
    rw [if_neg h1]
    by_cases h2 : b < a
    · have d2 : decide (b < a) = true := decide_eq_true h2
      rw [if_pos h2]
      go_enter Try.func59, Try.ntmps59
      go_wp2_with fail
      refine (isNaN_any a _).mono ?_
      rintro e w' ⟨rfl, rfl⟩
      go_wp2_with fail
      refine (isNaN_any b _).mono ?_
      rintro e w' ⟨rfl, rfl⟩
      go_wp2
      go_ret
      exact ⟨rfl, rfl⟩
    · have d2 : decide (b < a) = false := decide_eq_false h2
      rw [if_neg h2]
      go_enter Try.func59, Try.ntmps59
      go_wp2_with fail
      refine (isNaN_any a _).mono ?_
      rintro e w' ⟨rfl, rfl⟩
      go_wp2_with fail
      refine (isNaN_any b _).mono ?_
      rintro e w' ⟨rfl, rfl⟩
      go_wp2
      go_ret
      exact ⟨rfl, rfl⟩
theorem firstNZ_drop {l : List Int} {k : Nat} (hk : k < l.length) : firstNZ (l.drop k) = if gi l k ≠ 0 then gi l k else firstNZ (l.drop (k + 1)) := by
  rw [List.drop_eq_getElem_cons hk]
  simp [firstNZ, gi, hk]
theorem or_any {D : Nat → Prop} {v : Value} {l : List Int} (h : IntsV w D v l) : Calls Try.prog 58 #[v] w fun e w' => e = .returned (.int .i64 (firstNZ l)) ∧ w = w' := by
  obtain ⟨ao, cap, rfl, hl, hc⟩ := h.facts
  have HC := Lib.hid hc
  have H0 : Hid (firstNZ l = firstNZ (l.drop 0)) := Lib.hid (by simp)
  clear hc h
  go_enter Try.func58, Try.ntmps58
  go_wp2
  go_loop [8] (fun i => ∃ k : Nat, i = .int .i64 k ∧ k ≤ l.length ∧ Hid (firstNZ l = firstNZ (l.drop k))) (fun i => l.length - (intOf i).toNat)
  case atStart => exact ⟨0, rfl, Nat.zero_le _, H0⟩
  case round =>
    obtain ⟨k, rfl, hk, HK⟩ := hrel
    by_cases hlt : k < l.length
    · obtain ⟨b, o, rfl, _, hcell⟩ := HC.out k hlt
      have HS := Lib.hid (firstNZ_drop hlt)
      obtain ⟨x, hx⟩ : ∃ x, x = gi l k := ⟨_, rfl⟩
      rw [← hx] at hcell HS
      clear hx
      by_cases h0 : x = 0
      · subst h0
        go_wp2
        go_round
        case rel => exact ⟨k + 1, by go_num, by omega, Lib.hid (by rw [HK.out, HS.out]; simp)⟩
        case measure => simp [intOf]; omega
      · have HN := Lib.hid h0
        go_wp2
        go_ret
        refine ⟨?_, rfl⟩
        rw [HK.out, HS.out, if_pos HN.out]
        rfl
    · obtain rfl : k = l.length := by omega
      go_wp2
      go_ret
      refine ⟨?_, rfl⟩
      rw [HK.out]; simp [firstNZ]
set_option maxHeartbeats 1000000 in
theorem cmp_any (a b : Ed) (w : World) : Calls Try.prog 53 #[evE a, evE b] w fun e w' => e = .returned (.int .i64 (cmpE a b)) ∧ Fx No w w' := by
  unfold evE
  have HE := Lib.hid (cmpE_or a b)
  obtain ⟨af, ta, al⟩ := a
  obtain ⟨bf, tb, bl⟩ := b
  have CC : Hid (∀ (x y : Int) (W : World), Calls Try.prog 59 #[.int .i64 x, .int .i64 y] W fun e w' => e = .returned (.int .i64 (cmpI x y)) ∧ W = w') := Lib.hid compare_any
  go_enter Try.func53, Try.ntmps53
  go_wp2_with fail
  refine wp_hold (fun W => Fx No w W ∧ (W.cell? ⟨w.heap.size, 0, none⟩ = some (.int .i64 af) ∧ W.cell? ⟨w.heap.size, 1, none⟩ = some (.int .i64 ta) ∧ W.cell? ⟨w.heap.size, 2, none⟩ = some (.int .i64 al)) ∧ W.cell? ⟨w.heap.size + 1, 0, none⟩ = some (.int .i64 bf) ∧ W.cell? ⟨w.heap.size + 1, 1, none⟩ = some (.int .i64 tb) ∧ W.cell? ⟨w.heap.size + 1, 2, none⟩ = some (.int .i64 bl)) ⟨((Fx.refl No w).alloc _).alloc _, ⟨by go_simp, by go_simp, by go_simp⟩, by go_simp, by go_simp, by go_simp⟩ ?_
  rintro wx ⟨hfx, ⟨c0, c1, c2⟩, c3, c4, c5⟩
  obtain ⟨q, hq⟩ : ∃ q, q = w.heap.size := ⟨_, rfl⟩
  rw [← hq] at c0 c1 c2 c3 c4 c5 ⊢
  have HX := Lib.hid hfx
  have g0 : ∀ W, Fx No wx W → W.cell? ⟨q, 0, none⟩ = some (.int .i64 af) := fun W h => h.cell' c0 (fun h => h)
  have g1 : ∀ W, Fx No wx W → W.cell? ⟨q, 1, none⟩ = some (.int .i64 ta) := fun W h => h.cell' c1 (fun h => h)
  have g2 : ∀ W, Fx No wx W → W.cell? ⟨q, 2, none⟩ = some (.int .i64 al) := fun W h => h.cell' c2 (fun h => h)
  have g3 : ∀ W, Fx No wx W → W.cell? ⟨q + 1, 0, none⟩ = some (.int .i64 bf) := fun W h => h.cell' c3 (fun h => h)
  have g4 : ∀ W, Fx No wx W → W.cell? ⟨q + 1, 1, none⟩ = some (.int .i64 tb) := fun W h => h.cell' c4 (fun h => h)
  have g5 : ∀ W, Fx No wx W → W.cell? ⟨q + 1, 2, none⟩ = some (.int .i64 bl) := fun W h => h.cell' c5 (fun h => h)
  have s0 : Fx No wx wx := Fx.refl _ _
  clear c0 c1 c2 c3 c4 c5 hfx hq
  refine wp_region_H (fun W => Fx No wx W) (by kernel_rfl) s0.drew ?_
  intro hS
  refine wpAnyH_take (i := 0) (v := ?_) rfl (by kernel_rfl) (by kernel_rfl) (by kernel_rfl) (fun _ _ _ h => h) (Or.inl ⟨by rfl, ?_⟩) hS ?_
  rotate_left
  · (intro W hs; go_simp; first | done | with_reducible rfl)
  try simp only [Act.put, List.getElem_toArray, List.getElem_cons_zero, List.setIfInBounds_toArray, List.set_cons_zero, List.set_cons_succ]
  refine wpAnyH_take (i := 1) (v := ?_) rfl (by kernel_rfl) (by kernel_rfl) (by kernel_rfl) (fun _ _ _ h => h) (Or.inl ⟨by rfl, ?_⟩) hS ?_
  rotate_left
  · (intro W hs; go_simp; first | done | with_reducible rfl)
  try simp only [Act.put, List.getElem_toArray, List.getElem_cons_zero, List.getElem_cons_succ, List.setIfInBounds_toArray, List.set_cons_zero, List.set_cons_succ]
  refine wpAnyH_take (i := 2) (v := ?_) rfl (by kernel_rfl) (by kernel_rfl) (by kernel_rfl) (fun _ _ _ h => h) (Or.inl ⟨by rfl, ?_⟩) hS ?_
  rotate_left
  · (intro W hs; go_simp; first | done | with_reducible rfl)
  try simp only [Act.put, List.getElem_toArray, List.getElem_cons_zero, List.getElem_cons_succ, List.setIfInBounds_toArray, List.set_cons_zero, List.set_cons_succ]
  refine wpAnyH_take (i := 3) (v := ?_) rfl (by kernel_rfl) (by kernel_rfl) (by kernel_rfl) (fun _ _ _ h => h) (Or.inl ⟨by rfl, ?_⟩) hS ?_
  rotate_left
  · (intro W hs; go_simp; first | done | with_reducible rfl)
  try simp only [Act.put, List.getElem_toArray, List.getElem_cons_zero, List.getElem_cons_succ, List.setIfInBounds_toArray, List.set_cons_zero, List.set_cons_succ]
  refine wpAnyH_take (i := 5) (v := ?_) rfl (by kernel_rfl) (by kernel_rfl) (by kernel_rfl) (fun _ _ _ h => h) (Or.inl ⟨by rfl, ?_⟩) hS ?_
  rotate_left
  · (intro W hs; go_simp; first | done | with_reducible rfl)
  try simp only [Act.put, List.getElem_toArray, List.getElem_cons_zero, List.getElem_cons_succ, List.setIfInBounds_toArray, List.set_cons_zero, List.set_cons_succ]
  refine wpAnyH_take (i := 6) (v := ?_) rfl (by kernel_rfl) (by kernel_rfl) (by kernel_rfl) (fun _ _ _ h => h) (Or.inl ⟨by rfl, ?_⟩) hS ?_
  rotate_left
  · (intro W hs; go_simp; first | done | with_reducible rfl)
  try simp only [Act.put, List.getElem_toArray, List.getElem_cons_zero, List.getElem_cons_succ, List.setIfInBounds_toArray, List.set_cons_zero, List.set_cons_succ]
  refine wpAnyH_take (i := 7) (v := ?_) rfl (by kernel_rfl) (by kernel_rfl) (by kernel_rfl) (fun _ _ _ h => h) (Or.inl ⟨by rfl, ?_⟩) hS ?_
  rotate_left
  · (intro W hs; go_simp; first | done | with_reducible rfl)
  try simp only [Act.put, List.getElem_toArray, List.getElem_cons_zero, List.getElem_cons_succ, List.setIfInBounds_toArray, List.set_cons_zero, List.set_cons_succ]
  refine wpAnyH_take (i := 8) (v := ?_) rfl (by kernel_rfl) (by kernel_rfl) (by kernel_rfl) (fun _ _ _ h => h) (Or.inl ⟨by rfl, ?_⟩) hS ?_
  rotate_left
  · (intro W hs; go_simp; first | done | with_reducible rfl)
  try simp only [Act.put, List.getElem_toArray, List.getElem_cons_zero, List.getElem_cons_succ, List.setIfInBounds_toArray, List.set_cons_zero, List.set_cons_succ]
  refine wpAnyH_take (i := 10) (v := ?_) rfl (by kernel_rfl) (by kernel_rfl) (by kernel_rfl) (fun _ _ _ h => h) (Or.inl ⟨by rfl, ?_⟩) hS ?_
  rotate_left
  · (intro W hs; go_simp; first | done | with_reducible rfl)
  try simp only [Act.put, List.getElem_toArray, List.getElem_cons_zero, List.getElem_cons_succ, List.setIfInBounds_toArray, List.set_cons_zero, List.set_cons_succ]
  refine wpAnyH_take (i := 11) (v := ?_) rfl (by kernel_rfl) (by kernel_rfl) (by kernel_rfl) (fun _ _ _ h => h) (Or.inl ⟨by rfl, ?_⟩) hS ?_
  rotate_left
  · (intro W hs; go_simp; first | done | with_reducible rfl)
  try simp only [Act.put, List.getElem_toArray, List.getElem_cons_zero, List.getElem_cons_succ, List.setIfInBounds_toArray, List.set_cons_zero, List.set_cons_succ]
  refine wpAnyH_take (i := 12) (v := ?_) rfl (by kernel_rfl) (by kernel_rfl) (by kernel_rfl) (fun _ _ _ h => h) (Or.inl ⟨by rfl, ?_⟩) hS ?_
  rotate_left
  · (intro W hs; go_simp; first | done | with_reducible rfl)
  try simp only [Act.put, List.getElem_toArray, List.getElem_cons_zero, List.getElem_cons_succ, List.setIfInBounds_toArray, List.set_cons_zero, List.set_cons_succ]
  refine wpAnyH_take (i := 13) (v := ?_) rfl (by kernel_rfl) (by kernel_rfl) (by kernel_rfl) (fun _ _ _ h => h) (Or.inl ⟨by rfl, ?_⟩) hS ?_
  rotate_left
  · (intro W hs; go_simp; first | done | with_reducible rfl)
  try simp only [Act.put, List.getElem_toArray, List.getElem_cons_zero, List.getElem_cons_succ, List.setIfInBounds_toArray, List.set_cons_zero, List.set_cons_succ]
  refine wpH_one (i := 4) (by kernel_rfl) rfl (fun K hK => ?_)
  go_simp
  refine (CC.out _ _ _).mono ?_
  rintro e w' ⟨rfl, rfl⟩
  refine hK.out _ _ (hS) (fun hS' => ?_)
  clear hK K hS
  have hS := hS'
  clear hS'
  try simp only [Act.put, List.getElem_toArray, List.getElem_cons_zero, List.getElem_cons_succ, List.setIfInBounds_toArray, List.set_cons_zero, List.set_cons_succ]
  refine wpH_one (i := 9) (by kernel_rfl) rfl (fun K hK => ?_)
  go_simp
  refine (CC.out _ _ _).mono ?_
  rintro e w' ⟨rfl, rfl⟩
  refine hK.out _ _ (hS) (fun hS' => ?_)
  clear hK K hS
  have hS := hS'
  clear hS'
  try simp only [Act.put, List.getElem_toArray, List.getElem_cons_zero, List.getElem_cons_succ, List.setIfInBounds_toArray, List.set_cons_zero, List.set_cons_succ]
  refine wpH_one (i := 14) (by kernel_rfl) rfl (fun K hK => ?_)
  go_simp
  refine (CC.out _ _ _).mono ?_
  rintro e w' ⟨rfl, rfl⟩
  refine hK.out _ _ (hS) (fun hS' => ?_)
  clear hK K hS
  have hS := hS'
  clear hS'
  try simp only [Act.put, List.getElem_toArray, List.getElem_cons_zero, List.getElem_cons_succ, List.setIfInBounds_toArray, List.set_cons_zero, List.set_cons_succ]
  refine wpH_one (i := 15) (by kernel_rfl) rfl (fun K hK => ?_)
  go_simp
  refine hK.out _ _ (hS.alloc _) (fun hS' => ?_)
  clear hK K hS
  have hS := hS'
  clear hS'
  try simp only [Act.put, List.getElem_toArray, List.getElem_cons_zero, List.getElem_cons_succ, List.setIfInBounds_toArray, List.set_cons_zero, List.set_cons_succ]
  refine wpH_one (i := 16) (by kernel_rfl) rfl (fun K hK => ?_)
  go_simp
  refine (or_any (l := [cmpI af bf, cmpI ta tb, cmpI al bl]) (D := fun _ => True) (SlV.keep (SlV.lit wx 3 #[.int .i64 _, .int .i64 _, .int .i64 _] 1 3 rfl (by unfold maxLen; omega)) ((Fx.refl No _).drew) No.disj)).mono ?_
  rintro e w' ⟨rfl, rfl⟩
  rw [HE.out]
  refine hK.out _ _ (hS) (fun hS' => ?_)
  clear hK K hS
  have hS := hS'
  clear hS'
  try simp only [Act.put, List.getElem_toArray, List.getElem_cons_zero, List.getElem_cons_succ, List.setIfInBounds_toArray, List.set_cons_zero, List.set_cons_succ]
  refine wpH_one (i := 17) (by kernel_rfl) rfl (fun K hK => ?_)
  go_simp
  refine hK.out _ _ (hS) (fun hS' => ?_)
  clear hK K hS
  have hS := hS'
  clear hS'
  try simp only [Act.put, List.getElem_toArray, List.getElem_cons_zero, List.getElem_cons_succ, List.setIfInBounds_toArray, List.set_cons_zero, List.set_cons_succ]
  refine wpAnyH_done (by kernel_rfl) ?_ _
  go_wp2
  go_ret
  exact ⟨rfl, HX.out.trans hS⟩
end
#print axioms cmp_any
end Go.Proofs.Yteafkafkbipcmaa

namespace Go.Proofs.Yteafkafkbipcmaa
open Go.RowKit
set_option linter.unusedVariables false

section
variable {w : World} {D : Nat → Prop} {v : Value} {xs : List Ed}
theorem lt_pos_gt (ha : Asc xs) (e : Ed) {k : Nat} (hk : k < xs.length) : (gt xs k).lt e ↔ k < posE e xs := lt_posE ha (by simp [gt, hk])
theorem mem_pos_gt (ha : Asc xs) (e : Ed) : e ∈ xs ↔ posE e xs < xs.length ∧ gt xs (posE e xs) = e := by
  rw [mem_posE ha]
  constructor
  · intro h
    have h1 := (List.getElem?_eq_some_iff.1 h).1
    refine ⟨h1, ?_⟩
    have := (List.getElem?_eq_some_iff.1 h).2
    simp [gt, h1, this]
  · rintro ⟨h1, h2⟩
    rw [List.getElem?_eq_getElem h1]
    simp [gt, h1] at h2
    rw [h2]
set_option maxHeartbeats 1000000 in
theorem bsearch_any (h : EdsV w D v xs) (hl : xs.length ≤ 1000000) (ha : Asc xs) (e : Ed) : Calls Try.prog 52 #[v, evE e, .func (.func 53) #[] #[]] w fun r w' =>
    r = .returned (.tuple #[.int .i64 (posE e xs : Nat), .bool (decide (e ∈ xs))]) ∧ Fx No w w' := by
  obtain ⟨ao, cap, rfl, hcl, hcm, hc⟩ := h.facts
  have HC := Lib.hid hc
  have HL := Lib.hid (fun k (hk : k < xs.length) => lt_pos_gt ha e hk)
  have HM := Lib.hid (mem_pos_gt ha e)
  have CC : Hid (∀ (x y : Ed) (W : World), Calls Try.prog 53 #[evE x, evE y] W fun e w' => e = .returned (.int .i64 (cmpE x y)) ∧ Fx No W w') := Lib.hid cmp_any
  have hpl := posE_le e xs
  obtain ⟨p, hp⟩ : ∃ p, p = posE e xs := ⟨_, rfl⟩
  rw [← hp] at HL HM hpl ⊢
  obtain ⟨tm, htm⟩ : ∃ t, t = decide (e ∈ xs) := ⟨_, rfl⟩
  rw [← htm]
  have HTm := Lib.hid htm
  unfold evE
  clear hc h ha hp htm
  go_enter Try.func52, Try.ntmps52
  go_wp2_with fail
  refine wp_hold (fun W => Fx No w W ∧ W.cell? ⟨w.heap.size, 0, none⟩ = some (.int .i64 e.f) ∧ W.cell? ⟨w.heap.size, 1, none⟩ = some (.int .i64 e.t) ∧ W.cell? ⟨w.heap.size, 2, none⟩ = some (.int .i64 e.l)) ⟨(Fx.refl No w).alloc _, by go_simp, by go_simp, by go_simp⟩ ?_
  rintro wx ⟨hfx, c0, c1, c2⟩
  obtain ⟨q, hq⟩ : ∃ q, q = w.heap.size := ⟨_, rfl⟩
  rw [← hq] at c0 c1 c2 ⊢
  have HX := Lib.hid hfx
  have HQ0 := Lib.hid c0
  have HQ1 := Lib.hid c1
  have HQ2 := Lib.hid c2
  clear hfx hq c0 c1 c2
  go_loopw [9, 10] (fun i j ws => ∃ I J : Nat, i = .int .i64 I ∧ j = .int .i64 J ∧ I ≤ p ∧ p ≤ J ∧ J ≤ xs.length ∧ Fx No wx ws) (fun i j _ => (intOf j).toNat - (intOf i).toNat)
  case atStart => exact ⟨0, xs.length, rfl, rfl, Nat.zero_le _, hpl, Nat.le_refl _, Fx.refl _ _⟩
  case round =>
    obtain ⟨I, J, rfl, rfl, hI, hJ, hJl, hf⟩ := hrel
    have HF := Lib.hid hf
    have s0 : Fx No wr wr := Fx.refl _ _
    have q0 := hf.cell' HQ0.out (fun h => h)
    have q1 := hf.cell' HQ1.out (fun h => h)
    have q2 := hf.cell' HQ2.out (fun h => h)
    have g0 : ∀ W, Fx No wr W → W.cell? ⟨q, 0, none⟩ = some (.int .i64 e.f) := fun W h => h.cell' q0 (fun h => h)
    have g1 : ∀ W, Fx No wr W → W.cell? ⟨q, 1, none⟩ = some (.int .i64 e.t) := fun W h => h.cell' q1 (fun h => h)
    have g2 : ∀ W, Fx No wr W → W.cell? ⟨q, 2, none⟩ = some (.int .i64 e.l) := fun W h => h.cell' q2 (fun h => h)
    clear hf q0 q1 q2
    by_cases hlt : I < J
    · obtain ⟨h, hh⟩ : ∃ h, h = (I + J) / 2 := ⟨_, rfl⟩
      have hIh : I ≤ h := by omega
      have hhJ : h < J := by omega
      have hhl : h < xs.length := by omega
      have hlt' : (I : Int) < (J : Int) := by omega
      have e1 : IntKind.i64.wrap ((I : Int) + (J : Int)) = ((I + J : Nat) : Int) := by rw [IntKind.wrap_i64]; omega
      obtain ⟨sm, hsm⟩ : ∃ m, m = I + J := ⟨_, rfl⟩
      rw [← hsm] at e1 hh
      have e2 : IntKind.u64.wrap (sm : Int) = (sm : Int) := by rw [IntKind.wrap_u64]; omega
      have e3 : (sm : Int) / 2 = (h : Int) := by omega
      have e4 : IntKind.i64.wrap (h : Int) = (h : Int) := by rw [IntKind.wrap_i64]; omega
      have e5 : IntKind.u64.wrap (h : Int) = (h : Int) := by rw [IntKind.wrap_u64]; omega
      obtain ⟨b, o, rfl, _, p0, p1, p2⟩ := HC.out h hhl
      obtain ⟨x, hx⟩ : ∃ x, x = gt xs h := ⟨_, rfl⟩
      have HLh := Lib.hid (HL.out h hhl)
      rw [← hx] at p0 p1 p2 HLh
      have k0 : ∀ W, Fx No wr W → W.cell? ⟨b, o + h * 3, none⟩ = some (.int .i64 x.f) := fun W hw => ((HX.out.trans HF.out).trans hw).cell' p0 (fun h => h)
      have k1 : ∀ W, Fx No wr W → W.cell? ⟨b, o + h * 3 + 1, none⟩ = some (.int .i64 x.t) := fun W hw => ((HX.out.trans HF.out).trans hw).cell' p1 (fun h => h)
      have k2 : ∀ W, Fx No wr W → W.cell? ⟨b, o + h * 3 + 2, none⟩ = some (.int .i64 x.l) := fun W hw => ((HX.out.trans HF.out).trans hw).cell' p2 (fun h => h)
      clear p0 p1 p2 hx hh hsm
      rcases (Classical.em (h < p)) with hc | hc
      · have CCx : Hid (∀ W : World, Calls Try.prog 53 #[.agg #[.int .i64 x.f, .int .i64 x.t, .int .i64 x.l], .agg #[.int .i64 e.f, .int .i64 e.t, .int .i64 e.l]] W fun e' w' => e' = .returned (.int .i64 (cmpE x e)) ∧ Fx No W w') := Lib.hid fun W => CC.out x e W
        have d1 : decide (cmpE x e < 0) = true := decide_eq_true (cmpE_neg.2 (HLh.out.2 hc))
        go_wp2_with fail
        refine wp_region_H (fun W => Fx No wr W) (by kernel_rfl) s0.drew ?_
        intro hS
        refine wpAnyH_take (i := 0) (v := ?_) rfl (by kernel_rfl) (by kernel_rfl) (by kernel_rfl) (fun _ _ _ h => h) (Or.inl ⟨by rfl, ?_⟩) hS ?_
        rotate_left
        · (intro W hs; go_simp; first | done | with_reducible rfl)
        try simp only [Act.put, List.getElem_toArray, List.getElem_cons_zero, List.setIfInBounds_toArray, List.set_cons_zero, List.set_cons_succ]
        refine wpAnyH_take (i := 1) (v := ?_) rfl (by kernel_rfl) (by kernel_rfl) (by kernel_rfl) (fun _ _ _ h => h) (Or.inl ⟨by rfl, ?_⟩) hS ?_
        rotate_left
        · (intro W hs; go_simp; first | done | with_reducible rfl)
        try simp only [Act.put, List.getElem_toArray, List.getElem_cons_zero, List.getElem_cons_succ, List.setIfInBounds_toArray, List.set_cons_zero, List.set_cons_succ]
        refine wpAnyH_take (i := 2) (v := ?_) rfl (by kernel_rfl) (by kernel_rfl) (by kernel_rfl) (fun _ _ _ h => h) (Or.inl ⟨by rfl, ?_⟩) hS ?_
        rotate_left
        · (intro W hs; go_simp; first | done | with_reducible rfl)
        try simp only [Act.put, List.getElem_toArray, List.getElem_cons_zero, List.getElem_cons_succ, List.setIfInBounds_toArray, List.set_cons_zero, List.set_cons_succ]
        refine wpAnyH_take (i := 3) (v := ?_) rfl (by kernel_rfl) (by kernel_rfl) (by kernel_rfl) (fun _ _ _ h => h) (Or.inl ⟨by rfl, ?_⟩) hS ?_
        rotate_left
        · (intro W hs; go_simp; first | done | with_reducible rfl)
        try simp only [Act.put, List.getElem_toArray, List.getElem_cons_zero, List.getElem_cons_succ, List.setIfInBounds_toArray, List.set_cons_zero, List.set_cons_succ]
        refine wpAnyH_take (i := 4) (v := ?_) rfl (by kernel_rfl) (by kernel_rfl) (by kernel_rfl) (fun _ _ _ h => h) (Or.inl ⟨by rfl, ?_⟩) hS ?_
        rotate_left
        · (intro W hs; go_simp; first | done | with_reducible rfl)
        try simp only [Act.put, List.getElem_toArray, List.getElem_cons_zero, List.getElem_cons_succ, List.setIfInBounds_toArray, List.set_cons_zero, List.set_cons_succ]
        refine wpAnyH_take (i := 5) (v := ?_) rfl (by kernel_rfl) (by kernel_rfl) (by kernel_rfl) (fun _ _ _ h => h) (Or.inl ⟨by rfl, ?_⟩) hS ?_
        rotate_left
        · (intro W hs; go_simp; first | done | with_reducible rfl)
        try simp only [Act.put, List.getElem_toArray, List.getElem_cons_zero, List.getElem_cons_succ, List.setIfInBounds_toArray, List.set_cons_zero, List.set_cons_succ]
        refine wpH_one (i := 6) (by kernel_rfl) rfl (fun K hK => ?_)
        go_simp
        refine (CCx.out _).mono ?_
        rintro e' w' ⟨rfl, hfi⟩
        refine hK.out _ _ (hS.trans hfi) (fun hS' => ?_)
        clear hK K hS hfi
        have hS := hS'
        clear hS'
        try simp only [Act.put, List.getElem_toArray, List.getElem_cons_zero, List.getElem_cons_succ, List.setIfInBounds_toArray, List.set_cons_zero, List.set_cons_succ]
        refine wpAnyH_take (i := 7) (v := ?_) rfl (by kernel_rfl) (by kernel_rfl) (by kernel_rfl) (fun _ _ _ h => h) (Or.inl ⟨by rfl, ?_⟩) hS ?_
        rotate_left
        · (intro W hs; go_simp; first | done | with_reducible rfl)
        try simp only [Act.put, List.getElem_toArray, List.getElem_cons_zero, List.getElem_cons_succ, List.setIfInBounds_toArray, List.set_cons_zero, List.set_cons_succ]
        refine wpAnyH_done (by kernel_rfl) ?_ _
        have HF2 := Lib.hid (HF.out.trans hS)
        clear hS s0 g0 g1 g2 k0 k1 k2
        go_wp2
        go_roundw
        case rel => exact ⟨h + 1, J, by go_num, rfl, by omega, hJ, hJl, HF2.out⟩
        case measure => simp [intOf]; omega
      · have CCx : Hid (∀ W : World, Calls Try.prog 53 #[.agg #[.int .i64 x.f, .int .i64 x.t, .int .i64 x.l], .agg #[.int .i64 e.f, .int .i64 e.t, .int .i64 e.l]] W fun e' w' => e' = .returned (.int .i64 (cmpE x e)) ∧ Fx No W w') := Lib.hid fun W => CC.out x e W
        have d1 : decide (cmpE x e < 0) = false := decide_eq_false fun q => hc (HLh.out.1 (cmpE_neg.1 q))
        go_wp2_with fail
        refine wp_region_H (fun W => Fx No wr W) (by kernel_rfl) s0.drew ?_
        intro hS
        refine wpAnyH_take (i := 0) (v := ?_) rfl (by kernel_rfl) (by kernel_rfl) (by kernel_rfl) (fun _ _ _ h => h) (Or.inl ⟨by rfl, ?_⟩) hS ?_
        rotate_left
        · (intro W hs; go_simp; first | done | with_reducible rfl)
        try simp only [Act.put, List.getElem_toArray, List.getElem_cons_zero, List.setIfInBounds_toArray, List.set_cons_zero, List.set_cons_succ]
        refine wpAnyH_take (i := 1) (v := ?_) rfl (by kernel_rfl) (by kernel_rfl) (by kernel_rfl) (fun _ _ _ h => h) (Or.inl ⟨by rfl, ?_⟩) hS ?_
        rotate_left
        · (intro W hs; go_simp; first | done | with_reducible rfl)
        try simp only [Act.put, List.getElem_toArray, List.getElem_cons_zero, List.getElem_cons_succ, List.setIfInBounds_toArray, List.set_cons_zero, List.set_cons_succ]
        refine wpAnyH_take (i := 2) (v := ?_) rfl (by kernel_rfl) (by kernel_rfl) (by kernel_rfl) (fun _ _ _ h => h) (Or.inl ⟨by rfl, ?_⟩) hS ?_
        rotate_left
        · (intro W hs; go_simp; first | done | with_reducible rfl)
        try simp only [Act.put, List.getElem_toArray, List.getElem_cons_zero, List.getElem_cons_succ, List.setIfInBounds_toArray, List.set_cons_zero, List.set_cons_succ]
        refine wpAnyH_take (i := 3) (v := ?_) rfl (by kernel_rfl) (by kernel_rfl) (by kernel_rfl) (fun _ _ _ h => h) (Or.inl ⟨by rfl, ?_⟩) hS ?_
        rotate_left
        · (intro W hs; go_simp; first | done | with_reducible rfl)
        try simp only [Act.put, List.getElem_toArray, List.getElem_cons_zero, List.getElem_cons_succ, List.setIfInBounds_toArray, List.set_cons_zero, List.set_cons_succ]
        refine wpAnyH_take (i := 4) (v := ?_) rfl (by kernel_rfl) (by kernel_rfl) (by kernel_rfl) (fun _ _ _ h => h) (Or.inl ⟨by rfl, ?_⟩) hS ?_
        rotate_left
        · (intro W hs; go_simp; first | done | with_reducible rfl)
        try simp only [Act.put, List.getElem_toArray, List.getElem_cons_zero, List.getElem_cons_succ, List.setIfInBounds_toArray, List.set_cons_zero, List.set_cons_succ]
        refine wpAnyH_take (i := 5) (v := ?_) rfl (by kernel_rfl) (by kernel_rfl) (by kernel_rfl) (fun _ _ _ h => h) (Or.inl ⟨by rfl, ?_⟩) hS ?_
        rotate_left
        · (intro W hs; go_simp; first | done | with_reducible rfl)
        try simp only [Act.put, List.getElem_toArray, List.getElem_cons_zero, List.getElem_cons_succ, List.setIfInBounds_toArray, List.set_cons_zero, List.set_cons_succ]
        refine wpH_one (i := 6) (by kernel_rfl) rfl (fun K hK => ?_)
        go_simp
        refine (CCx.out _).mono ?_
        rintro e' w' ⟨rfl, hfi⟩
        refine hK.out _ _ (hS.trans hfi) (fun hS' => ?_)
        clear hK K hS hfi
        have hS := hS'
        clear hS'
        try simp only [Act.put, List.getElem_toArray, List.getElem_cons_zero, List.getElem_cons_succ, List.setIfInBounds_toArray, List.set_cons_zero, List.set_cons_succ]
        refine wpAnyH_take (i := 7) (v := ?_) rfl (by kernel_rfl) (by kernel_rfl) (by kernel_rfl) (fun _ _ _ h => h) (Or.inl ⟨by rfl, ?_⟩) hS ?_
        rotate_left
        · (intro W hs; go_simp; first | done | with_reducible rfl)
        try simp only [Act.put, List.getElem_toArray, List.getElem_cons_zero, List.getElem_cons_succ, List.setIfInBounds_toArray, List.set_cons_zero, List.set_cons_succ]
        refine wpAnyH_done (by kernel_rfl) ?_ _
        have HF2 := Lib.hid (HF.out.trans hS)
        clear hS s0 g0 g1 g2 k0 k1 k2
        go_wp2
        go_roundw
        case rel => exact ⟨I, h, rfl, by go_num, hI, by omega, by omega, HF2.out⟩
        case measure => simp [intOf]; omega
    · obtain rfl : I = p := by omega
      obtain rfl : J = I := by omega
      have hlt' : ¬ (J : Int) < (J : Int) := by omega
      by_cases hn : J < xs.length
      · have hn' : (J : Int) < (xs.length : Int) := by omega
        obtain ⟨b, o, rfl, _, p0, p1, p2⟩ := HC.out J hn
        obtain ⟨x, hx⟩ : ∃ x, x = gt xs J := ⟨_, rfl⟩
        have HMx : Hid (tm = decide (x = e)) := Lib.hid (by
          have h1 := HM.out
          rw [← hx] at h1
          rw [HTm.out, Bool.eq_iff_iff, decide_eq_true_iff, decide_eq_true_iff, h1]
          exact ⟨fun q => q.2, fun q => ⟨hn, q⟩⟩)
        rw [← hx] at p0 p1 p2
        have k0 : ∀ W, Fx No wr W → W.cell? ⟨b, o + J * 3, none⟩ = some (.int .i64 x.f) := fun W hw => ((HX.out.trans HF.out).trans hw).cell' p0 (fun h => h)
        have k1 : ∀ W, Fx No wr W → W.cell? ⟨b, o + J * 3 + 1, none⟩ = some (.int .i64 x.t) := fun W hw => ((HX.out.trans HF.out).trans hw).cell' p1 (fun h => h)
        have k2 : ∀ W, Fx No wr W → W.cell? ⟨b, o + J * 3 + 2, none⟩ = some (.int .i64 x.l) := fun W hw => ((HX.out.trans HF.out).trans hw).cell' p2 (fun h => h)
        clear p0 p1 p2 hx
        have CCx : Hid (∀ W : World, Calls Try.prog 53 #[.agg #[.int .i64 x.f, .int .i64 x.t, .int .i64 x.l], .agg #[.int .i64 e.f, .int .i64 e.t, .int .i64 e.l]] W fun e' w' => e' = .returned (.int .i64 (cmpE x e)) ∧ Fx No W w') := Lib.hid fun W => CC.out x e W
        have d1 : (cmpE x e == 0) = tm := by
          rw [HMx.out, Bool.eq_iff_iff, beq_iff_eq, decide_eq_true_iff]
          exact cmpE_zero
        go_wp2_with fail
        refine wp_region_H (fun W => Fx No wr W) (by kernel_rfl) s0.drew ?_
        intro hS
        refine wpAnyH_take (i := 0) (v := ?_) rfl (by kernel_rfl) (by kernel_rfl) (by kernel_rfl) (fun _ _ _ h => h) (Or.inl ⟨by rfl, ?_⟩) hS ?_
        rotate_left
        · (intro W hs; go_simp; first | done | with_reducible rfl)
        try simp only [Act.put, List.getElem_toArray, List.getElem_cons_zero, List.setIfInBounds_toArray, List.set_cons_zero, List.set_cons_succ]
        refine wpAnyH_take (i := 1) (v := ?_) rfl (by kernel_rfl) (by kernel_rfl) (by kernel_rfl) (fun _ _ _ h => h) (Or.inl ⟨by rfl, ?_⟩) hS ?_
        rotate_left
        · (intro W hs; go_simp; first | done | with_reducible rfl)
        try simp only [Act.put, List.getElem_toArray, List.getElem_cons_zero, List.getElem_cons_succ, List.setIfInBounds_toArray, List.set_cons_zero, List.set_cons_succ]
        refine wpAnyH_take (i := 2) (v := ?_) rfl (by kernel_rfl) (by kernel_rfl) (by kernel_rfl) (fun _ _ _ h => h) (Or.inl ⟨by rfl, ?_⟩) hS ?_
        rotate_left
        · (intro W hs; go_simp; first | done | with_reducible rfl)
        try simp only [Act.put, List.getElem_toArray, List.getElem_cons_zero, List.getElem_cons_succ, List.setIfInBounds_toArray, List.set_cons_zero, List.set_cons_succ]
        refine wpAnyH_take (i := 3) (v := ?_) rfl (by kernel_rfl) (by kernel_rfl) (by kernel_rfl) (fun _ _ _ h => h) (Or.inl ⟨by rfl, ?_⟩) hS ?_
        rotate_left
        · (intro W hs; go_simp; first | done | with_reducible rfl)
        try simp only [Act.put, List.getElem_toArray, List.getElem_cons_zero, List.getElem_cons_succ, List.setIfInBounds_toArray, List.set_cons_zero, List.set_cons_succ]
        refine wpAnyH_take (i := 4) (v := ?_) rfl (by kernel_rfl) (by kernel_rfl) (by kernel_rfl) (fun _ _ _ h => h) (Or.inl ⟨by rfl, ?_⟩) hS ?_
        rotate_left
        · (intro W hs; go_simp; first | done | with_reducible rfl)
        try simp only [Act.put, List.getElem_toArray, List.getElem_cons_zero, List.getElem_cons_succ, List.setIfInBounds_toArray, List.set_cons_zero, List.set_cons_succ]
        refine wpAnyH_take (i := 5) (v := ?_) rfl (by kernel_rfl) (by kernel_rfl) (by kernel_rfl) (fun _ _ _ h => h) (Or.inl ⟨by rfl, ?_⟩) hS ?_
        rotate_left
        · (intro W hs; go_simp; first | done | with_reducible rfl)
        try simp only [Act.put, List.getElem_toArray, List.getElem_cons_zero, List.getElem_cons_succ, List.setIfInBounds_toArray, List.set_cons_zero, List.set_cons_succ]
        refine wpAnyH_take (i := 6) (v := ?_) rfl (by kernel_rfl) (by kernel_rfl) (by kernel_rfl) (fun _ _ _ h => h) (Or.inl ⟨by rfl, ?_⟩) hS ?_
        rotate_left
        · (intro W hs; go_simp; first | done | with_reducible rfl)
        try simp only [Act.put, List.getElem_toArray, List.getElem_cons_zero, List.getElem_cons_succ, List.setIfInBounds_toArray, List.set_cons_zero, List.set_cons_succ]
        refine wpAnyH_take (i := 7) (v := ?_) rfl (by kernel_rfl) (by kernel_rfl) (by kernel_rfl) (fun _ _ _ h => h) (Or.inl ⟨by rfl, ?_⟩) hS ?_
        rotate_left
        · (intro W hs; go_simp; first | done | with_reducible rfl)
        try simp only [Act.put, List.getElem_toArray, List.getElem_cons_zero, List.getElem_cons_succ, List.setIfInBounds_toArray, List.set_cons_zero, List.set_cons_succ]
        refine wpAnyH_take (i := 8) (v := ?_) rfl (by kernel_rfl) (by kernel_rfl) (by kernel_rfl) (fun _ _ _ h => h) (Or.inl ⟨by rfl, ?_⟩) hS ?_
        rotate_left
        · (intro W hs; go_simp; first | done | with_reducible rfl)
        try simp only [Act.put, List.getElem_toArray, List.getElem_cons_zero, List.getElem_cons_succ, List.setIfInBounds_toArray, List.set_cons_zero, List.set_cons_succ]
        refine wpAnyH_take (i := 9) (v := ?_) rfl (by kernel_rfl) (by kernel_rfl) (by kernel_rfl) (fun _ _ _ h => h) (Or.inl ⟨by rfl, ?_⟩) hS ?_
        rotate_left
        · (intro W hs; go_simp; first | done | with_reducible rfl)
        try simp only [Act.put, List.getElem_toArray, List.getElem_cons_zero, List.getElem_cons_succ, List.setIfInBounds_toArray, List.set_cons_zero, List.set_cons_succ]
        refine wpAnyH_take (i := 10) (v := ?_) rfl (by kernel_rfl) (by kernel_rfl) (by kernel_rfl) (fun _ _ _ h => h) (Or.inl ⟨by rfl, ?_⟩) hS ?_
        rotate_left
        · (intro W hs; go_simp; first | done | with_reducible rfl)
        try simp only [Act.put, List.getElem_toArray, List.getElem_cons_zero, List.getElem_cons_succ, List.setIfInBounds_toArray, List.set_cons_zero, List.set_cons_succ]
        refine wpH_one (i := 11) (by kernel_rfl) rfl (fun K hK => ?_)
        go_simp
        refine (CCx.out _).mono ?_
        rintro e' w' ⟨rfl, hfi⟩
        refine hK.out _ _ (hS.trans hfi) (fun hS' => ?_)
        clear hK K hS hfi
        have hS := hS'
        clear hS'
        try simp only [Act.put, List.getElem_toArray, List.getElem_cons_zero, List.getElem_cons_succ, List.setIfInBounds_toArray, List.set_cons_zero, List.set_cons_succ]
        refine wpAnyH_take (i := 12) (v := ?_) rfl (by kernel_rfl) (by kernel_rfl) (by kernel_rfl) (fun _ _ _ h => h) (Or.inl ⟨by rfl, ?_⟩) hS ?_
        rotate_left
        · (intro W hs; go_simp; first | done | with_reducible rfl)
        try simp only [Act.put, List.getElem_toArray, List.getElem_cons_zero, List.getElem_cons_succ, List.setIfInBounds_toArray, List.set_cons_zero, List.set_cons_succ]
        refine wpAnyH_take (i := 13) (v := ?_) rfl (by kernel_rfl) (by kernel_rfl) (by kernel_rfl) (fun _ _ _ h => h) (Or.inl ⟨by rfl, ?_⟩) hS ?_
        rotate_left
        · (intro W hs; go_simp; first | done | with_reducible rfl)
        try simp only [Act.put, List.getElem_toArray, List.getElem_cons_zero, List.getElem_cons_succ, List.setIfInBounds_toArray, List.set_cons_zero, List.set_cons_succ]
        refine wpAnyH_take (i := 14) (v := ?_) rfl (by kernel_rfl) (by kernel_rfl) (by kernel_rfl) (fun _ _ _ h => h) (Or.inl ⟨by rfl, ?_⟩) hS ?_
        rotate_left
        · (intro W hs; go_simp; first | done | with_reducible rfl)
        try simp only [Act.put, List.getElem_toArray, List.getElem_cons_zero, List.getElem_cons_succ, List.setIfInBounds_toArray, List.set_cons_zero, List.set_cons_succ]
        refine wpAnyH_take (i := 15) (v := ?_) rfl (by kernel_rfl) (by kernel_rfl) (by kernel_rfl) (fun _ _ _ h => h) (Or.inl ⟨by rfl, ?_⟩) hS ?_
        rotate_left
        · (intro W hs; go_simp; first | done | with_reducible rfl)
        try simp only [Act.put, List.getElem_toArray, List.getElem_cons_zero, List.getElem_cons_succ, List.setIfInBounds_toArray, List.set_cons_zero, List.set_cons_succ]
        refine wpAnyH_done (by kernel_rfl) ?_ _
        have HF2 := Lib.hid (HF.out.trans hS)
        clear hS s0 g0 g1 g2 k0 k1 k2
        go_wp2
        go_ret2
        exact ⟨rfl, HX.out.trans HF2.out⟩
      · obtain rfl : J = xs.length := by omega
        have hn' : ¬ (xs.length : Int) < (xs.length : Int) := by omega
        have HMx : Hid (tm = false) := Lib.hid (by
          rw [HTm.out]
          exact decide_eq_false fun q => absurd (HM.out.1 q).1 (Nat.lt_irrefl _))
        go_wp2_with fail
        refine wp_region_H (fun W => Fx No wr W) (by kernel_rfl) s0.drew ?_
        intro hS
        refine wpAnyH_take (i := 0) (v := ?_) rfl (by kernel_rfl) (by kernel_rfl) (by kernel_rfl) (fun _ _ _ h => h) (Or.inl ⟨by rfl, ?_⟩) hS ?_
        rotate_left
        · (intro W hs; go_simp; first | done | with_reducible rfl)
        try simp only [Act.put, List.getElem_toArray, List.getElem_cons_zero, List.setIfInBounds_toArray, List.set_cons_zero, List.set_cons_succ]
        refine wpAnyH_take (i := 1) (v := ?_) rfl (by kernel_rfl) (by kernel_rfl) (by kernel_rfl) (fun _ _ _ h => h) (Or.inl ⟨by rfl, ?_⟩) hS ?_
        rotate_left
        · (intro W hs; go_simp; first | done | with_reducible rfl)
        try simp only [Act.put, List.getElem_toArray, List.getElem_cons_zero, List.getElem_cons_succ, List.setIfInBounds_toArray, List.set_cons_zero, List.set_cons_succ]
        refine wpAnyH_take (i := 2) (v := ?_) rfl (by kernel_rfl) (by kernel_rfl) (by kernel_rfl) (fun _ _ _ h => h) (Or.inl ⟨by rfl, ?_⟩) hS ?_
        rotate_left
        · (intro W hs; go_simp; first | done | with_reducible rfl)
        try simp only [Act.put, List.getElem_toArray, List.getElem_cons_zero, List.getElem_cons_succ, List.setIfInBounds_toArray, List.set_cons_zero, List.set_cons_succ]
        refine wpAnyH_take (i := 3) (v := ?_) rfl (by kernel_rfl) (by kernel_rfl) (by kernel_rfl) (fun _ _ _ h => h) (Or.inl ⟨by rfl, ?_⟩) hS ?_
        rotate_left
        · (intro W hs; go_simp; first | done | with_reducible rfl)
        try simp only [Act.put, List.getElem_toArray, List.getElem_cons_zero, List.getElem_cons_succ, List.setIfInBounds_toArray, List.set_cons_zero, List.set_cons_succ]
        refine wpAnyH_take (i := 4) (v := ?_) rfl (by kernel_rfl) (by kernel_rfl) (by kernel_rfl) (fun _ _ _ h => h) (Or.inl ⟨by rfl, ?_⟩) hS ?_
        rotate_left
        · (intro W hs; go_simp; first | done | with_reducible rfl)
        try simp only [Act.put, List.getElem_toArray, List.getElem_cons_zero, List.getElem_cons_succ, List.setIfInBounds_toArray, List.set_cons_zero, List.set_cons_succ]
        refine wpAnyH_take (i := 5) (v := undef) rfl (by kernel_rfl) (by kernel_rfl) (by kernel_rfl) (fun _ _ _ h => h) (Or.inr ⟨by rfl, rfl⟩) hS ?_
        try simp only [Act.put, List.getElem_toArray, List.getElem_cons_zero, List.getElem_cons_succ, List.setIfInBounds_toArray, List.set_cons_zero, List.set_cons_succ]
        refine wpAnyH_take (i := 6) (v := undef) rfl (by kernel_rfl) (by kernel_rfl) (by kernel_rfl) (fun _ _ _ h => h) (Or.inr ⟨by rfl, rfl⟩) hS ?_
        try simp only [Act.put, List.getElem_toArray, List.getElem_cons_zero, List.getElem_cons_succ, List.setIfInBounds_toArray, List.set_cons_zero, List.set_cons_succ]
        refine wpAnyH_take (i := 7) (v := undef) rfl (by kernel_rfl) (by kernel_rfl) (by kernel_rfl) (fun _ _ _ h => h) (Or.inr ⟨by rfl, rfl⟩) hS ?_
        try simp only [Act.put, List.getElem_toArray, List.getElem_cons_zero, List.getElem_cons_succ, List.setIfInBounds_toArray, List.set_cons_zero, List.set_cons_succ]
        refine wpAnyH_take (i := 8) (v := undef) rfl (by kernel_rfl) (by kernel_rfl) (by kernel_rfl) (fun _ _ _ h => h) (Or.inr ⟨by rfl, rfl⟩) hS ?_
        try simp only [Act.put, List.getElem_toArray, List.getElem_cons_zero, List.getElem_cons_succ, List.setIfInBounds_toArray, List.set_cons_zero, List.set_cons_succ]
        refine wpAnyH_take (i := 9) (v := undef) rfl (by kernel_rfl) (by kernel_rfl) (by kernel_rfl) (fun _ _ _ h => h) (Or.inr ⟨by rfl, rfl⟩) hS ?_
        try simp only [Act.put, List.getElem_toArray, List.getElem_cons_zero, List.getElem_cons_succ, List.setIfInBounds_toArray, List.set_cons_zero, List.set_cons_succ]
        refine wpAnyH_take (i := 10) (v := undef) rfl (by kernel_rfl) (by kernel_rfl) (by kernel_rfl) (fun _ _ _ h => h) (Or.inr ⟨by rfl, rfl⟩) hS ?_
        try simp only [Act.put, List.getElem_toArray, List.getElem_cons_zero, List.getElem_cons_succ, List.setIfInBounds_toArray, List.set_cons_zero, List.set_cons_succ]
        refine wpAnyH_take (i := 11) (v := undef) rfl (by kernel_rfl) (by kernel_rfl) (by kernel_rfl) (fun _ _ _ h => h) (Or.inr ⟨by rfl, rfl⟩) hS ?_
        try simp only [Act.put, List.getElem_toArray, List.getElem_cons_zero, List.getElem_cons_succ, List.setIfInBounds_toArray, List.set_cons_zero, List.set_cons_succ]
        refine wpAnyH_take (i := 12) (v := undef) rfl (by kernel_rfl) (by kernel_rfl) (by kernel_rfl) (fun _ _ _ h => h) (Or.inr ⟨by rfl, rfl⟩) hS ?_
        try simp only [Act.put, List.getElem_toArray, List.getElem_cons_zero, List.getElem_cons_succ, List.setIfInBounds_toArray, List.set_cons_zero, List.set_cons_succ]
        refine wpAnyH_take (i := 13) (v := ?_) rfl (by kernel_rfl) (by kernel_rfl) (by kernel_rfl) (fun _ _ _ h => h) (Or.inl ⟨by rfl, ?_⟩) hS ?_
        rotate_left
        · (intro W hs; go_simp; first | done | with_reducible rfl)
        try simp only [Act.put, List.getElem_toArray, List.getElem_cons_zero, List.getElem_cons_succ, List.setIfInBounds_toArray, List.set_cons_zero, List.set_cons_succ]
        refine wpAnyH_take (i := 14) (v := ?_) rfl (by kernel_rfl) (by kernel_rfl) (by kernel_rfl) (fun _ _ _ h => h) (Or.inl ⟨by rfl, ?_⟩) hS ?_
        rotate_left
        · (intro W hs; go_simp; first | done | with_reducible rfl)
        try simp only [Act.put, List.getElem_toArray, List.getElem_cons_zero, List.getElem_cons_succ, List.setIfInBounds_toArray, List.set_cons_zero, List.set_cons_succ]
        refine wpAnyH_take (i := 15) (v := ?_) rfl (by kernel_rfl) (by kernel_rfl) (by kernel_rfl) (fun _ _ _ h => h) (Or.inl ⟨by rfl, ?_⟩) hS ?_
        rotate_left
        · (intro W hs; go_simp; first | done | with_reducible rfl)
        try simp only [Act.put, List.getElem_toArray, List.getElem_cons_zero, List.getElem_cons_succ, List.setIfInBounds_toArray, List.set_cons_zero, List.set_cons_succ]
        refine wpAnyH_done (by kernel_rfl) ?_ _
        have HF2 := Lib.hid (HF.out.trans hS)
        clear hS s0 g0 g1 g2
        go_wp2
        go_ret2
        exact ⟨by rw [HMx.out]; rfl, HX.out.trans HF2.out⟩
end
#print axioms bsearch_any
end Go.Proofs.Yteafkafkbipcmaa

namespace Go.Proofs.Yteafkafkbipcmaa
open Go.RowKit
set_option linter.unusedVariables false

theorem run_copy_rowS {P : Program} (w : World) (dT sT ty elem : TypeId) (g o dLen dCap : Nat) (a : Addr) (sLen sCap : Nat) (cur : Array Value) (t : TypeId) (cs : List Value) (size m : Nat)
    (hu : P.underlying dT = some (.slice elem)) (hs : (P.info? elem).map (·.size) = some size)
    (hg : w.heap[g]? = some (.cells cur t (0, 0))) (hm : m = Nat.min sLen dLen) (hn : cs.length = m * size)
    (hsrc : ∀ j v, cs[j]? = some v → w.cell? (a.add j) = some v) (hfit : o + cs.length ≤ cur.size) (h1 : ∀ v ∈ cs, v.oneCell' = true) :
    (Builtin.copy_ #[dT, sT] ty #[.slice (some ⟨g, o, none⟩) dLen dCap, .slice (some a) sLen sCap]).run P w =
      .ok (goInt m) (w.setRow g (splice cur.toList o cs).toArray) := by
  have hl := run_loadCells_list (P := P) w a cs hsrc
  have hst := run_storeCells_at P g o t cs 0 cur w hg (by simpa using hfit) h1
  cases hq : P.info? elem with
  | none => simp [hq] at hs
  | some i =>
    have hi : i.size = size := by simpa [hq] using hs
    subst hm
    simp [Builtin.copy_, run_underlying hu, Builtin.lenOf, Builtin.firstCells, sizeOf, typeInfo, hq, hi, ← hn, hl, hst, splice]
theorem setRow_fx (w : World) (g : Nat) (cs : Array Value) : Fx (fun j => j = g) w (w.setRow g cs) := ⟨rfl, rfl, rfl, by simp [World.setRow], fun k _ hn => setRow_other w g k cs hn⟩
section
variable {P : Program} {w : World} {ops : Array Oper} {rest : List Oper} {o : Oper} {a : Act} {K : Act → World → Prop} {Q : Exit → Act → World → Prop} {E : Prop}
/-- copy into a row that is known whole -/
theorem wpList_copy_row (hgd : o.guard = none) (d s : Operand) (dT sT : TypeId)
    (ho : o.op = .call { callee := .builtin .copy, args := #[d, s], argTypes := #[dT, sT] }) (elem : TypeId) (size m : Nat) (hu : P.underlying dT = some (.slice elem)) (hsz : (P.info? elem).map (·.size) = some size)
    (g off dLen dCap : Nat) (ad : Addr) (sLen sCap : Nat) (hd : a.eval d = .slice (some ⟨g, off, none⟩) dLen dCap) (hs : a.eval s = .slice (some ad) sLen sCap)
    (cur : List Value) (t : TypeId) (hg : w.heap[g]? = some (.cells cur.toArray t (0, 0))) (cs : List Value) (hm : m = Nat.min sLen dLen) (hn : cs.length = m * size)
    (hsrc : ∀ j v, cs[j]? = some v → w.cell? (ad.add j) = some v) (hfit : off + cs.length ≤ cur.length) (h1 : One cs)
    (h : ∀ w', Hid (w'.heap[g]? = some (.cells (splice cur off cs).toArray t (0, 0))) → Hid (Fx (fun j => j = g) w w') → wpList P ops Q rest (a.put o.dst (goInt m)) w') : wpList P ops Q (o :: rest) a w := by
  refine wpList_plain hgd fun K hK => ?_
  have hrun := run_copy_rowS (P := P) w dT sT o.type elem g off dLen dCap ad sLen sCap cur.toArray t cs size m hu hsz hg hm hn hsrc (by simpa using hfit) h1
  unfold Oper.wp
  simp [execOp, ho, resolve, invoke, builtin, hd, hs, hrun, Result.andThen]
  exact hK _ _ (h _ (show _ = _ by simpa using setRow_heap w g _ _ t _ hg) (show Fx _ _ _ from setRow_fx w g _))
/-- .. as one step of a region that draws -/
theorem step_copy_row (hgd : o.guard = none) (d s : Operand) (dT sT : TypeId)
    (ho : o.op = .call { callee := .builtin .copy, args := #[d, s], argTypes := #[dT, sT] }) (elem : TypeId) (size m : Nat) (hu : P.underlying dT = some (.slice elem)) (hsz : (P.info? elem).map (·.size) = some size)
    (g off dLen dCap : Nat) (ad : Addr) (sLen sCap : Nat) (hd : a.eval d = .slice (some ⟨g, off, none⟩) dLen dCap) (hs : a.eval s = .slice (some ad) sLen sCap)
    (cur : List Value) (t : TypeId) (hg : w.heap[g]? = some (.cells cur.toArray t (0, 0))) (cs : List Value) (hm : m = Nat.min sLen dLen) (hn : cs.length = m * size)
    (hsrc : ∀ j v, cs[j]? = some v → w.cell? (ad.add j) = some v) (hfit : off + cs.length ≤ cur.length) (h1 : One cs)
    (h : ∀ w', Hid (w'.heap[g]? = some (.cells (splice cur off cs).toArray t (0, 0))) → Hid (Fx (fun j => j = g) w w') → K (a.put o.dst (goInt m)) w') :
    if Region.wanted o (yielded ops a.tmps) = true then Oper.wp P o a w K Q else E := by
  have hw : Region.wanted o (yielded ops a.tmps) = true := by simp [Region.wanted, hgd]
  rw [if_pos hw]
  have hrun := run_copy_rowS (P := P) w dT sT o.type elem g off dLen dCap ad sLen sCap cur.toArray t cs size m hu hsz hg hm hn hsrc (by simpa using hfit) h1
  unfold Oper.wp
  simp [execOp, ho, resolve, invoke, builtin, hd, hs, hrun, Result.andThen]
  exact h _ (show _ = _ by simpa using setRow_heap w g _ _ t _ hg) (show Fx _ _ _ from setRow_fx w g _)
/-- append in place, to a row that is known whole -/
theorem step_append_row (hgd : o.guard = none) (s x : Operand) (t : TypeId) (hop : o.op = Op.call { callee := Callee.builtin Builtin.append, args := #[s, x], argTypes := #[t, t] })
    (e : TypeId) {i : TypeInfo} (size : Nat) (ht : P.underlying t = some (.slice e)) (hi : P.info? e = some i) (hsize : i.size = size)
    (g n cap : Nat) (hs : a.eval s = .slice (some ⟨g, 0, none⟩) n cap) (ad : Addr) (m c : Nat) (hx : a.eval x = .slice (some ad) m c)
    (cur : List Value) (hg : w.heap[g]? = some (.cells cur.toArray e (0, 0))) (news : List Value) (hl : news.length = m * size)
    (hnews : ∀ j u, news[j]? = some u → w.cell? (ad.add j) = some u) (h1 : One news) (hroom : n + m ≤ cap) (hfit : n * size + news.length ≤ cur.length)
    (h : ∀ w', Hid (w'.heap[g]? = some (.cells (splice cur (n * size) news).toArray e (0, 0))) → Hid (Fx (fun j => j = g) w w') → K (a.put o.dst (.slice (some ⟨g, 0, none⟩) (n + m) cap)) w') :
    if Region.wanted o (yielded ops a.tmps) = true then Oper.wp P o a w K Q else E := by
  have hw : Region.wanted o (yielded ops a.tmps) = true := by simp [Region.wanted, hgd]
  rw [if_pos hw]
  subst hsize
  have hrun := run_append_room (P := P) w t o.type e i ht hi g n cap cur.toArray hg ad m c news hl hnews h1 hroom (by simpa using hfit)
  unfold Oper.wp
  simp [execOp, hop, resolve, invoke, builtin, hs, hx, hrun, Result.andThen]
  exact h _ (show _ = _ by simpa [splice] using setRow_heap w g _ _ e _ hg) (show Fx _ _ _ from setRow_fx w g _)
/-- clear of a part of a row that is known whole -/
theorem wpList_clear_row (hgd : o.guard = none) (x : Operand) (t : TypeId) (hop : o.op = Op.call { callee := Callee.builtin Builtin.clear, args := #[x], argTypes := #[t] })
    (e : TypeId) (z : Value) (ht : P.underlying t = some (.slice e)) (hv : ∀ w, (zeroValue e).run P w = .ok z w) (g off m c : Nat) (hx : a.eval x = .slice (some ⟨g, off, none⟩) m c) (hm : 0 < m)
    (cur : List Value) (tt : TypeId) (hg : w.heap[g]? = some (.cells cur.toArray tt (0, 0))) (zs : List Value) (hz : (Builtin.zeroCells z.cells m).toList = zs) (h1 : One zs) (hfit : off + zs.length ≤ cur.length)
    (h : ∀ w', Hid (w'.heap[g]? = some (.cells (splice cur off zs).toArray tt (0, 0))) → Hid (Fx (fun j => j = g) w w') → wpList P ops Q rest (a.put o.dst (.tuple #[])) w') : wpList P ops Q (o :: rest) a w := by
  refine wpList_plain hgd fun K hK => ?_
  have hst := run_storeCells_at P g off tt zs 0 cur.toArray w hg (by simpa using hfit) h1
  obtain ⟨m, rfl⟩ : ∃ k, m = k + 1 := ⟨m - 1, by omega⟩
  have hrun : (Builtin.clear_ #[t] o.type #[.slice (some ⟨g, off, none⟩) (m + 1) c]).run P w = .ok (.tuple #[]) (w.setRow g (splice cur off zs).toArray) := by
    simp [Builtin.clear_, run_underlying ht, hv, hz, hst, splice]
  unfold Oper.wp
  simp [execOp, hop, resolve, invoke, builtin, hx, hrun, Result.andThen]
  exact hK _ _ (h _ (show _ = _ by simpa using setRow_heap w g _ _ tt _ hg) (show Fx _ _ _ from setRow_fx w g _))
end
/-- an owned row that is not empty, taken apart -/
theorem ownsRow_open {w : World} {base : Nat} {e : TypeId} {size : Nat} {v : Value} {n : Nat} {xs : List Value} (h : w.ownsRow base e size v n xs) (hn : 0 < n) :
    ∃ g cap cur, v = .slice (some ⟨g, 0, none⟩) n cap ∧ base ≤ g ∧ w.heap[g]? = some (.cells (cur : List Value).toArray e (0, 0)) ∧ n ≤ cap ∧ cap ≤ maxLen ∧ cur.length = cap * size ∧ cur.take (n * size) = xs := by
  rcases h.2 with ⟨_, h0⟩ | ⟨g, cap, cur, h1, h2, h3, h4, h5, h6, h7⟩
  · omega
  · exact ⟨g, cap, cur.toList, h1, h2, by simpa using h3, h4, h5, by simpa using h6, h7⟩
theorem ownsRow_shut {w : World} {base : Nat} {e : TypeId} {size : Nat} {n : Nat} {xs : List Value} {g cap : Nat} {cur : List Value} (hl : xs.length = n * size) (hb : base ≤ g) (hg : w.heap[g]? = some (.cells cur.toArray e (0, 0))) (h1 : n ≤ cap) (h2 : cap ≤ maxLen)
    (h3 : cur.length = cap * size) (h4 : cur.take (n * size) = xs) : w.ownsRow base e size (.slice (some ⟨g, 0, none⟩) n cap) n xs :=
  ⟨hl, .inr ⟨g, cap, cur.toArray, rfl, hb, hg, h1, h2, by simpa using h3, by simpa using h4⟩⟩
theorem cell_row {w : World} {g : Nat} {cur : List Value} {t : TypeId} {fr : Nat × Nat} (hg : w.heap[g]? = some (.cells cur.toArray t fr)) (j : Nat) : w.cell? ⟨g, j, none⟩ = cur[j]? := by
  rw [cell_of_row _ _ _ _ _ _ hg]; simp
#print axioms wpList_copy_row
end Go.Proofs.Yteafkafkbipcmaa

namespace Go.Proofs.Yteafkafkbipcmaa
open Go.RowKit
set_option linter.unusedVariables false

abbrev OwnE (w : World) (v : Value) (xs : List Ed) : Prop := OwnT 57 e3 3 w 0 v xs
/-- a block of one edge -/
def EdB (w : World) (b : Nat) (x : Ed) : Prop := w.heap[b]? = some (.cells #[.int .i64 x.f, .int .i64 x.t, .int .i64 x.l] 57 (0, 0))
theorem EdB.fx {w w' : World} {S : Nat → Prop} {b : Nat} {x : Ed} (h : EdB w b x) (hf : Fx S w w') (hb : ¬ S b) : EdB w' b x := hf.at_ h hb
theorem EdB.sl {w : World} {b : Nat} {x : Ed} (h : EdB w b x) : SlV w (fun j => j = b) (.slice (some ⟨b, 0, none⟩) 1 1) 3 1 (ints (e3 x)) := by
  refine ⟨_, 1, rfl, Nat.le_refl _, by unfold maxLen; omega, rfl, by simp, .inr ⟨b, 0, rfl, rfl, fun i hi => ?_⟩⟩
  have hi' : i < 3 := by simpa [ints, e3] using hi
  rw [cell_of_row _ _ _ _ _ _ h]
  match i, hi' with
  | 0, _ => rfl
  | 1, _ => rfl
  | 2, _ => rfl
theorem info_edge' : ∃ i, Try.prog.info? 57 = some i ∧ i.zero = some (.agg #[.int .i64 0, .int .i64 0, .int .i64 0]) ∧ i.size = 3 ∧ i.bytes = 24 := info_parts info_edge
section
variable {w : World} {v : Value} {xs : List Ed} {x : Ed} {vb : Nat}
set_option maxRecDepth 100000 in
set_option maxHeartbeats 1000000 in
/-- at the end -/
theorem insert_end (h : OwnE w v xs) (hl : xs.length ≤ 1000000) (hx : EdB w vb x) :
    Calls Try.prog 54 #[v, .int .i64 (xs.length : Nat), .slice (some ⟨vb, 0, none⟩) 1 1] w fun e w' =>
      ∃ v', e = .returned v' ∧ OwnE w' v' (xs ++ [x]) ∧ Fx (fun b => v.ownBlock = some b) w w' ∧ ∀ g, v'.ownBlock = some g → v.ownBlock = some g ∨ w.heap.size ≤ g := by
  obtain ⟨ii, hi, hz, hs, hb⟩ := info_edge'
  have HO := Lib.hid h
  have HXx := Lib.hid hx
  obtain ⟨ao, cap, rfl, hcl, hcm, _⟩ := EdsV.facts h.row
  clear h hx
  go_enter Try.func54, Try.ntmps54
  go_wp2_with (at_builtin; refine wpList_append_kept rfl _ _ 22 rfl 0 57 Try.underlying22 hi hz hs hb rfl (by decide) rfl HO.out rfl HXx.out.sl (ints_one _) (by omega) (by unfold maxLen; omega) (by omega) (Nat.zero_le _) ?_)
  all_goals
    intro v' w1 ho hfx _ hb2
    have HO2 := Lib.hid (OwnT.snoc ho)
    have HF : Hid (Fx (fun b => (Value.slice ao xs.length cap).ownBlock = some b) w w1) := Lib.hid (by cases ao <;> exact hfx)
    have HB : Hid (∀ g, v'.ownBlock = some g → (Value.slice ao xs.length cap).ownBlock = some g ∨ w.heap.size ≤ g) := Lib.hid (by cases ao <;> exact hb2)
    clear ho hfx hb2
    go_wp2
    go_ret
    exact ⟨_, rfl, HO2.out, HF.out, HB.out⟩
theorem splice_ins {α : Type} (cur : List α) (news : List α) (i n : Nat) (hi : i ≤ n) (hn : news.length = 3) (hc : (n + 1) * 3 ≤ cur.length) :
    (splice (splice cur ((i + 1) * 3) ((cur.take (n * 3)).drop (i * 3))) (i * 3) news).take ((n + 1) * 3) = (cur.take (n * 3)).take (i * 3) ++ news ++ (cur.take (n * 3)).drop (i * 3) := by
  have h1 : ((cur.take (n * 3)).drop (i * 3)).length = (n - i) * 3 := by
    rw [List.length_drop, List.length_take, Nat.sub_mul]; omega
  obtain ⟨R, hR⟩ : ∃ R, R = (cur.take (n * 3)).drop (i * 3) := ⟨_, rfl⟩
  rw [← hR] at h1 ⊢
  have e1 : (cur.take (n * 3)).take (i * 3) = cur.take (i * 3) := by
    rw [List.take_take]; congr 1; omega
  have hA : (cur.take ((i + 1) * 3)).length = (i + 1) * 3 := by rw [List.length_take]; omega
  have hB : (cur.take (i * 3)).length = i * 3 := by rw [List.length_take]; omega
  rw [e1]
  unfold splice
  have e2 : (cur.take ((i + 1) * 3) ++ (R ++ cur.drop ((i + 1) * 3 + R.length))).take (i * 3) = cur.take (i * 3) := by
    rw [List.take_append_of_le_length (by omega), List.take_take]; congr 1; omega
  have e3 : (cur.take ((i + 1) * 3) ++ (R ++ cur.drop ((i + 1) * 3 + R.length))).drop (i * 3 + news.length) = R ++ cur.drop ((i + 1) * 3 + R.length) := by
    rw [List.drop_append, List.drop_eq_nil_of_le (by omega), List.nil_append, show i * 3 + news.length - (cur.take ((i + 1) * 3)).length = 0 by omega, List.drop_zero]
  rw [e2, e3]
  have hL : (cur.take (i * 3) ++ (news ++ R)).length = (n + 1) * 3 := by simp only [List.length_append]; omega
  rw [show cur.take (i * 3) ++ (news ++ (R ++ cur.drop ((i + 1) * 3 + R.length))) = (cur.take (i * 3) ++ (news ++ R)) ++ cur.drop ((i + 1) * 3 + R.length) by simp, List.take_append_of_le_length (by omega), List.take_of_length_le (by omega)]
  simp
theorem icells_take (xs : List Ed) (i : Nat) : (icells e3 xs).take (i * 3) = icells e3 (xs.take i) := by
  have h : icells e3 xs = icells e3 (xs.take i) ++ icells e3 (xs.drop i) := by rw [← icells_append, List.take_append_drop]
  by_cases hi : i ≤ xs.length
  · have hl : (icells e3 (xs.take i)).length = i * 3 := by rw [icells_length e3_len, List.length_take]; congr 1; omega
    rw [h, List.take_append_of_le_length (by omega), List.take_of_length_le (by omega)]
  · rw [List.take_of_length_le (by rw [icells_length e3_len]; omega), List.take_of_length_le (by omega)]
theorem icells_drop (xs : List Ed) (i : Nat) : (icells e3 xs).drop (i * 3) = icells e3 (xs.drop i) := by
  have h : icells e3 xs = icells e3 (xs.take i) ++ icells e3 (xs.drop i) := by rw [← icells_append, List.take_append_drop]
  by_cases hi : i ≤ xs.length
  · have hl : (icells e3 (xs.take i)).length = i * 3 := by rw [icells_length e3_len, List.length_take]; congr 1; omega
    rw [h, List.drop_append, List.drop_eq_nil_of_le (by omega), List.nil_append, hl, Nat.sub_self, List.drop_zero]
  · rw [List.drop_eq_nil_of_le (by rw [icells_length e3_len]; omega), List.drop_eq_nil_of_le (by omega)]; rfl
theorem size_edge : (Try.prog.info? 57).map (·.size) = some 3 := by
  obtain ⟨ii, hi, hz, hs, hb⟩ := info_edge'
  rw [hi]; simp [hs]
set_option maxRecDepth 100000 in
set_option maxHeartbeats 1000000 in
/-- where there is room -/
theorem insert_room {g cap : Nat} {cur : List Value} (hg : w.heap[g]? = some (.cells cur.toArray 57 (0, 0))) (hcs : cur.length = cap * 3) (hcur : cur.take (xs.length * 3) = icells e3 xs) (hl : xs.length ≤ 1000000) (hcm : cap ≤ maxLen)
    {i : Nat} (hi : i < xs.length) (hroom : xs.length + 1 ≤ cap) (hx : EdB w vb x) (hvg : vb ≠ g) :
    Calls Try.prog 54 #[.slice (some ⟨g, 0, none⟩) xs.length cap, .int .i64 (i : Nat), .slice (some ⟨vb, 0, none⟩) 1 1] w fun e w' =>
      ∃ v', e = .returned v' ∧ OwnE w' v' (xs.take i ++ x :: xs.drop i) ∧ Fx (fun b => b = g) w w' ∧ ∀ b, v'.ownBlock = some b → b = g ∨ w.heap.size ≤ b := by
  have HG := Lib.hid hg
  have HXx := Lib.hid hx
  have HCur := Lib.hid hcur
  have hcm' : cap ≤ 9223372036854775807 := by unfold maxLen at hcm; exact hcm
  obtain ⟨n, hn⟩ : ∃ n, n = xs.length := ⟨_, rfl⟩
  rw [← hn] at hi hroom hl HCur ⊢
  have HN := Lib.hid hn
  have hcl3 : (n + 1) * 3 ≤ cur.length := by rw [hcs]; exact Nat.mul_le_mul_right _ hroom
  have hdn : Hid (((icells e3 xs).drop (i * 3)).length = (n - i) * 3) := Lib.hid (by rw [List.length_drop, icells_length e3_len, ← hn, Nat.sub_mul])
  have hsrc1 : Hid (∀ j v, ((icells e3 xs).drop (i * 3))[j]? = some v → w.cell? ((⟨g, i * 3, none⟩ : Addr).add j) = some v) := Lib.hid fun j v hj => by
    rw [Addr.add_lit, cell_row HG.out]
    rw [List.getElem?_drop, ← HCur.out, List.getElem?_take] at hj
    split at hj
    · exact hj
    · cases hj
  have hfit1 : Hid ((i + 1) * 3 + ((icells e3 xs).drop (i * 3)).length ≤ cur.length) := Lib.hid (by rw [hdn.out]; omega)
  have hone1 : Hid (One ((icells e3 xs).drop (i * 3))) := Lib.hid fun u hu => icells_one xs u (List.mem_of_mem_drop hu)
  have hsrc2 : Hid (∀ w2, Fx (fun j => j = g) w w2 → ∀ j v, (ints (e3 x))[j]? = some v → w2.cell? ((⟨vb, 0, none⟩ : Addr).add j) = some v) := Lib.hid fun w2 hf j v hj => by
    have h1 : EdB w2 vb x := HXx.out.fx hf hvg
    rw [Addr.add_lit, cell_of_row _ _ _ _ _ _ h1]
    simpa [ints, e3] using hj
  have hfit2 : Hid (i * 3 + (ints (e3 x)).length ≤ (splice cur ((i + 1) * 3) ((icells e3 xs).drop (i * 3))).length) := Lib.hid (by rw [length_splice _ _ _ hfit1.out]; simp [ints, e3]; omega)
  have hov : ∀ lb cb, (callFunc 60 #[.slice (some ⟨vb, 0, none⟩) 1 1, .slice (some ⟨g, (i + 1) * 3, none⟩) lb cb]).run Try.prog w = .ok (.value (.bool false)) w := fun lb cb => by
    rw [run_callFunc_extern Try.func60 (by kernel_rfl) (by kernel_rfl) (by kernel_rfl) (e := Extern.SlicesOverlaps.overlaps #[22, 22] #[4]) (by kernel_rfl),
      Lib.run_overlaps_apart w 22 4 57 Try.underlying22 3 (fun w => by obtain ⟨ii, hi, _, hs, _⟩ := info_edge'; simp [sizeOf, typeInfo, hi, hs]) ⟨vb, 0, none⟩ ⟨g, (i + 1) * 3, none⟩ 1 1 lb cb hvg 57 57 3 cur.length (by unfold EdB at hx; simp [World.shape?, hx]) (by simp [World.shape?, hg]) (by omega) (by unfold EdB at hx; simp [World.frozen?, hx]) (by unfold EdB at hx; simp [World.frozen?, hx])]
    rfl
  have hw1 : IntKind.i64.wrap ((i : Int) + 1) = (i : Int) + 1 := by rw [IntKind.wrap_i64]; omega
  have hb1 : (0 : Int) ≤ (i : Int) + 1 := by omega
  have htn : ((i : Int) + 1).toNat = i + 1 := by omega
  have hb0 : (i : Int) ≤ (n : Int) + 1 := by omega
  have b1 : ¬ (cap = i) := by omega
  have b2 : ¬ (cap = i + 1) := by omega
  have b3 : i ≤ n := by omega
  have b4 : (i : Int) + 1 ≤ (n : Int) + 1 := by omega
  have b5 : ¬ ((i : Int) = (n : Int)) := by omega
  have d1 : decide ((cap : Int) < (n : Int) + 1) = false := decide_eq_false (by omega)
  clear hx hg hcur hn
  go_enter Try.func54, Try.ntmps54
  go_wp2_with (simp only [hov])
  go_region_law (refine step_copy_row rfl (.tmp 73) (.tmp 76) 22 22 rfl 57 3 (n - i) Try.underlying22 size_edge g ((i + 1) * 3) (n + 1 - (i + 1)) (cap - (i + 1)) ⟨g, i * 3, none⟩ (n + 1 - i) (cap - i) (by simp [Act.eval, Act.put]) (by simp [Act.eval, Act.put]) cur 57 HG.out ((icells e3 xs).drop (i * 3)) (by simp [Nat.min_def]; omega) hdn.out hsrc1.out hfit1.out hone1.out ?_; intro w2 HG2 HF2)
  go_wp2_with (with_reducible refine wpList_copy_row rfl (.tmp 80) (.tmp 81) 22 22 rfl 57 3 1 Try.underlying22 size_edge g (i * 3) _ _ ⟨vb, 0, none⟩ 1 1 rfl rfl _ 57 HG2.out (ints (e3 x)) (by show 1 = min 1 (n + 1 - i); omega) rfl (hsrc2.out _ ((Fx.refl (fun j => j = g) w).drew.trans HF2.out)) hfit2.out (ints_one _) ?_)
  intro w3 HG3 HF3
  have HF : Hid (Fx (fun j => j = g) w w3) := Lib.hid (((Fx.refl (fun j => j = g) w).drew.trans HF2.out).trans HF3.out)
  have HO : Hid (OwnE w3 (.slice (some ⟨g, 0, none⟩) (n + 1) cap) (xs.take i ++ x :: xs.drop i)) := Lib.hid (by
    have hle : (xs.take i ++ x :: xs.drop i).length = n + 1 := by simp only [List.length_append, List.length_take, List.length_cons, List.length_drop, ← HN.out]; omega
    unfold OwnE OwnT
    rw [hle]
    refine ownsRow_shut (by rw [icells_length e3_len, hle]) (Nat.zero_le _) HG3.out hroom hcm (by rw [length_splice _ _ _ hfit2.out, length_splice _ _ _ hfit1.out, hcs]) ?_
    have h1 := splice_ins cur (ints (e3 x)) i n b3 rfl hcl3
    rw [HCur.out] at h1
    rw [h1, icells_take, icells_drop, icells_append, icells_cons, List.append_assoc])
  clear HG2 HG3 HF2 HF3 hov
  go_wp2
  go_ret
  exact ⟨_, rfl, HO.out, HF.out, fun b hb => .inl (by simpa [Value.ownBlock] using hb.symm)⟩
theorem grow_row {g : Nat} {cur : List Value} (hg : w.heap[g]? = some (.cells cur.toArray 57 (0, 0))) (hcur : cur.take (xs.length * 3) = icells e3 xs) (hl : xs.length ≤ 1000000) {i : Nat} (hi : i < xs.length) :
    ∃ (row : List Value) (G : Nat), xs.length + 1 ≤ G ∧ G ≤ maxLen ∧ row.length = G * 3 ∧ row.take (i * 3) = (icells e3 xs).take (i * 3) ∧
      ∀ ty, (Builtin.append_ #[22, 3] ty #[.slice (some ⟨g, 0, none⟩) i xs.length, .int .i64 ((xs.length : Int) + 1 - (i : Int))]).run Try.prog w =
        .ok (.slice (some ⟨w.heap.size, 0, none⟩) (xs.length + 1) G) (w.drew.alloc (.cells row.toArray 57)) := by
  obtain ⟨ii, hii, hz, hs, hb⟩ := info_edge'
  have hle := icells_length e3_len xs
  have hlt : ((icells e3 xs).take (i * 3)).length = i * 3 := by rw [List.length_take]; omega
  have hold : (Builtin.firstCells ii.size i (.slice (some ⟨g, 0, none⟩) i xs.length)).run Try.prog w.drew = .ok ((icells e3 xs).take (i * 3)).toArray w.drew := by
    rw [hs]
    refine run_firstCells_some (w := w.drew) 3 i ⟨g, 0, none⟩ i xs.length _ hlt fun j v hj => ?_
    rw [Addr.add_lit, Nat.zero_add]
    rw [List.getElem?_take, ← hcur, List.getElem?_take] at hj
    have h1 : w.drew.cell? ⟨g, j, none⟩ = cur[j]? := cell_row (w := w.drew) hg j
    rw [h1]
    split at hj
    · split at hj
      · exact hj
      · cases hj
    · cases hj
  have h := Lib.run_append_grow_zeros (P := Try.prog) w 22 3
  have hk : i + (xs.length + 1 - i) = xs.length + 1 := by omega
  have hki : (xs.length : Int) + 1 - (i : Int) = ((xs.length + 1 - i : Nat) : Int) := by omega
  have h2 := fun ty => h ty 57 ii _ .i64 .i64 Try.underlying22 Try.underlying3 hii hz (some ⟨g, 0, none⟩) i xs.length _ hold (xs.length + 1 - i) (by omega) (by omega) (by omega) (by omega) (by rw [hb]; omega) (by rw [hb, hk]; exact growslice_fits (by omega) (by omega))
  rw [hk] at h2
  refine ⟨(((icells e3 xs).take (i * 3)).toArray ++ Builtin.zeroCells (Value.agg #[.int .i64 0, .int .i64 0, .int .i64 0]).cells (xs.length + 1 - i) ++ Builtin.zeroCells (Value.agg #[.int .i64 0, .int .i64 0, .int .i64 0]).cells (grownCap w (xs.length + 1) xs.length 57 - (xs.length + 1))).toList, grownCap w (xs.length + 1) xs.length 57, grownCap_ge _ _ _ _, grownCap_le_maxLen _ _ _ _ (by unfold maxLen; omega), ?_, ?_, fun ty => ?_⟩
  · have hge := grownCap_ge w (xs.length + 1) xs.length 57
    have hsz : (Value.agg #[.int .i64 0, .int .i64 0, .int .i64 0]).cells.size = 3 := rfl
    rw [Array.length_toList, Array.size_append, Array.size_append, size_zeroCells, size_zeroCells, hsz]
    simp only [List.size_toArray, hlt]
    omega
  · simp only [Array.toList_append, List.append_assoc]
    rw [List.take_append_of_le_length (by omega), List.take_of_length_le (by omega)]
  · rw [hki, h2 ty]
theorem splice_ins2 {α : Type} (row xs news : List α) (i n G : Nat) (hi : i ≤ n) (hx : xs.length = n * 3) (hn : news.length = 3) (hc : (n + 1) * 3 ≤ row.length) (hr : row.take (i * 3) = xs.take (i * 3)) :
    (splice (splice row (i * 3) news) ((i + 1) * 3) (xs.drop (i * 3))).take ((n + 1) * 3) = xs.take (i * 3) ++ news ++ xs.drop (i * 3) := by
  have h1 : (xs.drop (i * 3)).length = (n - i) * 3 := by rw [List.length_drop, hx, Nat.sub_mul]
  have hB : (xs.take (i * 3)).length = i * 3 := by rw [List.length_take]; omega
  unfold splice
  rw [hr]
  have e2 : (xs.take (i * 3) ++ (news ++ row.drop (i * 3 + news.length))).take ((i + 1) * 3) = xs.take (i * 3) ++ news := by
    rw [← List.append_assoc, List.take_append_of_le_length (by simp only [List.length_append]; omega), List.take_of_length_le (by simp only [List.length_append]; omega)]
  rw [e2, ← List.append_assoc, List.take_append_of_le_length (by simp only [List.length_append]; omega), List.take_of_length_le (by simp only [List.length_append]; omega)]
set_option maxRecDepth 100000 in
set_option maxHeartbeats 1000000 in
/-- where there is none -/
theorem insert_grow {g : Nat} {cur : List Value} (hg : w.heap[g]? = some (.cells cur.toArray 57 (0, 0))) (hcur : cur.take (xs.length * 3) = icells e3 xs) (hl : xs.length ≤ 1000000)
    {i : Nat} (hi : i < xs.length) (hx : EdB w vb x) :
    Calls Try.prog 54 #[.slice (some ⟨g, 0, none⟩) xs.length xs.length, .int .i64 (i : Nat), .slice (some ⟨vb, 0, none⟩) 1 1] w fun e w' =>
      ∃ v', e = .returned v' ∧ OwnE w' v' (xs.take i ++ x :: xs.drop i) ∧ Fx No w w' ∧ ∀ b, v'.ownBlock = some b → b = w.heap.size := by
  obtain ⟨row, G, hG1, hG2, hrl, hrt, hrz⟩ := grow_row hg hcur hl hi
  have HG := Lib.hid hg
  have HXx := Lib.hid hx
  have HCur := Lib.hid hcur
  have HRt := Lib.hid hrt
  have hG3 : G ≤ 9223372036854775807 := by unfold maxLen at hG2; exact hG2
  obtain ⟨n, hn⟩ : ∃ n, n = xs.length := ⟨_, rfl⟩
  rw [← hn] at hi hl HCur hG1 hrz ⊢
  have HN := Lib.hid hn
  obtain ⟨N, hN⟩ : ∃ N, N = w.heap.size := ⟨_, rfl⟩
  have HNw := Lib.hid hN
  rw [← hN] at hrz
  have hgN : g < N := by rw [hN]; exact (Array.getElem?_eq_some_iff.1 hg).1
  have hvN : vb < N := by rw [hN]; exact (Array.getElem?_eq_some_iff.1 hx).1
  obtain ⟨W1, hW1⟩ : ∃ W, W = w.drew.alloc (.cells row.toArray 57) := ⟨_, rfl⟩
  rw [← hW1] at hrz
  have HR : Hid (W1.heap[N]? = some (.cells row.toArray 57 (0, 0))) := Lib.hid (by rw [hW1, hN]; show (w.heap.push _)[w.heap.size]? = _; simp)
  have HFa : Hid (Fx No w W1) := Lib.hid (by rw [hW1]; exact (Fx.refl No w).drew.alloc _)
  have hcl3 : (n + 1) * 3 ≤ row.length := by rw [hrl]; exact Nat.mul_le_mul_right _ hG1
  have hdn : Hid (((icells e3 xs).drop (i * 3)).length = (n - i) * 3) := Lib.hid (by rw [List.length_drop, icells_length e3_len, ← hn, Nat.sub_mul])
  have hsrc1 : Hid (∀ W, Fx (fun j => j = N) w W → ∀ j v, ((icells e3 xs).drop (i * 3))[j]? = some v → W.cell? ((⟨g, i * 3, none⟩ : Addr).add j) = some v) := Lib.hid fun W hf j v hj => by
    have h1 := hf.at_ HG.out (by omega)
    rw [Addr.add_lit, cell_row h1]
    rw [List.getElem?_drop, ← HCur.out, List.getElem?_take] at hj
    split at hj
    · exact hj
    · cases hj
  have hsrc2 : Hid (∀ W, Fx (fun j => j = N) w W → ∀ j v, (ints (e3 x))[j]? = some v → W.cell? ((⟨vb, 0, none⟩ : Addr).add j) = some v) := Lib.hid fun W hf j v hj => by
    have h1 : EdB W vb x := HXx.out.fx hf (by omega)
    rw [Addr.add_lit, cell_of_row _ _ _ _ _ _ h1]
    simpa [ints, e3] using hj
  have hone1 : Hid (One ((icells e3 xs).drop (i * 3))) := Lib.hid fun u hu => icells_one xs u (List.mem_of_mem_drop hu)
  have hfit1 : Hid (i * 3 + (ints (e3 x)).length ≤ row.length) := Lib.hid (by simp [ints, e3]; omega)
  have hfit2 : Hid ((i + 1) * 3 + ((icells e3 xs).drop (i * 3)).length ≤ (splice row (i * 3) (ints (e3 x))).length) := Lib.hid (by rw [length_splice _ _ _ hfit1.out, hdn.out]; omega)
  have hw1 : IntKind.i64.wrap ((i : Int) + 1) = (i : Int) + 1 := by rw [IntKind.wrap_i64]; omega
  have hb1 : (0 : Int) ≤ (i : Int) + 1 := by omega
  have htn : ((i : Int) + 1).toNat = i + 1 := by omega
  have hb0 : (i : Int) ≤ (n : Int) + 1 := by omega
  have b1 : ¬ (n = i) := by omega
  have b2 : ¬ (n = i + 1) ∨ n = i + 1 := by omega
  have b3 : i ≤ n := by omega
  have b4 : (i : Int) + 1 ≤ (n : Int) + 1 := by omega
  have b5 : ¬ ((i : Int) = (n : Int)) := by omega
  have b6 : ¬ (G = i) := by omega
  have b7 : ¬ (G = i + 1) := by omega
  have d1 : decide ((n : Int) < (n : Int) + 1) = true := decide_eq_true (by omega)
  clear hx hg hcur hn hW1 hN b2 hrt
  go_enter Try.func54, Try.ntmps54
  go_wp2_with (first
    | (at_builtin; refine Lib.wpList_append_run _ rfl _ _ _ _ rfl _ _ rfl rfl _ _ (hrz _) ?_)
    | (with_reducible refine wpList_copy_row rfl (.tmp 43) (.tmp 44) 22 22 rfl 57 3 1 Try.underlying22 size_edge N (i * 3) _ _ ⟨vb, 0, none⟩ 1 1 rfl rfl _ 57 HR.out (ints (e3 x)) (by show 1 = min 1 (n + 1 - i); omega) rfl (hsrc2.out _ HFa.out.no) hfit1.out (ints_one _) ?_))
  intro w2 HG2 HF2
  have HF2' : Hid (Fx (fun j => j = N) w w2) := Lib.hid (HFa.out.no.trans HF2.out)
  clear HF2
  go_wp2
  go_region_law (refine step_copy_row rfl (.tmp 50) (.tmp 53) 22 22 rfl 57 3 (n - i) Try.underlying22 size_edge N ((i + 1) * 3) (n + 1 - (i + 1)) (G - (i + 1)) ⟨g, i * 3, none⟩ (n - i) (n - i) (by simp [Act.eval, Act.put]) (by simp [Act.eval, Act.put]) _ 57 HG2.out ((icells e3 xs).drop (i * 3)) (by show n - i = min (n - i) (n + 1 - (i + 1)); omega) hdn.out (hsrc1.out _ HF2'.out.drew) hfit2.out hone1.out ?_; intro w3 HG3 HF3)
  have HO : Hid (OwnE w3 (.slice (some ⟨N, 0, none⟩) (n + 1) G) (xs.take i ++ x :: xs.drop i)) := Lib.hid (by
    have hle : (xs.take i ++ x :: xs.drop i).length = n + 1 := by simp only [List.length_append, List.length_take, List.length_cons, List.length_drop, ← HN.out]; omega
    unfold OwnE OwnT
    rw [hle]
    refine ownsRow_shut (by rw [icells_length e3_len, hle]) (Nat.zero_le _) HG3.out hG1 hG2 (by rw [length_splice _ _ _ hfit2.out, length_splice _ _ _ hfit1.out, hrl]) ?_
    have h1 := splice_ins2 row (icells e3 xs) (ints (e3 x)) i n G b3 (by rw [icells_length e3_len, ← HN.out]) rfl hcl3 HRt.out
    rw [h1, icells_take, icells_drop, icells_append, icells_cons, List.append_assoc])
  have HF : Hid (Fx No w w3) := Lib.hid (((HF2'.out.drew).trans HF3.out).mono fun k hk e => absurd (show k = N from e) (by have := HNw.out; omega))
  clear HG2 HG3 HF2' HF3 hrz
  go_wp2
  go_ret
  exact ⟨_, rfl, HO.out, HF.out, fun b hb => by rw [← HNw.out]; simpa [Value.ownBlock] using hb.symm⟩
/-- one edge into a row -/
theorem insert_any (h : OwnE w v xs) (hl : xs.length ≤ 1000000) {i : Nat} (hi : i ≤ xs.length) (hx : EdB w vb x) (hvb : v.ownBlock ≠ some vb) :
    Calls Try.prog 54 #[v, .int .i64 (i : Nat), .slice (some ⟨vb, 0, none⟩) 1 1] w fun e w' =>
      ∃ v', e = .returned v' ∧ OwnE w' v' (xs.take i ++ x :: xs.drop i) ∧ Fx (fun b => v.ownBlock = some b) w w' ∧ ∀ g, v'.ownBlock = some g → v.ownBlock = some g ∨ w.heap.size ≤ g := by
  by_cases he : i = xs.length
  · subst he
    rw [List.take_length, List.drop_length]
    exact insert_end h hl hx
  · have hi' : i < xs.length := by omega
    obtain ⟨g, cap, cur, rfl, _, hg, h1, h2, h3, h4⟩ := ownsRow_open h (by omega)
    by_cases hr : xs.length + 1 ≤ cap
    · refine (insert_room hg h3 h4 hl h2 hi' hr hx (fun e => hvb (by rw [e]; rfl))).mono ?_
      rintro e w' ⟨v', r1, r2, r3, r4⟩
      refine ⟨v', r1, r2, r3.mono fun k _ hk => by show some g = some k; rw [show k = g from hk], fun b hb => ?_⟩
      rcases r4 b hb with r | r
      · exact .inl (by rw [r]; rfl)
      · exact .inr r
    · obtain rfl : cap = xs.length := by omega
      refine (insert_grow hg h4 hl hi' hx).mono ?_
      rintro e w' ⟨v', r1, r2, r3, r4⟩
      exact ⟨v', r1, r2, r3.no, fun b hb => .inr (by rw [r4 b hb]; exact Nat.le_refl _)⟩
end
#print axioms insert_any
end Go.Proofs.Yteafkafkbipcmaa

namespace Go.Proofs.Yteafkafkbipcmaa
open Go.RowKit
set_option linter.unusedVariables false

theorem zero_edge (w : World) : (zeroValue 57).run Try.prog w = .ok (.agg #[.int .i64 0, .int .i64 0, .int .i64 0]) w := by
  obtain ⟨ii, hi, hz, hs, hb⟩ := info_edge'
  simp [zeroValue, typeInfo, hi, hz]
theorem zero_cells1 : (Builtin.zeroCells (Value.agg #[.int .i64 0, .int .i64 0, .int .i64 0]).cells 1).toList = [.int .i64 0, .int .i64 0, .int .i64 0] := by kernel_rfl
theorem zero_one : One [.int .i64 0, .int .i64 0, .int .i64 0] := ints_one [0, 0, 0]
theorem splice_del {α : Type} (cur xs zs : List α) (i n : Nat) (hi : i < n) (hx : xs.length = n * 3) (hz : zs.length = 3) (hc : n * 3 ≤ cur.length) (hr : cur.take (n * 3) = xs) :
    (splice (splice cur (i * 3) (xs.drop ((i + 1) * 3))) ((n - 1) * 3) zs).take ((n - 1) * 3) = xs.take (i * 3) ++ xs.drop ((i + 1) * 3) := by
  have h1 : (xs.drop ((i + 1) * 3)).length = (n - (i + 1)) * 3 := by rw [List.length_drop, hx, Nat.sub_mul]
  have e1 : cur.take (i * 3) = xs.take (i * 3) := by rw [← hr, List.take_take]; congr 1; omega
  have hA : (xs.take (i * 3)).length = i * 3 := by rw [List.length_take]; omega
  have e2 : (splice cur (i * 3) (xs.drop ((i + 1) * 3))).take ((n - 1) * 3) = xs.take (i * 3) ++ xs.drop ((i + 1) * 3) := by
    unfold splice
    rw [e1, ← List.append_assoc, List.take_append_of_le_length (by simp only [List.length_append]; omega), List.take_of_length_le (by simp only [List.length_append]; omega)]
  have hB : ((splice cur (i * 3) (xs.drop ((i + 1) * 3))).take ((n - 1) * 3)).length = (n - 1) * 3 := by
    rw [e2]; simp only [List.length_append]; omega
  unfold splice at hB e2 ⊢
  rw [List.take_append_of_le_length (by omega), List.take_of_length_le (by omega), e2]
section
variable {w : World} {v : Value} {xs : List Ed}
set_option maxRecDepth 100000 in
set_option maxHeartbeats 1000000 in
theorem clone_any {D : Nat → Prop} (h : EdsV w D v xs) (hl : xs.length ≤ 1000000) :
    Calls Try.prog 62 #[v] w fun e w' => ∃ v', e = .returned v' ∧ Fx No w w' ∧ OwnT 57 e3 3 w' w.heap.size v' xs := by
  obtain ⟨ii, hi, hz, hs, hb⟩ := info_edge'
  have H := Lib.hid h
  obtain ⟨ao, cap, rfl, hcl, hcm, hc⟩ := h.facts
  have HC := Lib.hid hc
  clear h hc
  cases ao with
  | none =>
    obtain rfl : xs = [] := by
      rcases xs with _ | ⟨x, xs⟩
      · rfl
      · obtain ⟨_, _, h0, _⟩ := HC.out 0 (by simp)
        cases h0
    have hq : ∀ n W, (binOp .eql 22 (.slice none n cap) (.slice none 0 0)).run Try.prog W = .ok (.bool true) W := fun n W => Lib.run_eql_slice_nil W _ _ none n cap 0 0 Try.underlying22
    go_enter Try.func62, Try.ntmps62
    go_wp2
    go_ret
    exact ⟨_, rfl, Fx.refl _ _, OwnT.nil _ _⟩
  | some ad =>
    have hq : ∀ W, (binOp .eql 22 (.slice (some ad) xs.length cap) (.slice none 0 0)).run Try.prog W = .ok (.bool false) W := fun W => Lib.run_eql_slice_nil W _ _ (some ad) _ cap 0 0 Try.underlying22
    have HO : Hid ((w.alloc (.cells #[] 57)).ownsRow w.heap.size 57 3 (.slice (some ⟨w.heap.size, 0, none⟩) 0 0) 0 []) := Lib.hid ⟨rfl, .inr ⟨_, 0, #[], rfl, Nat.le_refl _, by show (w.heap.push _)[w.heap.size]? = _; simp, Nat.le_refl _, Nat.zero_le _, rfl, rfl⟩⟩
    have HS : Hid (SlV (w.alloc (.cells #[] 57)) D (.slice (some ad) xs.length cap) 3 xs.length (icells e3 xs)) := Lib.hid (H.out.no ((Fx.refl No w).alloc _))
    go_enter Try.func62, Try.ntmps62
    go_wp2_with (at_builtin; refine wpList_append_sl rfl _ _ 22 rfl w.heap.size 57 Try.underlying22 hi hz hs hb rfl (by decide) rfl HO.out rfl HS.out (icells_one _) (by unfold maxLen; omega) (by omega) (by simp) ?_)
    intro v' w1 ho hf _
    have HO2 : Hid (OwnT 57 e3 3 w1 w.heap.size v' xs) := Lib.hid ho
    have HF : Hid (Fx No w w1) := Lib.hid (((Fx.refl No w).alloc _).trans' hf fun j h1 h2 => by
      have h3 : w.heap.size = j := by simpa [Value.ownBlock] using h1
      omega)
    clear ho hf
    go_wp2
    go_ret
    exact ⟨_, rfl, HF.out, HO2.out⟩
end
#print axioms clone_any
end Go.Proofs.Yteafkafkbipcmaa

namespace Go.Proofs.Yteafkafkbipcmaa
open Go.RowKit
set_option linter.unusedVariables false

/-- a row of a side: its value, its cell -/
structure RowAt (w : World) (D : Nat → Prop) (sb i : Nat) (v : Value) (xs : List Ed) : Prop where
  cell : w.cell? ⟨sb, i, none⟩ = some v
  live : w.frozen? ⟨sb, i, none⟩ = false
  own : OwnE w v xs
  lie : ∀ g, v.ownBlock = some g → D g ∧ g ≠ sb
/-- the rows of a side, each its own -/
structure RowsV (w : World) (D : Nat → Prop) (sb n : Nat) (row : Nat → List Ed) : Prop where
  at_ : D sb
  ex : ∃ vs : Nat → Value, (∀ i, i < n → RowAt w D sb i (vs i) (row i)) ∧ ∀ i j g, i < n → j < n → (vs i).ownBlock = some g → (vs j).ownBlock = some g → i = j
def upd (row : Nat → List Ed) (i : Nat) (xs : List Ed) : Nat → List Ed := fun j => if j = i then xs else row j
section
variable {w w' : World} {D S T : Nat → Prop} {sb n : Nat} {rr : Nat → List Ed}
theorem OwnE.lt {v : Value} {xs : List Ed} (h : OwnE w v xs) {g : Nat} (hg : v.ownBlock = some g) : g < w.heap.size := (OwnT.lt h hg).2
theorem RowAt.keep {i : Nat} {v : Value} {xs : List Ed} (h : RowAt w D sb i v xs) (hf : Fx S w w') (hs : ¬ S sb) (hg : ∀ g, v.ownBlock = some g → ¬ S g) : RowAt w' D sb i v xs :=
  ⟨hf.cell' h.cell hs, (hf.cellF h.cell h.live hs).2, h.own.fx hf hg, h.lie⟩
theorem RowsV.keep (h : RowsV w D sb n rr) (hf : Fx S w w') (hd : ∀ k, D k → ¬ S k) : RowsV w' D sb n rr := by
  obtain ⟨h1, vs, h2, h3⟩ := h
  exact ⟨h1, vs, fun i hi => (h2 i hi).keep hf (hd _ h1) fun g hg => hd g ((h2 i hi).lie g hg).1, h3⟩
theorem RowsV.no (h : RowsV w D sb n rr) (hf : Fx No w w') : RowsV w' D sb n rr := h.keep hf No.disj
theorem RowsV.mono (h : RowsV w D sb n rr) (hd : ∀ k, D k → T k) : RowsV w T sb n rr := by
  obtain ⟨h1, vs, h2, h3⟩ := h
  exact ⟨hd _ h1, vs, fun i hi => ⟨(h2 i hi).cell, (h2 i hi).live, (h2 i hi).own, fun g hg => ⟨hd _ ((h2 i hi).lie g hg).1, ((h2 i hi).lie g hg).2⟩⟩, h3⟩
theorem RowsV.rowAt (h : RowsV w D sb n rr) {i : Nat} (hi : i < n) : ∃ v, w.cell? ⟨sb, i, none⟩ = some v ∧ EdsV w (fun k => D k ∧ k < w.heap.size) v (rr i) := by
  obtain ⟨h1, vs, h2, h3⟩ := h
  refine ⟨vs i, (h2 i hi).cell, ?_⟩
  have h4 := h2 i hi
  have h5 : SlV w (fun b => (vs i).ownBlock = some b) (vs i) 3 (rr i).length (icells e3 (rr i)) := SlV.own h4.own
  exact (SlV.mono h5 fun k hk => ⟨(h4.lie k hk).1, h4.own.lt hk⟩)
theorem RowsV.congr {row' : Nat → List Ed} (h : RowsV w D sb n rr) (he : ∀ i, i < n → rr i = row' i) : RowsV w D sb n row' := by
  obtain ⟨h1, vs, h2, h3⟩ := h
  exact ⟨h1, vs, fun i hi => by rw [← he i hi]; exact h2 i hi, h3⟩
/-- behind a new row's store -/
theorem rowsV_store {vs : Nat → Value} {i : Nat} {v' : Value} {xs : List Ed} (hs : D sb) (h2 : ∀ i, i < n → RowAt w D sb i (vs i) (rr i)) (h3 : ∀ i j g, i < n → j < n → (vs i).ownBlock = some g → (vs j).ownBlock = some g → i = j) (hi : i < n)
    {w2 : World} (hf : Fx (fun b => (vs i).ownBlock = some b) w w2) (ho : OwnE w2 v' xs) (hb : ∀ g, v'.ownBlock = some g → (vs i).ownBlock = some g ∨ w.heap.size ≤ g) (hsb : sb < w.heap.size) :
    RowsV (w2.setCell ⟨sb, i, none⟩ v') (DU D w w2) sb n (upd rr i xs) ∧ Fx D w (w2.setCell ⟨sb, i, none⟩ v') := by
  have hd : ∀ b, (vs i).ownBlock = some b → D b ∧ b ≠ sb := (h2 i hi).lie
  have hns : ¬ (vs i).ownBlock = some sb := fun e => (hd sb e).2 rfl
  have c2 := hf.cellF (h2 i hi).cell (h2 i hi).live hns
  have hF : Fx D w (w2.setCell ⟨sb, i, none⟩ v') := (hf.mono fun k _ hk => (hd k hk).1).setCell (.inr hs) _
  have hp : Fx (fun j => j = sb) w2 (w2.setCell ⟨sb, i, none⟩ v') := Fx.put w2 sb i v'
  refine ⟨⟨.inl hs, fun j => if j = i then v' else vs j, fun j hj => ?_, fun j k g hj hk e1 e2 => ?_⟩, hF⟩
  · by_cases e : j = i
    · subst e
      simp only [↓reduceIte, upd]
      refine ⟨?_, ?_, ho.fx hp fun g hg e => ?_, fun g hg => ?_⟩
      · exact World.cell?_setCell_same _ _ _ c2.1
      · simpa using c2.2
      · subst e
        rcases hb g hg with h | h
        · exact hns h
        · omega
      · rcases hb g hg with h | h
        · exact ⟨.inl (hd g h).1, (hd g h).2⟩
        · exact ⟨.inr ⟨h, (ho.lt hg)⟩, by omega⟩
    · simp only [if_neg e, upd]
      have h4 := h2 j hj
      have c4 := hf.cellF h4.cell h4.live hns
      have hbs : ∀ g, (vs j).ownBlock = some g → ¬ (vs i).ownBlock = some g := fun g hg hg' => e (h3 j i g hj hi hg hg')
      refine ⟨?_, ?_, (h4.own.fx hf hbs).fx hp fun g hg e' => (h4.lie g hg).2 e', fun g hg => ⟨.inl (h4.lie g hg).1, (h4.lie g hg).2⟩⟩
      · have hne : (⟨sb, i, none⟩ : Addr) ≠ ⟨sb, j, none⟩ := by
          intro q
          exact e (congrArg Addr.off q).symm
        exact (World.cell?_setCell_other _ _ _ _ hne).trans c4.1
      · simpa using c4.2
  · by_cases e3 : j = i
    · by_cases e4 : k = i
      · omega
      · simp only [if_pos e3, if_neg e4] at e1 e2
        rcases hb g e1 with h | h
        · exact absurd (h3 i k g hi hk h e2) (fun q => e4 q.symm)
        · have := (h2 k hk).own.lt e2; omega
    · by_cases e4 : k = i
      · simp only [if_neg e3, if_pos e4] at e1 e2
        rcases hb g e2 with h | h
        · exact absurd (h3 j i g hj hi e1 h) e3
        · have := (h2 j hj).own.lt e1; omega
      · simp only [if_neg e3, if_neg e4] at e1 e2
        exact h3 j k g hj hk e1 e2
end
#print axioms rowsV_store
end Go.Proofs.Yteafkafkbipcmaa
