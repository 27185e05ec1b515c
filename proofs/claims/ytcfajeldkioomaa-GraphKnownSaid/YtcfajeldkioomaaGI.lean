/- graph: Has, made, New. -/
import Derived.Test.YtcfajeldkioomaaGH
namespace Go.Proofs.Ytcfajeldkioomaa
open Go.RowKit
set_option linter.unusedVariables false

section
variable {w w' : World} {D S T : Nat → Prop} {b n : Nat} {L : List Ed}
set_option maxRecDepth 100000 in
set_option maxHeartbeats 1000000 in
theorem gHas_any (h : GraphV w D b n L) (e : Ed) (he : e.ok) : Calls Try.prog 35 #[.pointer (some ⟨b, 0, none⟩), evE e] w fun r w' => r = .returned (.bool (decide (e ∈ L))) ∧ Fx No w w' := by
  obtain ⟨ob, ib, mb, DO, DI, hp⟩ := h.ex
  have HP := Lib.hid hp
  obtain ⟨t, ht⟩ : ∃ t, t = decide (e ∈ L) := ⟨_, rfl⟩
  have HK : Hid (∀ W, Fx No w W → (Instr.lookup 76 (.map (some mb)) (.agg #[.int .i64 e.f, .int .i64 e.t, .int .i64 e.l]) true).run Try.prog W = .ok (.tuple #[.agg #[], .bool t]) W) := Lib.hid fun W h => by rw [ht]; exact (HP.out.map.no h).look he
  rw [← ht]
  unfold evE
  clear h hp ht
  go_enter Try.func35, Try.ntmps35
  go_wp2_with fail
  refine wp_hold (fun W => Fx No w W ∧ W.cell? ⟨w.heap.size, 0, none⟩ = some (.int .i64 e.f) ∧ W.cell? ⟨w.heap.size, 1, none⟩ = some (.int .i64 e.t) ∧ W.cell? ⟨w.heap.size, 2, none⟩ = some (.int .i64 e.l)) ⟨(Fx.refl No w).alloc _, by go_simp, by go_simp, by go_simp⟩ ?_
  rintro wx ⟨hfx, c0, c1, c2⟩
  obtain ⟨q, hq⟩ : ∃ q, q = w.heap.size := ⟨_, rfl⟩
  rw [← hq] at c0 c1 c2 ⊢
  have HX := Lib.hid hfx
  have s0 : Fx No wx wx := Fx.refl _ _
  have g0 : ∀ W, Fx No wx W → W.cell? ⟨q, 0, none⟩ = some (.int .i64 e.f) := fun W h => h.cell' c0 (fun h => h)
  have g1 : ∀ W, Fx No wx W → W.cell? ⟨q, 1, none⟩ = some (.int .i64 e.t) := fun W h => h.cell' c1 (fun h => h)
  have g2 : ∀ W, Fx No wx W → W.cell? ⟨q, 2, none⟩ = some (.int .i64 e.l) := fun W h => h.cell' c2 (fun h => h)
  have g3 : ∀ W, Fx No wx W → W.cell? ⟨b, 2, none⟩ = some (.map (some mb)) := fun W h => (HX.out.trans h).cell' HP.out.c2 (fun h => h)
  have g4 : ∀ W, Fx No wx W → (Instr.lookup 76 (.map (some mb)) (.agg #[.int .i64 e.f, .int .i64 e.t, .int .i64 e.l]) true).run Try.prog W = .ok (.tuple #[.agg #[], .bool t]) W := fun W h => HK.out W (HX.out.trans h)
  clear c0 c1 c2 hfx hq
  refine wp_region_H (fun W => Fx No wx W) (by kernel_rfl) s0.drew ?_
  intro hS
  refine wpAnyH_take (i := 0) (v := ?_) rfl (by kernel_rfl) (by kernel_rfl) (by kernel_rfl) (fun _ _ _ h => h) (Or.inl ⟨by rfl, ?_⟩) hS ?_
  rotate_left
  · (intro W hs; go_simp; first | done | with_reducible rfl)
  try simp only [Act.put, List.getElem_toArray, List.getElem_cons_zero, List.getElem_cons_succ, List.setIfInBounds_toArray, List.set_cons_zero, List.set_cons_succ]
  refine wpAnyH_take (i := 1) (v := ?_) rfl (by kernel_rfl) (by kernel_rfl) (by kernel_rfl) (fun _ _ _ h => h) (Or.inl ⟨by rfl, ?_⟩) hS ?_
  rotate_left
  · (intro W hs; go_simp; first | done | with_reducible rfl)
  try simp only [Act.put, List.getElem_toArray, List.getElem_cons_zero, List.getElem_cons_succ, List.setIfInBounds_toArray, List.set_cons_zero, List.set_cons_succ]
  refine wpAnyH_take (i := 2) (v := ?_) rfl (by kernel_rfl) (by kernel_rfl) (by kernel_rfl) (fun _ _ _ h => h) (Or.inl ⟨by rfl, ?_⟩) hS ?_
  rotate_left
  · (intro W hs; go_simp; first | done | with_reducible rfl)
  try simp only [Act.put, List.getElem_toArray, List.getElem_cons_zero, List.getElem_cons_succ, List.setIfInBounds_toArray, List.set_cons_zero, List.set_cons_succ]
  refine wpAnyH_take (i := 3) (v := ?_) rfl (by kernel_rfl) (by kernel_rfl) (by kernel_rfl) (fun _ _ _ h => h) (Or.inl ⟨by rfl, ?_⟩) hS ?_
  rotate_left
  · (intro W hs; go_simp; first | done | with_reducible rfl)
  try simp only [Act.put, List.getElem_toArray, List.getElem_cons_zero, List.getElem_cons_succ, List.setIfInBounds_toArray, List.set_cons_zero, List.set_cons_succ]
  refine wpAnyH_take (i := 4) (v := ?_) rfl (by kernel_rfl) (by kernel_rfl) (by kernel_rfl) (fun _ _ _ h => h) (Or.inl ⟨by rfl, ?_⟩) hS ?_
  rotate_left
  · (intro W hs; go_simp; first | done | with_reducible rfl)
  try simp only [Act.put, List.getElem_toArray, List.getElem_cons_zero, List.getElem_cons_succ, List.setIfInBounds_toArray, List.set_cons_zero, List.set_cons_succ]
  refine wpAnyH_take (i := 5) (v := ?_) rfl (by kernel_rfl) (by kernel_rfl) (by kernel_rfl) (fun _ _ _ h => h) (Or.inl ⟨by rfl, ?_⟩) hS ?_
  rotate_left
  · (intro W hs; go_simp; first | done | with_reducible rfl)
  try simp only [Act.put, List.getElem_toArray, List.getElem_cons_zero, List.getElem_cons_succ, List.setIfInBounds_toArray, List.set_cons_zero, List.set_cons_succ]
  refine wpAnyH_take (i := 6) (v := ?_) rfl (by kernel_rfl) (by kernel_rfl) (by kernel_rfl) (fun _ _ _ h => h) (Or.inl ⟨by rfl, ?_⟩) hS ?_
  rotate_left
  · (intro W hs; go_simp; first | done | with_reducible rfl)
  try simp only [Act.put, List.getElem_toArray, List.getElem_cons_zero, List.getElem_cons_succ, List.setIfInBounds_toArray, List.set_cons_zero, List.set_cons_succ]
  refine wpAnyH_take (i := 7) (v := ?_) rfl (by kernel_rfl) (by kernel_rfl) (by kernel_rfl) (fun _ _ _ h => h) (Or.inl ⟨by rfl, ?_⟩) hS ?_
  rotate_left
  · (intro W hs; go_simp; first | done | with_reducible rfl)
  try simp only [Act.put, List.getElem_toArray, List.getElem_cons_zero, List.getElem_cons_succ, List.setIfInBounds_toArray, List.set_cons_zero, List.set_cons_succ]
  refine wpAnyH_take (i := 8) (v := ?_) rfl (by kernel_rfl) (by kernel_rfl) (by kernel_rfl) (fun _ _ _ h => h) (Or.inl ⟨by rfl, ?_⟩) hS ?_
  rotate_left
  · (intro W hs; go_simp; first | done | with_reducible rfl)
  try simp only [Act.put, List.getElem_toArray, List.getElem_cons_zero, List.getElem_cons_succ, List.setIfInBounds_toArray, List.set_cons_zero, List.set_cons_succ]
  refine wpH_one (i := 9) (by kernel_rfl) rfl (fun K hK => ?_)
  go_simp
  refine hK.out _ _ (hS.alloc _) (fun hS' => ?_)
  clear hK K hS
  have hS := hS'
  clear hS'
  try simp only [Act.put, List.getElem_toArray, List.getElem_cons_zero, List.getElem_cons_succ, List.setIfInBounds_toArray, List.set_cons_zero, List.set_cons_succ]
  refine wpH_one (i := 10) (by kernel_rfl) rfl (fun K hK => ?_)
  go_simp
  refine hK.out _ _ (hS) (fun hS' => ?_)
  clear hK K hS
  have hS := hS'
  clear hS'
  try simp only [Act.put, List.getElem_toArray, List.getElem_cons_zero, List.getElem_cons_succ, List.setIfInBounds_toArray, List.set_cons_zero, List.set_cons_succ]
  refine wpH_one (i := 11) (by kernel_rfl) rfl (fun K hK => ?_)
  go_simp
  refine hK.out _ _ (hS) (fun hS' => ?_)
  clear hK K hS
  have hS := hS'
  clear hS'
  try simp only [Act.put, List.getElem_toArray, List.getElem_cons_zero, List.getElem_cons_succ, List.setIfInBounds_toArray, List.set_cons_zero, List.set_cons_succ]
  refine wpAnyH_done (by kernel_rfl) ?_ _
  have HF := Lib.hid (HX.out.trans hS)
  clear hS g0 g1 g2 g3 g4 s0
  go_wp2
  go_ret
  exact ⟨rfl, HF.out⟩
theorem info_row : (Try.prog.info? 22).map (fun i => (i.zero, i.size, i.bytes)) = some (some (.slice none 0 0), 1, 24) := by kernel_rfl
def nilRows (k : Nat) : Array Value := Array.replicate k (.slice none 0 0)
theorem makeRowsE {E : Int} {k : Nat} (h0 : 0 ≤ E) (h1 : E ≤ 1000000) (hk : E.toNat = k) (w : World) :
    (Instr.makeSlice 78 (.int .i64 E) (.int .i64 E)).run Try.prog w = .ok (.slice (some ⟨w.heap.size, 0, none⟩) k k) (w.alloc (.cells (nilRows k) 22)) := by
  obtain ⟨i, hi, hz, hs, hb⟩ := info_parts info_row
  have := run_make (P := Try.prog) w 78 22 i _ Try.underlying78 hi hz .i64 .i64 E E h0 (Int.le_refl _) (by rw [hb]; omega) (by omega)
  rw [this, hk, hs]
  have e : madeCells (Value.slice none 0 0).cells (k * 1) = nilRows k := by
    apply Array.ext'
    rw [show (Value.slice none 0 0).cells = #[.slice none 0 0] from rfl, toList_madeCells_one]
    simp [nilRows]
  rw [e]
theorem heap4 (w : World) (p q r s : Obj) : ((((w.alloc p).alloc q).alloc r).alloc s).heap[w.heap.size]? = some p ∧ ((((w.alloc p).alloc q).alloc r).alloc s).heap[w.heap.size + 1]? = some q ∧
    ((((w.alloc p).alloc q).alloc r).alloc s).heap[w.heap.size + 2]? = some r ∧ ((((w.alloc p).alloc q).alloc r).alloc s).heap[w.heap.size + 3]? = some s := by
  have a := @MapKept.heap_alloc
  have z1 : (w.alloc p).heap.size = w.heap.size + 1 := by simp
  have z2 : ((w.alloc p).alloc q).heap.size = w.heap.size + 2 := by simp
  have z3 : (((w.alloc p).alloc q).alloc r).heap.size = w.heap.size + 3 := by simp
  refine ⟨?_, ?_, ?_, ?_⟩
  · rw [(a _ s).2 _ (by omega), (a _ r).2 _ (by omega), (a _ q).2 _ (by omega), (a w p).1]
  · rw [(a _ s).2 _ (by omega), (a _ r).2 _ (by omega), ← z1, (a _ q).1]
  · rw [(a _ s).2 _ (by omega), ← z2, (a _ r).1]
  · rw [← z3, (a _ s).1]
theorem rows_nil {W : World} {n sb : Nat} {D : Nat → Prop} (h : W.heap[sb]? = some (.cells (nilRows n) 22 (0, 0))) (hd : D sb) : RowsV W D sb n fun _ => [] := by
  refine ⟨hd, fun _ => .slice none 0 0, fun i hi => ⟨?_, ?_, OwnT.nil _ _, fun g hg => by cases hg⟩, fun i j g _ _ hg _ => by cases hg⟩
  · rw [cell_of_row _ _ _ _ _ _ h]; simp [nilRows, hi]
  · simp [World.frozen?, h]
theorem made_graph {W w : World} {b ob ib mb n : Nat} (hf : Fx No w W) (hb : W.heap[b]? = some (.cells #[.slice (some ⟨ob, 0, none⟩) n n, .slice (some ⟨ib, 0, none⟩) n n, .map (some mb)] 85 (0, 0)))
    (ho : W.heap[ob]? = some (.cells (nilRows n) 22 (0, 0))) (hi : W.heap[ib]? = some (.cells (nilRows n) 22 (0, 0))) (hm : W.heap[mb]? = some (.map #[] 0))
    (h1 : w.heap.size ≤ b) (h2 : w.heap.size ≤ ob) (h3 : w.heap.size ≤ ib) (h4 : w.heap.size ≤ mb) (hoi : ob ≠ ib) (hob : ob ≠ b) (hib : ib ≠ b) (hom : ob ≠ mb) (him : ib ≠ mb) (hbm : b ≠ mb) (hn : n ≤ 70000) : GraphV W (Iv w.heap.size W.heap.size) b n [] := by
  have lt : ∀ {k : Nat} {x : Obj}, W.heap[k]? = some x → k < W.heap.size := fun h => (Array.getElem?_eq_some_iff.1 h).1
  refine ⟨Asc.nil, by simp, by simp, hn, fun x hx => hx.2, ob, ib, mb, fun x => x = ob, fun x => x = ib, ?_⟩
  have e1 : outE [] = fun _ => [] := by funext i; rfl
  have e2 : inE [] = fun _ => [] := by funext i; rfl
  exact { db := ⟨h1, lt hb⟩, dm := ⟨h4, lt hm⟩, dO := by rintro x rfl; exact ⟨h2, lt ho⟩, dI := by rintro x rfl; exact ⟨h3, lt hi⟩, ap := by rintro x rfl; exact hoi,
          bO := fun e => hob e.symm, bI := fun e => hib e.symm, mO := fun e => hom e.symm, mI := fun e => him e.symm, bm := hbm,
          c0 := by rw [cell_of_row _ _ _ _ _ _ hb]; rfl, c1 := by rw [cell_of_row _ _ _ _ _ _ hb]; rfl, c2 := by rw [cell_of_row _ _ _ _ _ _ hb]; rfl,
          outs := by rw [e1]; exact rows_nil ho rfl, ins := by rw [e2]; exact rows_nil hi rfl,
          map := ⟨by simp, _, ⟨#[], 0, hm, ⟨by simp, MapKept.stamped_empty 0, by simp⟩, Nat.le_refl _, rfl⟩, fun e _ => by simp [Maps.has], rfl, fun kl h => by simp [Maps.has] at h⟩ }
set_option maxRecDepth 100000 in
set_option maxHeartbeats 2000000 in
theorem gMade_any (n : Nat) (w : World) (hn : n ≤ 70000) : Calls Try.prog 39 #[.int .i64 (n : Nat)] w fun e w' => ∃ b, e = .returned (.pointer (some ⟨b, 0, none⟩)) ∧ Fx No w w' ∧ GraphV w' (Iv w.heap.size w'.heap.size) b n [] := by
  have hm1 := makeRowsE (E := (n : Int)) (k := n) (by omega) (by omega) (by omega)
  have hmm := @run_makeMap Try.prog
  go_enter Try.func39, Try.ntmps39
  go_wp2
  go_region
  all_goals
    go_wp2
    go_ret
    refine ⟨_, rfl, by repeat (first | exact Fx.refl _ _ | apply Fx.alloc | apply Fx.drew | apply Fx.drewN), ?_⟩
    refine made_graph (by repeat (first | exact Fx.refl _ _ | apply Fx.alloc | apply Fx.drew | apply Fx.drewN)) (heap4 _ _ _ _ _).2.2.2 ?_ ?_ ?_ (by omega) (by omega) (by omega) (by omega) (by omega) (by omega) (by omega) (by omega) (by omega) (by omega) hn
    all_goals first | exact (heap4 _ _ _ _ _).1 | exact (heap4 _ _ _ _ _).2.1 | exact (heap4 _ _ _ _ _).2.2.1
theorem gNew_any (n : Nat) (w : World) (hn : n ≤ 65536) : Calls Try.prog 21 #[.int .i64 (n : Nat)] w fun e w' => ∃ b, e = .returned (.tuple #[.pointer (some ⟨b, 0, none⟩), .int .i64 0]) ∧ Fx No w w' ∧ GraphV w' (Iv w.heap.size w'.heap.size) b n [] := by
  have d1 : decide ((n : Int) < 0) = false := decide_eq_false (by omega)
  have d2 : decide ((65536 : Int) < (n : Int)) = false := decide_eq_false (by omega)
  go_enter Try.func21, Try.ntmps21
  go_wp2_with fail
  refine (gMade_any n w (by omega)).mono ?_
  rintro e w' ⟨b, rfl, hf, hg⟩
  have HF := Lib.hid hf
  have HG := Lib.hid hg
  clear hf hg
  go_wp2
  go_ret2
  exact ⟨b, rfl, HF.out, HG.out⟩
theorem gNew_no (n : Int) (w : World) (hn : n < 0 ∨ 65536 < n) : Calls Try.prog 21 #[.int .i64 n] w fun e w' => e = .returned (.tuple #[.pointer none, .int .i64 2]) ∧ w = w' := by
  by_cases h : n < 0
  · have d1 : decide (n < 0) = true := decide_eq_true h
    clear hn
    go_enter Try.func21, Try.ntmps21
    go_wp2
    go_ret2
    exact ⟨rfl, rfl⟩
  · have d1 : decide (n < 0) = false := decide_eq_false h
    have d2 : decide ((65536 : Int) < n) = true := decide_eq_true (by omega)
    clear hn
    go_enter Try.func21, Try.ntmps21
    go_wp2
    go_ret2
    exact ⟨rfl, rfl⟩
end
#print axioms gHas_any
#print axioms gMade_any
#print axioms gNew_no
end Go.Proofs.Ytcfajeldkioomaa
