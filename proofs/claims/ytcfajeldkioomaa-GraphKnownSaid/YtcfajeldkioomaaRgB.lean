/- The reference of graphs: edges and graphs as it has them; New. -/
import Derived.Test.YtcfajeldkioomaaRgA
namespace Go.Proofs.Ytcfajeldkioomaa
open Go.RowKit
set_option linter.unusedVariables false

theorem info_edge13 : (Try.prog.info? 33).map (fun i => (i.zero, i.size, i.bytes)) = some (some (.agg #[.int .i64 0, .int .i64 0, .int .i64 0]), 3, 24) := by kernel_rfl
/-- a row of the reference's edges -/
abbrev OwnR (w : World) (base : Nat) (v : Value) (xs : List Ed) : Prop := OwnT 33 e3 3 w base v xs
theorem calls_hold {P : Program} {f : FuncId} {args : Array Value} {W : World} {Q : Ending → World → Prop} (R : World → Prop) (hR : R W) (h : ∀ W', R W' → Calls P f args W' Q) : Calls P f args W Q := h W hR
theorem put_two (W : World) {qb : Nat} {a b : Value} (x y : Value) (q0 : W.cell? ⟨qb, 0, none⟩ = some a) (q1 : W.cell? ⟨qb, 1, none⟩ = some b) :
    ((W.setCell ⟨qb, 0, none⟩ x).setCell ⟨qb, 1, none⟩ y).cell? ⟨qb, 0, none⟩ = some x ∧ ((W.setCell ⟨qb, 0, none⟩ x).setCell ⟨qb, 1, none⟩ y).cell? ⟨qb, 1, none⟩ = some y ∧
    Fx (fun j => j = qb) W ((W.setCell ⟨qb, 0, none⟩ x).setCell ⟨qb, 1, none⟩ y) ∧ ((W.setCell ⟨qb, 0, none⟩ x).setCell ⟨qb, 1, none⟩ y).heap.size = W.heap.size := by
  refine ⟨?_, ?_, (Fx.put _ _ _ _).trans (Fx.put _ _ _ _), by simp [World.setCell]⟩
  · rw [World.cell?_setCell_other _ _ _ _ (by intro e; injection e; omega)]; exact World.cell?_setCell_same _ _ _ q0
  · exact World.cell?_setCell_same _ _ _ (by rw [World.cell?_setCell_other _ _ _ _ (by intro e; injection e; omega)]; exact q1)
section
variable {w w' : World} {D S E : Nat → Prop} {b n : Nat} {L xs ys : List Ed} {v u : Value}
set_option maxRecDepth 100000 in
set_option maxHeartbeats 2000000 in
theorem docEdges_any (h : EdsV w D v xs) (hl : xs.length ≤ 1000000) : Calls Try.prog 10 #[v] w fun e w' => ∃ v', e = .returned v' ∧ Fx No w w' ∧ OwnR w' w.heap.size v' xs := by
  obtain ⟨ii, hi, hz, hs, hb⟩ := info_parts info_edge13
  obtain ⟨ao, cap, rfl, hcl, hcm, hc⟩ := h.facts
  have HC := Lib.hid hc
  clear h hc
  go_enter Try.func10, Try.ntmps10
  go_wp2
  go_loopw [3, 4] (fun l i ws => ∃ k : Nat, i = .int .i64 k ∧ k ≤ xs.length ∧ Fx No w ws ∧ OwnR ws w.heap.size l (xs.take k)) (fun _ i _ => xs.length - (intOf i).toNat)
  case atStart => exact ⟨0, rfl, Nat.zero_le _, Fx.refl _ _, OwnT.nil _ _⟩
  case round =>
    obtain ⟨k, rfl, hk, hf, ho⟩ := hrel
    have HF := Lib.hid hf
    have HO := Lib.hid ho
    have hzr := hf.size
    clear hf ho
    by_cases hlt : k < xs.length
    · obtain ⟨bb, oo, rfl, _, c1, c2, c3⟩ := HC.out k hlt
      have HTk := Lib.hid (take_gt hlt)
      obtain ⟨x, hx⟩ : ∃ x, x = gt xs k := ⟨_, rfl⟩
      rw [← hx] at c1 c2 c3 HTk
      obtain ⟨f1, f2, f3⟩ := x
      simp only at c1 c2 c3
      have c1 := HF.out.cell' c1 (fun h => h)
      have c2 := HF.out.cell' c2 (fun h => h)
      have c3 := HF.out.cell' c3 (fun h => h)
      have hk0 : (0 : Int) ≤ (k : Int) := by omega
      have hk1 : (k : Int) < (xs.length : Int) := by omega
      obtain ⟨ys, hys⟩ : ∃ ys, ys = xs.take k := ⟨_, rfl⟩
      have hyl : ys.length = k := by rw [hys, List.length_take]; omega
      have HTy : Hid (xs.take (k + 1) = ys ++ [⟨f1, f2, f3⟩]) := Lib.hid (by rw [hys]; exact HTk.out)
      rw [← hys] at HO
      have HOw : Hid (∀ W, Fx No wr W → W.ownsRow w.heap.size 33 3 u3 ys.length (icells e3 ys)) := Lib.hid fun W h => OwnT.no HO.out h
      clear hx hys HTk
      go_wp2
      go_region_law (refine step_append_kept rfl (.tmp 11) (.tmp 28) 28 rfl w.heap.size 33 Try.underlying28 hi hz hs hb rfl (by decide) u3 ys.length (icells e3 ys) (by simp [Act.eval, Act.put]) (HOw.out _ (by repeat (first | exact Fx.refl _ _ | apply Fx.drew | apply Fx.drewN | apply Fx.alloc))) (fun _ => True) (.slice (some ⟨wr.heap.size, 0, none⟩) 1 1) 1 (ints [f1, f2, f3]) (by simp [Act.eval, Act.put]) (by first | exact SlV.lit wr 33 #[.int .i64 f1, .int .i64 f2, .int .i64 f3] 3 1 rfl (by unfold maxLen; omega) | exact SlV.keep (SlV.lit wr 33 #[.int .i64 f1, .int .i64 f2, .int .i64 f3] 3 1 rfl (by unfold maxLen; omega)) ((Fx.refl No _).drewN _) No.disj | exact SlV.keep (SlV.lit wr 33 #[.int .i64 f1, .int .i64 f2, .int .i64 f3] 3 1 rfl (by unfold maxLen; omega)) ((Fx.refl No _).drew) No.disj) (ints_one _) (by omega) (by unfold maxLen; omega) (by omega) (by simp; omega) ?_; intro v' w2 ho hfx hk9 hb2)
      all_goals
        have HO2 : Hid (OwnR w2 w.heap.size v' (xs.take (k + 1))) := Lib.hid (by rw [HTy.out]; exact OwnT.snoc ho)
        have HF2 : Hid (Fx No w w2) := Lib.hid (((HF.out.alloc _)).trans' ((by repeat (first | exact Fx.refl _ _ | apply Fx.drew | apply Fx.drewN) : Fx No (wr.alloc _) _).no.trans hfx) fun j h1 h2 => by have := (OwnT.lt HO.out h1).1; omega)
        clear ho hfx hk9 hb2 c1 c2 c3
        go_wp2
        go_roundw
        case rel => exact ⟨k + 1, by go_num, by omega, HF2.out, HO2.out⟩
        case measure => simp [intOf]; omega
    · obtain rfl : k = xs.length := by omega
      go_wp2
      go_ret
      refine ⟨_, rfl, HF.out, ?_⟩
      have h1 := HO.out
      rw [List.take_length] at h1
      exact h1
/-- a graph as the reference has it -/
theorem info_r13 : (Try.prog.info? 30).map (fun i => (i.zero, i.size)) = some (some (.agg #[.int .i64 0, .slice none 0 0]), 2) := by kernel_rfl
set_option maxRecDepth 100000 in
set_option maxHeartbeats 2000000 in
theorem docGraph_any (h : GraphV w D b n L) : Calls Try.prog 14 #[.pointer (some ⟨b, 0, none⟩)] w fun e w' => ∃ v', e = .returned (.agg #[.int .i64 (n : Nat), v']) ∧ Fx No w w' ∧ OwnR w' w.heap.size v' L := by
  have H := Lib.hid h
  have hsm := h.small
  clear h
  go_enter Try.func14, Try.ntmps14
  go_wp2_with fail
  obtain ⟨cb, hcb⟩ : ∃ r, r = w.heap.size := ⟨_, rfl⟩
  rw [← hcb]
  refine calls_hold (fun W => Fx No w W ∧ cb < W.heap.size ∧ W.cell? ⟨cb, 0, none⟩ = some (.int .i64 0) ∧ W.cell? ⟨cb, 1, none⟩ = some (.slice none 0 0) ∧ W.frozen? ⟨cb, 0, none⟩ = false ∧ W.frozen? ⟨cb, 1, none⟩ = false) ⟨(Fx.refl No w).alloc _, by rw [hcb, World.size_alloc]; exact Nat.lt_succ_self _, by rw [hcb]; simp, by rw [hcb]; simp, by rw [hcb]; simp, by rw [hcb]; simp⟩ ?_
  rintro w1 ⟨hf, k0, k1, k2, k3, k4⟩
  have HF := Lib.hid hf
  have HK := Lib.hid k0
  have HK1 := Lib.hid k1
  have HK2 := Lib.hid k2
  have HK3 := Lib.hid k3
  have HK4 := Lib.hid k4
  clear hf k0 k1 k2 k3 k4
  refine (gLen_any (H.out.no HF.out)).mono ?_
  rintro e w2 ⟨rfl, rfl⟩
  go_wp2_with fail
  refine (gEdges_any (H.out.no HF.out)).mono ?_
  rintro e w2 ⟨v1, rfl, hf1, ho1⟩
  have HF1 := Lib.hid hf1
  have HO1 := Lib.hid ho1
  clear hf1 ho1
  go_wp2_with fail
  refine (docEdges_any HO1.out.row hsm).mono ?_
  rintro e w3 ⟨v2, rfl, hf2, ho2⟩
  have HF2 : Hid (Fx No w1 w3) := Lib.hid (HF1.out.trans hf2)
  have HO2 : Hid (OwnR w3 w2.heap.size v2 L) := Lib.hid ho2
  have hz := HF1.out.size
  clear hf2 ho2
  obtain ⟨ao, cap, rfl, _⟩ := EdsV.facts HO2.out.row
  subst hcb
  obtain ⟨q0, f0⟩ := HF2.out.cellF HK1.out HK3.out (fun h => h)
  obtain ⟨q1, f1⟩ := HF2.out.cellF HK2.out HK4.out (fun h => h)
  obtain ⟨g1, g2, g3, g4⟩ := put_two w3 (qb := w.heap.size) (.int .i64 (n : Nat)) (.slice ao L.length cap) q0 q1
  have HG1 := Lib.hid g1
  have HG2 := Lib.hid g2
  have HG3 := Lib.hid g3
  have HG4 := Lib.hid g4
  clear g1 g2 g3 g4
  go_wp2
  refine bodyPost_ret (v := .agg #[.int .i64 (n : Nat), .slice ao L.length cap]) (by have g1 := HG1.out; have g2 := HG2.out; simp [results, Try.results14, go_sem, g1, g2]) rfl ⟨_, rfl, ?_, ?_⟩
  · exact ((HF.out.trans HF2.out).setCell (.inl (Nat.le_refl _)) _).setCell (.inl (Nat.le_refl _)) _
  · exact (HO2.out.base (by have := HF.out.size; omega)).fx HG3.out fun x hx e => by have h1 := (HO2.out.lt hx).1; have := HK.out; have e : x = w.heap.size := e; omega
set_option maxRecDepth 100000 in
set_option maxHeartbeats 2000000 in
theorem docNil_any (w : World) : Calls Try.prog 14 #[.pointer none] w fun e w' => ∃ v', e = .returned (.agg #[.int .i64 0, v']) ∧ Fx No w w' ∧ OwnR w' w.heap.size v' [] := by
  go_enter Try.func14, Try.ntmps14
  go_wp2_with fail
  obtain ⟨cb, hcb⟩ : ∃ r, r = w.heap.size := ⟨_, rfl⟩
  rw [← hcb]
  refine calls_hold (fun W => Fx No w W ∧ cb < W.heap.size ∧ W.cell? ⟨cb, 0, none⟩ = some (.int .i64 0) ∧ W.cell? ⟨cb, 1, none⟩ = some (.slice none 0 0) ∧ W.frozen? ⟨cb, 0, none⟩ = false ∧ W.frozen? ⟨cb, 1, none⟩ = false) ⟨(Fx.refl No w).alloc _, by rw [hcb, World.size_alloc]; exact Nat.lt_succ_self _, by rw [hcb]; simp, by rw [hcb]; simp, by rw [hcb]; simp, by rw [hcb]; simp⟩ ?_
  rintro w1 ⟨hf, k0, k1, k2, k3, k4⟩
  have HF := Lib.hid hf
  have HK := Lib.hid k0
  have HK1 := Lib.hid k1
  have HK2 := Lib.hid k2
  have HK3 := Lib.hid k3
  have HK4 := Lib.hid k4
  clear hf k0 k1 k2 k3 k4
  refine (nilLen_any w1).mono ?_
  rintro e w2 ⟨rfl, hf0⟩
  have HF0 := Lib.hid hf0
  clear hf0
  go_wp2_with fail
  refine (nilEdges_any w2).mono ?_
  rintro e w4 ⟨rfl, hf1⟩
  have HF1 : Hid (Fx No w1 w4) := Lib.hid (HF0.out.trans hf1)
  clear hf1
  go_wp2_with fail
  refine (docEdges_any (RowV.nil w4 No) (by decide)).mono ?_
  rintro e w3 ⟨v2, rfl, hf2, ho2⟩
  have HF2 : Hid (Fx No w1 w3) := Lib.hid (HF1.out.trans hf2)
  have HO2 : Hid (OwnR w3 w4.heap.size v2 []) := Lib.hid ho2
  have hz := HF1.out.size
  clear hf2 ho2
  obtain ⟨ao, cap, rfl, _⟩ := EdsV.facts HO2.out.row
  subst hcb
  obtain ⟨q0, f0⟩ := HF2.out.cellF HK1.out HK3.out (fun h => h)
  obtain ⟨q1, f1⟩ := HF2.out.cellF HK2.out HK4.out (fun h => h)
  obtain ⟨g1, g2, g3, g4⟩ := put_two w3 (qb := w.heap.size) (.int .i64 0) (.slice ao 0 cap) q0 q1
  have HG1 := Lib.hid g1
  have HG2 := Lib.hid g2
  have HG3 := Lib.hid g3
  have HG4 := Lib.hid g4
  clear g1 g2 g3 g4
  go_wp2
  refine bodyPost_ret (v := .agg #[.int .i64 0, .slice ao 0 cap]) (by have g1 := HG1.out; have g2 := HG2.out; simp [results, Try.results14, go_sem, g1, g2]) rfl ⟨_, rfl, ?_, ?_⟩
  · exact ((HF.out.trans HF2.out).setCell (.inl (Nat.le_refl _)) _).setCell (.inl (Nat.le_refl _)) _
  · exact (HO2.out.base (by have := HF.out.size; omega)).fx HG3.out fun x hx e => by have h1 := (HO2.out.lt hx).1; have := HK.out; have e : x = w.heap.size := e; omega
end
#print axioms docEdges_any
#print axioms docGraph_any
#print axioms docNil_any
end Go.Proofs.Ytcfajeldkioomaa
