/- Contract of package alibiref08: Do. -/
import Derived.Test.YthbfpcheljaeaaaDoorRefF
namespace Go.Proofs.YthbfpcheljaeaaaDoor
open Go.RowKit
set_option linter.unusedVariables false

theorem oneB_nat (L : List (Nat × Nat)) (k : Nat) : oneB L (k : Int) = oneX L k := by
  unfold oneB oneX; simp only [hasB_nat]
theorem eachB_nat (L : List (Nat × Nat)) (k : Nat) : eachB L (k : Int) = eachX L k := by
  unfold eachB eachX; simp only [hasB_nat]

/-- what one round's store leaves -/
theorem step_key {w w2 : World} {w1s b o g k n cap xcap Y : Nat} {bit xb : Bool} (hYk : Y.testBit k = bit) (hlt : k < n) (hn : n ≤ 65536) (hY : Y < 2 ^ n) (hbl : b < w.heap.size) (hg1 : w.heap.size + 2 ≤ g) (hw1 : w.heap.size + 2 ≤ w1s) (hg2 : g < w1s)
    (hc6 : w2.cell? ⟨w.heap.size, 0, none⟩ = some (.slice (some ⟨b, o, none⟩) n cap)) (hc7 : w2.cell? ⟨w.heap.size + 1, 0, none⟩ = some (.slice none 0 0)) (hz7 : w2.frozen? ⟨w.heap.size + 1, 0, none⟩ = false)
    (hc8 : w2.cell? ⟨w1s, 0, none⟩ = some (.slice (some ⟨g, 0, none⟩) n xcap)) (hcell : w2.cell? ⟨b, o + k, none⟩ = some (.bool xb))
    (hr : w2.ownsRow (w.heap.size + 2) 4 1 (.slice (some ⟨g, 0, none⟩) n xcap) n (boolsX n (lowX Y k))) (hf : Fx No w w2) (hcg : w2.cell? ⟨g, k, none⟩ = some (.bool false)) :
    (w2.setCell ⟨g, k, none⟩ (.bool bit)).drew.cell? ⟨w.heap.size, 0, none⟩ = some (.slice (some ⟨b, o, none⟩) n cap) ∧
    (w2.setCell ⟨g, k, none⟩ (.bool bit)).drew.cell? ⟨w.heap.size + 1, 0, none⟩ = some (.slice none 0 0) ∧ (w2.setCell ⟨g, k, none⟩ (.bool bit)).drew.frozen? ⟨w.heap.size + 1, 0, none⟩ = false ∧
    (w2.setCell ⟨g, k, none⟩ (.bool bit)).drew.cell? ⟨w1s, 0, none⟩ = some (.slice (some ⟨g, 0, none⟩) n xcap) ∧
    (w2.setCell ⟨g, k, none⟩ (.bool bit)).drew.cell? ⟨b, o + k, none⟩ = some (.bool xb) ∧ (w2.setCell ⟨g, k, none⟩ (.bool bit)).drew.cell? ⟨g, k, none⟩ = some (.bool bit) ∧ (w2.setCell ⟨g, k, none⟩ (.bool bit)).drew.heap.size = w2.heap.size ∧
    OwnR (w2.setCell ⟨g, k, none⟩ (.bool bit)).drew (w.heap.size + 2) (.slice (some ⟨g, 0, none⟩) n xcap) n (lowX Y (k + 1)) ∧ Fx No w (w2.setCell ⟨g, k, none⟩ (.bool bit)).drew := by
  refine ⟨?_, ?_, by simpa using hz7, ?_, ?_, ?_, by simp, ⟨hn, lowX_lt hY _, ?_⟩, (hf.setCell (.inl (by simp; omega)) _).drew⟩
  · simp only [World.cell?_drew]; rw [World.cell?_setCell_other _ _ _ _ (addr_ne (by simp; omega))]; exact hc6
  · simp only [World.cell?_drew]; rw [World.cell?_setCell_other _ _ _ _ (addr_ne (by simp; omega))]; exact hc7
  · simp only [World.cell?_drew]; rw [World.cell?_setCell_other _ _ _ _ (addr_ne (by simp; omega))]; exact hc8
  · simp only [World.cell?_drew]; rw [World.cell?_setCell_other _ _ _ _ (addr_ne (by simp; omega))]; exact hcell
  · simp only [World.cell?_drew]; exact World.cell?_setCell_same _ _ _ hcg
  · have h1 := (hr.stored k (.bool bit)).1
    rw [boolsX_set hlt (fun j => by rw [lowX_succ, hYk])] at h1
    exact h1

set_option maxHeartbeats 2000000 in
theorem refDo_any {w : World} {D : Nat → Prop} {v u : Value} {n X : Nat} {L : List (Nat × Nat)} (how : Int) (h : IsR w D v n X) (h' : SetsV w D u L) :
    Calls Tryd.prog 45 #[.agg #[v], .int .i64 how, u] w fun e w' => ∃ v', e = .returned (.tuple #[.agg #[v'], .int .i64 (turnN n X (doX how n X L))]) ∧ Fx No w w' ∧
      IsR w' (Iv w.heap.size w'.heap.size) v' n (doX how n X L) := by
  have hn := h.1
  have hX := h.2.1
  have HX := Lib.hid hX
  have H' := Lib.hid h'
  obtain ⟨ao, cap, rfl, hc⟩ := h.facts
  have HC := Lib.hid hc
  obtain ⟨uo, ucap, rfl, _, _⟩ := h'.facts
  have hN : newN (n : Int) = n := by unfold newN; omega
  clear hc h h'
  obtain ⟨Y, hY⟩ : ∃ Y, doX how n X L = Y := ⟨_, rfl⟩
  have hYlt : Y < 2 ^ n := by rw [← hY]; exact doX_lt hX
  have HYL := Lib.hid hYlt
  have HY := Lib.hid hY
  rw [hY]
  clear hY hX hYlt
  go_enter Tryd.func45, Tryd.ntmps45
  go_wp2_with fail
  refine (refNew_any _ _).mono ?_
  rintro e w1 ⟨u1, rfl, hf1, hr1⟩
  rw [hN] at hr1
  clear hN
  obtain ⟨xo, xcap, rfl⟩ := hr1.isR.shape
  have hc1 := hf1.cell' (a := ⟨w.heap.size, 0, none⟩) (v := .slice ao n cap) (by simp) (fun h => h)
  obtain ⟨hc2, hz2⟩ := hf1.cellF (a := ⟨w.heap.size + 1, 0, none⟩) (v := .slice none 0 0) (by simp) (by simp) (fun h => h)
  have hs1 := hf1.size
  simp only [World.size_alloc] at hs1
  have HF1 := Lib.hid ((((Fx.refl No w).alloc _).alloc _).trans hf1)
  have HR1 := Lib.hid hr1
  clear hf1 hr1
  go_wp2
  go_loopw [9, 10] (fun m i wr => ∃ k : Nat, k ≤ n ∧ i = .int .i64 k ∧ m = .int .i64 (turnN k X Y) ∧ Fx No w wr ∧ w1.heap.size < wr.heap.size ∧
      wr.cell? ⟨w.heap.size, 0, none⟩ = some (.slice ao n cap) ∧
      wr.cell? ⟨w.heap.size + 1, 0, none⟩ = some (.slice none 0 0) ∧ wr.frozen? ⟨w.heap.size + 1, 0, none⟩ = false ∧
      wr.cell? ⟨w1.heap.size, 0, none⟩ = some (.slice xo n xcap) ∧ OwnR wr (w.heap.size + 2) (.slice xo n xcap) n (lowX Y k)) (fun _ i _ => n - (intOf i).toNat)
  case atStart =>
    refine ⟨0, Nat.zero_le _, rfl, rfl, HF1.out.alloc _, by simp, ?_, ?_, ?_, by simp, ?_⟩
    · rw [World.cell?_alloc_lt _ _ _ (by simp; omega)]; exact hc1
    · rw [World.cell?_alloc_lt _ _ _ (by simp; omega)]; exact hc2
    · rw [World.frozen?_alloc_old _ _ _ (by simp; omega)]; exact hz2
    · rw [lowX_zero]
      obtain ⟨h1, h2, h3⟩ := HR1.out
      exact ⟨h1, h2, by have := h3.alloc (.cells #[.slice xo n xcap] 28); simpa using this⟩
  case round =>
    obtain ⟨k, hk, rfl, rfl, hf, hsz, hc3, hc4, hz4, hc5, hr⟩ := hrel
    have HF := Lib.hid hf
    have HR := Lib.hid hr
    have hT := turnN_le k X Y
    clear hf hr
    by_cases hlt : k < n
    · obtain ⟨b, o, rfl, hb1, hcell⟩ := HC.out k hlt
      have HCell := Lib.hid hcell
      have hbl := World.block_lt_of_cell? w _ hcell
      clear hb1 hcell
      obtain ⟨g, xcap', hg, hg1, hg2⟩ := ownsRow_pos HR.out.2.2 (by omega)
      simp only [Value.slice.injEq] at hg
      obtain ⟨rfl, _, rfl⟩ := hg
      have hg3 := (World.ownsRow.lt HR1.out.2.2 g rfl).2
      have hY0 : how = 0 → Y.testBit k = (X.testBit k || oneB L k) := by rintro rfl; rw [← HY.out, doX_zero hlt, oneB_nat]
      have hY1 : how = 1 → Y.testBit k = (X.testBit k && eachB L k) := by rintro rfl; rw [← HY.out, doX_one, eachB_nat]
      have hY2 : how ≠ 0 → how ≠ 1 → Y.testBit k = (X.testBit k && !oneB L k) := by intro h0 h1; rw [← HY.out, doX_else h0 h1, oneB_nat]
      have HT1 := Lib.hid (turnN_succ k X Y)
      by_cases h0 : how = 0
      · subst h0
        have hYk := hY0 rfl
        clear hY0 hY1 hY2
        rcases hx : X.testBit k with _ | _ <;> rcases ho : oneB L k with _ | _
        all_goals
          rw [hx, ho] at hYk
          simp at hYk
          go_wp2_with fail
          refine (refIn_any (H'.out.keep HF.out No.disj) _).mono ?_
          rintro e w2 ⟨rfl, hf2⟩
          have hc6 := hf2.cell' hc3 (fun h => h)
          obtain ⟨hc7, hz7⟩ := hf2.cellF hc4 hz4 (fun h => h)
          have hc8 := hf2.cell' hc5 (fun h => h)
          have hcell := (HF.out.trans hf2).cell' HCell.out (fun h => h)
          rw [hx] at hcell
          have hr2 := ownsRow_fx HR.out.2.2 hf2 (fun _ _ h => h)
          have hcg := hr2.cellAt k (by omega)
          rw [show (boolsX n (lowX Y k))[k]? = some (.bool false) from by simp [boolsX, hlt, lowX_testBit]] at hcg
          have hzg := hr2.frozenAt k
          have key := Lib.hid (step_key (w1s := w1.heap.size) hYk hlt hn HYL.out (by omega) (by omega) (by omega) (by omega) hc6 hc7 hz7 hc8 hcell hr2 (HF.out.trans hf2) hcg)
          have hf2s := hf2.size
          clear hr2 hf2
          go_wp2_with fail
          go_region
          have key := key.out
          obtain ⟨w3, hw3⟩ : ∃ w3, w3 = (w2.setCell ⟨g, k, none⟩ (.bool (Y.testBit k))).drew := ⟨_, rfl⟩
          rw [hYk] at hw3
          rw [← hw3] at key ⊢
          clear hw3
          obtain ⟨hd1, hd2, hd3, hd4, hd5, hd6, hd7, hd8, hd9⟩ := key
          have hs9 := hf2s
          have HR3 := Lib.hid hd8
          have HF3 := Lib.hid hd9
          clear hd8 hd9 hc6 hc7 hz7 hc8 hcell hcg hzg hc1 hc2 hc3 hc4 hc5 hz2 hz4
          go_wp2
          go_quiet (fail)
          go_wp2
          go_roundw
          case rel => exact ⟨k + 1, by omega, by go_num, by rw [HT1.out, hx, hYk]; first | rfl | go_num, HF3.out.drewN _, by simp; omega, hd1, hd2, hd3, hd4, HR3.out⟩
          case measure => simp [intOf]; omega
      · by_cases h1 : how = 1
        · subst h1
          have hYk := hY1 rfl
          clear hY0 hY1 hY2 h0
          rcases hx : X.testBit k with _ | _ <;> rcases ho : eachB L k with _ | _
          all_goals
            rw [hx, ho] at hYk
            simp at hYk
            go_wp2_with fail
            refine (refIn_any (H'.out.keep HF.out No.disj) _).mono ?_
            rintro e w2 ⟨rfl, hf2⟩
            have hc6 := hf2.cell' hc3 (fun h => h)
            obtain ⟨hc7, hz7⟩ := hf2.cellF hc4 hz4 (fun h => h)
            have hc8 := hf2.cell' hc5 (fun h => h)
            have hcell := (HF.out.trans hf2).cell' HCell.out (fun h => h)
            rw [hx] at hcell
            have hr2 := ownsRow_fx HR.out.2.2 hf2 (fun _ _ h => h)
            have hcg := hr2.cellAt k (by omega)
            rw [show (boolsX n (lowX Y k))[k]? = some (.bool false) from by simp [boolsX, hlt, lowX_testBit]] at hcg
            have hzg := hr2.frozenAt k
            have key := Lib.hid (step_key (w1s := w1.heap.size) hYk hlt hn HYL.out (by omega) (by omega) (by omega) (by omega) hc6 hc7 hz7 hc8 hcell hr2 (HF.out.trans hf2) hcg)
            have hf2s := hf2.size
            clear hr2 hf2
            go_wp2_with fail
            go_region
            have key := key.out
            obtain ⟨w3, hw3⟩ : ∃ w3, w3 = (w2.setCell ⟨g, k, none⟩ (.bool (Y.testBit k))).drew := ⟨_, rfl⟩
            rw [hYk] at hw3
            rw [← hw3] at key ⊢
            clear hw3
            obtain ⟨hd1, hd2, hd3, hd4, hd5, hd6, hd7, hd8, hd9⟩ := key
            have hs9 := hf2s
            have HR3 := Lib.hid hd8
            have HF3 := Lib.hid hd9
            clear hd8 hd9 hc6 hc7 hz7 hc8 hcell hcg hzg hc1 hc2 hc3 hc4 hc5 hz2 hz4
            go_wp2
            go_quiet (fail)
            go_wp2
            go_roundw
            case rel => exact ⟨k + 1, by omega, by go_num, by rw [HT1.out, hx, hYk]; first | rfl | go_num, HF3.out.drewN _, by simp; omega, hd1, hd2, hd3, hd4, HR3.out⟩
            case measure => simp [intOf]; omega
        · have hYk := hY2 h0 h1
          have g0 : (how == 0) = false := by simpa using h0
          have g1 : (how == 1) = false := by simpa using h1
          clear hY0 hY1 hY2 h0 h1
          rcases hx : X.testBit k with _ | _ <;> rcases ho : oneB L k with _ | _
          all_goals
            rw [hx, ho] at hYk
            simp at hYk
            go_wp2_with fail
            refine (refIn_any (H'.out.keep HF.out No.disj) _).mono ?_
            rintro e w2 ⟨rfl, hf2⟩
            have hc6 := hf2.cell' hc3 (fun h => h)
            obtain ⟨hc7, hz7⟩ := hf2.cellF hc4 hz4 (fun h => h)
            have hc8 := hf2.cell' hc5 (fun h => h)
            have hcell := (HF.out.trans hf2).cell' HCell.out (fun h => h)
            rw [hx] at hcell
            have hr2 := ownsRow_fx HR.out.2.2 hf2 (fun _ _ h => h)
            have hcg := hr2.cellAt k (by omega)
            rw [show (boolsX n (lowX Y k))[k]? = some (.bool false) from by simp [boolsX, hlt, lowX_testBit]] at hcg
            have hzg := hr2.frozenAt k
            have key := Lib.hid (step_key (w1s := w1.heap.size) hYk hlt hn HYL.out (by omega) (by omega) (by omega) (by omega) hc6 hc7 hz7 hc8 hcell hr2 (HF.out.trans hf2) hcg)
            have hf2s := hf2.size
            clear hr2 hf2
            go_wp2_with fail
            go_region
            have key := key.out
            obtain ⟨w3, hw3⟩ : ∃ w3, w3 = (w2.setCell ⟨g, k, none⟩ (.bool (Y.testBit k))).drew := ⟨_, rfl⟩
            rw [hYk] at hw3
            rw [← hw3] at key ⊢
            clear hw3
            obtain ⟨hd1, hd2, hd3, hd4, hd5, hd6, hd7, hd8, hd9⟩ := key
            have hs9 := hf2s
            have HR3 := Lib.hid hd8
            have HF3 := Lib.hid hd9
            clear hd8 hd9 hc6 hc7 hz7 hc8 hcell hcg hzg hc1 hc2 hc3 hc4 hc5 hz2 hz4
            go_wp2
            go_quiet (fail)
            go_wp2
            go_roundw
            case rel => exact ⟨k + 1, by omega, by go_num, by rw [HT1.out, hx, hYk]; first | rfl | go_num, HF3.out.drewN _, by simp; omega, hd1, hd2, hd3, hd4, HR3.out⟩
            case measure => simp [intOf]; omega
    · obtain rfl : k = n := by omega
      go_wp2
      have hres := World.cell?_setCell_same wr ⟨w.heap.size + 1, 0, none⟩ (.slice xo k xcap) hc4
      refine bodyPost_ret (v := .tuple #[.agg #[.slice xo k xcap], .int .i64 (turnN k X Y)]) (by simp [results, Tryd.results45, go_sem, hres]) rfl ⟨_, rfl, HF.out.setCell (.inl (by simp)) _, ?_⟩
      have h1 := HR.out.isR
      rw [lowX_all HYL.out] at h1
      exact (h1.keep (Fx.put _ _ _ _) (by rintro j ⟨h1, _⟩ rfl; omega)).mono fun j ⟨h2, h3⟩ => ⟨by omega, by simpa using h3⟩
#print axioms refDo_any
end Go.Proofs.YthbfpcheljaeaaaDoor
