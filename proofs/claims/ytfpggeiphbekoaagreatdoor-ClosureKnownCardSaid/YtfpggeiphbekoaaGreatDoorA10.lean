/- The laws of closures: is. | The laws of closures: is. -/
import Derived.Test.YtfpggeiphbekoaaGreatDoorA9

namespace Go.Proofs.YtfpggeiphbekoaaGreatDoor
open Go.RowKit
set_option linter.unusedVariables false

/-- cells that may be written -/
def CellsW (w : World) (v : Value) (len : Nat) : Prop := ∀ g j, v.ownBlock = some g → j < len → ∃ u, w.cell? ⟨g, j, none⟩ = some u ∧ w.frozen? ⟨g, j, none⟩ = false
theorem CellsW.of {w : World} {base : Nat} {e : TypeId} {size : Nat} {v : Value} {n : Nat} {xs : List Value} (h : w.ownsRow base e size v n xs) : CellsW w v xs.length := by
  intro g j hg hj
  have hc := h.cells hg j (xs[j]) (by simp [hj])
  rw [Addr.add_lit, Nat.zero_add] at hc
  rcases h.2 with ⟨e1, e2⟩ | ⟨g', cap, cur, e1, hb, hh, _⟩
  · subst e1; simp [Value.ownBlock] at hg
  · subst e1
    obtain rfl : g' = g := by simpa [Value.ownBlock] using hg
    exact ⟨_, hc, frozen_of_row _ _ _ _ _ hh⟩
theorem CellsW.fx {w w' : World} {S : Nat → Prop} {v : Value} {len : Nat} (h : CellsW w v len) (hf : Fx S w w') (hn : ∀ g, v.ownBlock = some g → ¬ S g) : CellsW w' v len := fun g j hg hj => by
  obtain ⟨u, h1, h2⟩ := h g j hg hj
  exact ⟨u, hf.cellF h1 h2 (hn g hg)⟩
theorem CellsW.put {w : World} {v : Value} {len g x : Nat} (h : CellsW w v len) (hg : v.ownBlock = some g) (a : Value) : CellsW (w.setCell ⟨g, x, none⟩ a) v len := fun g' j hg' hj => by
  obtain rfl : g = g' := Option.some.inj (hg.symm.trans hg')
  obtain ⟨u, h1, h2⟩ := h g j hg hj
  by_cases e : j = x
  · subst e; exact ⟨a, World.cell?_setCell_same _ _ _ h1, by simpa using h2⟩
  · exact ⟨u, by rw [World.cell?_setCell_other _ _ _ _ (by intro e2; injection e2; omega)]; exact h1, by simpa using h2⟩
theorem filter_lt_allX {n X I : Nat} : allX (I + 1) X = allX I X ++ if X.testBit I then [(I : Int)] else [] := allX_succ I X
theorem loopsG_dn (dn : Nat → Nat) (n : Nat) : loopsG (fun i j => (dn i).testBit j) n = loopsTo dn n := rfl
theorem leads_neg (n : Nat) (dn : Nat → Nat) (i : Int) : leadsB n dn i (-1) = false := by unfold leadsB hasB; simp
theorem leads_over (n : Nat) (dn : Nat → Nat) (j : Int) : leadsB n dn (n : Int) j = false := by
  unfold leadsB ofM hasB
  rw [if_neg (by omega)]
  simp
theorem refLeast_eq {n : Nat} {dn up ed : Nat → Nat} (h : CloOk n dn up ed) : refLeastL (edgesTo n ed n) n = leastL n dn ed := by
  have hg : ∀ i j, i < n → j < n → wayB (edgeP (edgesTo n ed n)) i j = (dn i).testBit j := fun i j hi hj => by
    rw [Bool.eq_iff_iff, wayB_iff, h.dn i j hi hj]
  unfold refLeastL leastL cycB
  rw [loopsG_congr hg, loopsG_dn]
  by_cases hc : 0 < (loopsTo dn n).length
  · rw [if_pos hc, if_pos (by simpa using hc)]
  · rw [if_neg hc, if_neg (by simpa using hc)]
    have hcyc : ∀ i, ¬ Way (edgeP (edgesTo n ed n)) i i := fun i hw => by
      have hi := (hw.lt edgeP_lt).1
      have := (h.dn i i hi hi).2 hw
      have hm : (i : Int) ∈ loopsTo dn n := by
        unfold loopsTo
        exact List.mem_map.2 ⟨i, List.mem_filter.2 ⟨List.mem_range.2 hi, this⟩, rfl⟩
      exact hc (List.length_pos_of_mem hm)
    refine List.filter_congr fun q hq => ?_
    obtain ⟨a, b⟩ := q
    obtain ⟨i, j, rfl, rfl, hi, hj, hb⟩ := mem_edgesTo.1 hq
    have he : edgeP (edgesTo n ed n) i j := edgeP_iff.2 ⟨hi, hj, hb⟩
    have hsub : ∀ x y, edgeP (withoutL (edgesTo n ed n) ((i : Int), (j : Int))) x y ↔ subE (edgeP (edgesTo n ed n)) i j x y := fun x y => by
      unfold edgeP subE withoutL
      rw [List.mem_filter]
      constructor
      · rintro ⟨h1, h2⟩
        refine ⟨h1, fun e => ?_⟩
        obtain ⟨rfl, rfl⟩ := e
        simp at h2
      · rintro ⟨h1, h2⟩
        refine ⟨h1, ?_⟩
        show (!((x : Int) == (i : Int) && (y : Int) == (j : Int))) = true
        by_cases e1 : x = i
        · by_cases e2 : y = j
          · exact absurd ⟨e1, e2⟩ h2
          · have : ((y : Int) == (j : Int)) = false := by rw [beq_eq_false_iff_ne]; omega
            rw [this]; simp
        · have : ((x : Int) == (i : Int)) = false := by rw [beq_eq_false_iff_ne]; omega
          rw [this]; simp
    have hw := way_about hcyc he
    show (!wayB _ (Int.toNat (i : Int)) (Int.toNat (j : Int))) = neededB n dn ed (i : Int) (j : Int)
    rw [Int.toNat_natCast, Int.toNat_natCast]
    have h1 : wayB (edgeP (withoutL (edgesTo n ed n) ((i : Int), (j : Int)))) i j = true ↔ ∃ x, edgeP (edgesTo n ed n) i x ∧ x ≠ j ∧ Way (edgeP (edgesTo n ed n)) x j := by
      rw [wayB_iff, Way.congr hsub, hw]
    have hN : ofN n (i : Int) = n := by unfold ofN; rw [if_pos (by omega)]
    have hM : ofM n ed (i : Int) = ed i := by unfold ofM; rw [if_pos (by omega)]; rfl
    rw [Bool.eq_iff_iff, Bool.not_eq_true', Bool.eq_false_iff, Ne, h1]
    unfold neededB
    rw [hN, hM, List.all_eq_true]
    constructor
    · intro hno z hz
      obtain ⟨x, rfl, hx, hxb⟩ := mem_allX.1 hz
      rw [leadsB_nat hx]
      by_cases e : x = j
      · subst e; simp
      · cases ht : (dn x).testBit j
        · simp
        · exact absurd ⟨x, edgeP_iff.2 ⟨hi, hx, hxb⟩, e, (h.dn x j hx hj).1 ht⟩ hno
    · rintro hall ⟨x, hx, hne, hway⟩
      obtain ⟨_, hxn, hxb⟩ := edgeP_iff.1 hx
      have := hall (x : Int) (mem_allX.2 ⟨x, rfl, hxn, hxb⟩)
      rw [leadsB_nat hxn, (h.dn x j hxn hj).2 hway] at this
      simp at this
      omega
#print axioms refLeast_eq
end Go.Proofs.YtfpggeiphbekoaaGreatDoor

namespace Go.Proofs.YtfpggeiphbekoaaGreatDoor
open Go.RowKit
set_option linter.unusedVariables false

section
variable {w w' : World} {D E : Nat → Prop} {n : Nat} {dn up ed : Nat → Nat} {k : CC} {v : Value}
set_option maxRecDepth 100000 in
set_option maxHeartbeats 4000000 in
theorem is_any (hC : Clo w D n dn up ed k) (hok : CloOk n dn up ed) (hr : PairsV w E v (edgesTo n ed n)) (hn : n ≤ 1000) (m : Int) (hT : TabOk w) :
    Calls Tryz.prog 16 #[.pointer (some ⟨k.b, 0, none⟩), .agg #[.int .i64 (n : Int), v], .int .i64 m] w fun e w' => e = .returned (.bool true) ∧ Fx No w w' := by
  obtain ⟨ii, hi, hz, hs, hb⟩ := info_parts info_int'
  have H0 := Lib.hid hC
  have HT := Lib.hid hT
  have HLe : Hid (refLeastL (edgesTo n ed n) n = leastL n dn ed) := Lib.hid (refLeast_eq hok)
  have HLb : Hid (∀ q ∈ edgesTo n ed n, (0 ≤ q.1 ∧ q.1 < n) ∧ 0 ≤ q.2 ∧ q.2 < n) := Lib.hid fun q hq => by
    obtain ⟨a, b⟩ := q
    obtain ⟨i, j, rfl, rfl, h1, h2, _⟩ := mem_edgesTo.1 hq
    exact ⟨⟨by show (0 : Int) ≤ (i : Int); omega, by show (i : Int) < n; omega⟩, by show (0 : Int) ≤ (j : Int); omega, by show (j : Int) < n; omega⟩
  have hll := edgesTo_len n ed n
  have hnn : n * n ≤ 1000 * 1000 := Nat.mul_le_mul hn hn
  have HLl : Hid ((edgesTo n ed n).length ≤ 1000000) := Lib.hid (by omega)
  have HOk := Lib.hid hok
  obtain ⟨L, hL⟩ : ∃ L, L = edgesTo n ed n := ⟨_, rfl⟩
  rw [← hL] at HLe HLb HLl hr
  have HP0 := Lib.hid hr
  obtain ⟨ro, rc, rfl, _⟩ := hr.facts
  have HLd := Lib.hid hL
  clear hC hT hok hr hll hL
  go_enter Tryz.func16, Tryz.ntmps16
  go_wp2_with fail
  refine (refAll_any (HP0.out.no ((Fx.refl No _).alloc _)) hn HLb.out).mono ?_
  rintro e w1 ⟨vo, gO, B, g, rfl, hf, hm, hg⟩
  have r0 : w1.cell? ⟨w.heap.size, 0, none⟩ = some (.int .i64 (n : Int)) := hf.cell' (by go_simp) (fun h => h)
  have r1 : w1.cell? ⟨w.heap.size, 1, none⟩ = some (.slice ro L.length rc) := hf.cell' (by go_simp) (fun h => h)
  have HF1 : Hid (Fx No w w1) := Lib.hid (((Fx.refl No w).alloc _).trans hf)
  obtain ⟨rb, hrb⟩ : ∃ r, r = w.heap.size := ⟨_, rfl⟩
  rw [← hrb] at r0 r1 ⊢
  have HR0 := Lib.hid r0
  have HR1 := Lib.hid r1
  have H := Lib.hid (H0.out.no HF1.out)
  have HP := Lib.hid (HP0.out.no HF1.out)
  have HM : Hid (Mat w1 w.heap.size n vo gO B (fun i j => (dn i).testBit j)) := Lib.hid ((hm.lower (by simp)).congr fun i j hi hj => by
    rw [Bool.eq_iff_iff, hg i j hi hj, HOk.out.dn i j hi hj, HLd.out])
  clear hf hm hg hrb r0 r1
  go_wp2
  go_loopw [8, 9, 10] (fun p i _ ws => ∃ I : Nat, i = .int .i64 I ∧ I ≤ n ∧ p = .int .i64 (pairsTo n dn I : Nat) ∧ Fx No w1 ws) (fun _ i _ _ => n - (intOf i).toNat)
  case atStart => exact ⟨0, rfl, Nat.zero_le _, rfl, Fx.refl _ _⟩
  case round =>
    obtain ⟨I, rfl, hI, rfl, hf⟩ := hrel
    have HFi := Lib.hid hf
    have r0 := hf.cell' HR0.out (fun h => h)
    have hpI := pairsTo_le n dn I
    have hIn2 : I * n ≤ 1000 * 1000 := Nat.mul_le_mul (by omega) hn
    clear hf
    by_cases hIl : I < n
    · have hIn : (I : Int) < (n : Int) := by omega
      have HPs : Hid (pairsTo n dn (I + 1) = pairsTo n dn I + cntX n (dn I)) := Lib.hid rfl
      go_wp2
      go_loopw [8, 10] (fun p j ws => ∃ K : Nat, j = .int .i64 K ∧ K ≤ n ∧ p = .int .i64 (pairsTo n dn I + cntX K (dn I) : Nat) ∧ Fx No w1 ws) (fun _ j _ => n - (intOf j).toNat)
      case atStart => exact ⟨0, rfl, Nat.zero_le _, rfl, HFi.out⟩
      case round =>
        obtain ⟨K, rfl, hK, rfl, hf⟩ := hrel
        have HFk := Lib.hid hf
        clear r0
        have r0 := hf.cell' HR0.out (fun h => h)
        have hck := cntX_le K (dn I)
        clear hf
        by_cases hKl : K < n
        · have hKn : (K : Int) < (n : Int) := by omega
          obtain ⟨vO, vcap, rfl, hvO, _⟩ := HM.out.shape
          obtain rfl := hvO (by omega)
          have hMk := HM.out.no HFk.out
          have x1 := hMk.row I hIl
          have x2 := (hMk.cel I K hIl hKl).1
          have HCs := Lib.hid (cntX_succ K (dn I))
          have HLdB : Hid (leadsB n dn (I : Int) (K : Int) = (dn I).testBit K) := Lib.hid (leadsB_nat hIl)
          obtain ⟨t, ht⟩ : ∃ t, t = (dn I).testBit K := ⟨_, rfl⟩
          rw [← ht] at x2 HLdB HCs
          obtain ⟨P, hP⟩ : ∃ P, P = pairsTo n dn I + cntX K (dn I) := ⟨_, rfl⟩
          have HPd := Lib.hid hP
          have hPb : P ≤ 1001000 := by omega
          rw [← hP]
          have CLd : Hid (∀ W, Fx No wr W → Calls Tryz.prog 24 #[.pointer (some ⟨k.b, 0, none⟩), .int .i64 (I : Int), .int .i64 (K : Int)] W fun e w' => e = .returned (.bool t) ∧ Fx No W w') := Lib.hid fun W h => by rw [← HLdB.out]; exact leads_any ((H.out.no HFk.out).no h) (I : Int) (K : Int)
          have g1 : ∀ W, Fx No wr W → W.cell? ⟨gO, I, none⟩ = some (.slice (some ⟨B I, 0, none⟩) n n) := fun W h => h.cell' x1 (fun h => h)
          have g2 : ∀ W, Fx No wr W → W.cell? ⟨B I, K, none⟩ = some (.bool t) := fun W h => h.cell' x2 (fun h => h)
          have s0 : Fx No wr wr := Fx.refl _ _
          have hI0 : (0 : Int) ≤ (I : Int) := by omega
          have hK0 : (0 : Int) ≤ (K : Int) := by omega
          have HX1 := Lib.hid x1
          have HX2 := Lib.hid x2
          clear hMk ht hP hvO x1 x2
          cases t
          all_goals
            go_wp2_with fail
            go_region_held3 (fun W => Fx No wr W)
              (first
                | exact s0.drew
                | exact Fx.transNo (by assumption) hfi)
              (first
                | (go_at_call 24; with_reducible refine (CLd.out _ (by assumption)).mono ?_; rintro e w' ⟨rfl, hfi⟩))
            all_goals
              have HKz : Hid (Fx No wr w') := by assumption
              have x1 := HKz.out.cell' HX1.out (fun h => h)
              have x2 := HKz.out.cell' HX2.out (fun h => h)
              clear g1 g2 s0 CLd
              go_wp2
              go_roundw
              case rel => exact ⟨K + 1, by go_num, by omega, by rw [HCs.out, ← Nat.add_assoc, ← HPd.out]; first | rfl | go_num, HFk.out.trans HKz.out⟩
              case measure => simp [intOf]; omega
        · obtain rfl : n = K := by omega
          go_wp2
          go_roundw
          case rel => exact ⟨I + 1, by go_num, by omega, by rw [HPs.out], HFk.out⟩
          case measure => simp [intOf]; omega
    · obtain rfl : n = I := by omega
      obtain ⟨PP, hPP⟩ : ∃ P, P = pairsTo n dn n := ⟨_, rfl⟩
      have HPP : Hid (PP = pairsTo n dn n) := Lib.hid hPP
      rw [← hPP]
      have hPPb : PP ≤ 1000000 := by rw [hPP]; omega
      clear hPP
      obtain ⟨wb, hwb⟩ : ∃ wb, wb = wr := ⟨_, rfl⟩
      subst hwb
      by_cases hmr : 0 ≤ m ∧ m < n
      · obtain ⟨M, rfl⟩ := Int.eq_ofNat_of_zero_le hmr.1
        have hMl : M < n := by omega
        have hMn : (M : Int) < (n : Int) := by omega
        have hM0 : (0 : Int) ≤ (M : Int) := by omega
        have HNd : Hid (decide ((0 : Int) ≤ (M : Int) ∧ (M : Int) < (n : Int)) = true) := Lib.hid (decide_eq_true hmr)
        clear hmr
        obtain ⟨vO, vcap, rfl, hvO, _⟩ := HM.out.shape
        obtain rfl := hvO (by omega)
        clear hvO
        go_wp2
        go_loopw [11, 12, 13] (fun f t i ws => ∃ q : Nat, i = .int .i64 q ∧ q ≤ n ∧ Fx No wb ws ∧ OwnI ws wb.heap.size f (allX q (dn M)) ∧ OwnI ws wb.heap.size t (allX q (up M)) ∧ ∀ g, f.ownBlock = some g → ¬ t.ownBlock = some g) (fun _ _ i _ => n - (intOf i).toNat)
        case atStart => exact ⟨0, rfl, Nat.zero_le _, Fx.refl _ _, World.ownsRow_nil _ _ _ _, World.ownsRow_nil _ _ _ _, fun g h => by simp [Value.ownBlock] at h⟩
        case round =>
          obtain ⟨q, rfl, hq, hf, ho1, ho2, hne⟩ := hrel
          have HFq := Lib.hid hf
          have HO1 := Lib.hid ho1
          have HO2 := Lib.hid ho2
          have HNe := Lib.hid hne
          have hzq := hf.size
          clear r0
          have r0 := (HFi.out.trans hf).cell' HR0.out (fun h => h)
          have r1 := (HFi.out.trans hf).cell' HR1.out (fun h => h)
          have hl1 := allX_length_le q (dn M)
          have hl2 := allX_length_le q (up M)
          clear hf ho1 ho2 hne
          by_cases hql : q < n
          · have hqn : (q : Int) < (n : Int) := by omega
            have hq0 : (0 : Int) ≤ (q : Int) := by omega
            go_wp2_with fail
            refine (refNode_any ((HP.out.no HFi.out).no HFq.out) (n : Int) (M : Int)).mono ?_
            rintro e w2 ⟨rfl, hf⟩
            rw [HNd.out]
            have HF2 := Lib.hid (HFq.out.trans hf)
            have HO1 := Lib.hid (ownsRow_fx HO1.out hf fun _ _ h => h)
            have HO2 := Lib.hid (ownsRow_fx HO2.out hf fun _ _ h => h)
            have hz2 := hf.size
            have hM2 := (HM.out.no HFi.out).no HF2.out
            have x1 := hM2.row M hMl
            have x2 := (hM2.cel M q hMl hql).1
            have x3 := hM2.row q hql
            have x4 := (hM2.cel q M hql hMl).1
            have HX3 := Lib.hid x3
            have HX4 := Lib.hid x4
            have HUp : Hid ((dn q).testBit M = (up M).testBit q) := Lib.hid (by rw [Bool.eq_iff_iff, HOk.out.dn q M hql hMl, HOk.out.up q M hql hMl])
            have HA1 := Lib.hid (allX_succ q (dn M))
            have HA2 := Lib.hid (allX_succ q (up M))
            rw [← HUp.out] at HA2
            obtain ⟨t1, ht1⟩ : ∃ t, t = (dn M).testBit q := ⟨_, rfl⟩
            obtain ⟨t2, ht2⟩ : ∃ t, t = (dn q).testBit M := ⟨_, rfl⟩
            rw [← ht1] at x2 HA1
            rw [← ht2] at x4 HA2
            rw [← ht2] at HX4
            clear hM2 ht1 ht2 hf HUp
            cases t1
            · cases t2
              · go_wp2
                go_roundw
                case rel => exact ⟨q + 1, by go_num, by omega, HF2.out, by rw [HA1.out]; simpa [OwnI] using HO1.out, by rw [HA2.out]; simpa [OwnI] using HO2.out, HNe.out⟩
                case measure => simp [intOf]; omega
              · go_wp2_with (at_builtin; refine wpList_append_kept rfl _ _ 24 rfl wb.heap.size 3 Tryz.underlying24 hi hz hs hb rfl (by decide) rfl (World.ownsRow.alloc HO2.out _) rfl (SlV.lit _ 3 #[.int .i64 _] 1 1 rfl (by unfold maxLen; omega)) (ints_one [_]) (by omega) (by unfold maxLen; omega) (by omega) (by simp; omega) ?_)
                intro v2 w4 ho hfx hk4 hb4
                have HO22 : Hid (OwnI w4 wb.heap.size v2 (allX (q + 1) (up M))) := Lib.hid (by
                  rw [HA2.out]; unfold OwnI; rw [List.length_append]; simpa [ints] using ho)
                have HO12 := Lib.hid (ownsRow_fx (World.ownsRow.alloc HO1.out (.cells #[.int .i64 (q : Int)] 3)) hfx fun g e1 e2 => HNe.out g e1 e2)
                have HNe4 : Hid (∀ g, u11.ownBlock = some g → ¬ v2.ownBlock = some g) := Lib.hid fun g e1 e2 => by
                  rcases hb4 g e2 with h | h
                  · exact HNe.out g e1 h
                  · have h9 := (World.ownsRow.lt HO1.out g e1).2
                    try simp only [World.size_alloc] at h
                    omega
                have HF4 : Hid (Fx No wb w4) := Lib.hid ((HF2.out.alloc _).trans' hfx fun g e hl => by have := (World.ownsRow.lt HO2.out g e).1; omega)
                clear ho hfx hk4 hb4
                go_wp2
                go_roundw
                case rel => exact ⟨q + 1, by go_num, by omega, HF4.out, by rw [HA1.out]; simpa [OwnI] using HO12.out, HO22.out, HNe4.out⟩
                case measure => simp [intOf]; omega
            · go_wp2_with (at_builtin; refine wpList_append_kept rfl _ _ 24 rfl wb.heap.size 3 Tryz.underlying24 hi hz hs hb rfl (by decide) rfl (World.ownsRow.alloc HO1.out _) rfl (SlV.lit _ 3 #[.int .i64 _] 1 1 rfl (by unfold maxLen; omega)) (ints_one [_]) (by omega) (by unfold maxLen; omega) (by omega) (by simp; omega) ?_)
              intro v' w3 ho hfx hk3 hb3
              have HO1o := HO1
              have HO2o := HO2
              have HGO : Hid (gO < wb.heap.size) := Lib.hid (World.block_lt_of_cell? wb _ ((HM.out.no HFi.out).row q hql))
              have HBq : Hid (B q < wb.heap.size) := Lib.hid (World.block_lt_of_cell? wb _ ((HM.out.no HFi.out).cel q M hql hMl).1)
              have HO1 : Hid (OwnI w3 wb.heap.size v' (allX (q + 1) (dn M))) := Lib.hid (by
                rw [HA1.out]; unfold OwnI; rw [List.length_append]; simpa [ints] using ho)
              have HO2 := Lib.hid (ownsRow_fx (World.ownsRow.alloc HO2.out (.cells #[.int .i64 (q : Int)] 3)) hfx fun g e1 e2 => HNe.out g e2 e1)
              have HNe2 : Hid (∀ g, v'.ownBlock = some g → ¬ u12.ownBlock = some g) := Lib.hid fun g e1 e2 => by
                rcases hb3 g e1 with h | h
                · exact HNe.out g h e2
                · have := (World.ownsRow.lt HO2.out g e2).2
                  have h9 := (World.ownsRow.lt HO2o.out g e2).2
                  try simp only [World.size_alloc] at h
                  omega
              have HF3 : Hid (Fx No wb w3) := Lib.hid ((HF2.out.alloc _).trans' hfx fun g e hl => by have := (World.ownsRow.lt HO1o.out g e).1; omega)
              have hz3 := hfx.size
              simp only [World.size_alloc] at hz3
              have k3 := ((Fx.refl No w2).alloc (.cells #[.int .i64 (q : Int)] 3)).cell' HX3.out (fun h => h)
              have k4 := ((Fx.refl No w2).alloc (.cells #[.int .i64 (q : Int)] 3)).cell' HX4.out (fun h => h)
              have HBlo : Hid (∀ g, u11.ownBlock = some g → wb.heap.size ≤ g) := Lib.hid fun g e => (World.ownsRow.lt HO1o.out g e).1
              clear x1 x2 x3 x4
              have x3 := hfx.cell' k3 (fun e => by have h1 : wb.heap.size ≤ gO := HBlo.out gO e; have := HGO.out; omega)
              have x4 := hfx.cell' k4 (fun e => by have h1 : wb.heap.size ≤ B q := HBlo.out (B q) e; have := HBq.out; omega)
              clear ho hfx hk3 hb3 k3 k4
              cases t2
              · go_wp2
                go_roundw
                case rel => exact ⟨q + 1, by go_num, by omega, HF3.out, HO1.out, by rw [HA2.out]; simpa [OwnI] using HO2.out, HNe2.out⟩
                case measure => simp [intOf]; omega
              · go_wp2_with (at_builtin; refine wpList_append_kept rfl _ _ 24 rfl wb.heap.size 3 Tryz.underlying24 hi hz hs hb rfl (by decide) rfl (World.ownsRow.alloc HO2.out _) rfl (SlV.lit _ 3 #[.int .i64 _] 1 1 rfl (by unfold maxLen; omega)) (ints_one [_]) (by omega) (by unfold maxLen; omega) (by omega) (by simp; omega) ?_)
                intro v2 w4 ho hfx hk4 hb4
                have HO22 : Hid (OwnI w4 wb.heap.size v2 (allX (q + 1) (up M))) := Lib.hid (by
                  rw [HA2.out]; unfold OwnI; rw [List.length_append]; simpa [ints] using ho)
                have HO12 := Lib.hid (ownsRow_fx (World.ownsRow.alloc HO1.out (.cells #[.int .i64 (q : Int)] 3)) hfx fun g e1 e2 => HNe2.out g e1 e2)
                have HNe4 : Hid (∀ g, v'.ownBlock = some g → ¬ v2.ownBlock = some g) := Lib.hid fun g e1 e2 => by
                  rcases hb4 g e2 with h | h
                  · exact HNe2.out g e1 h
                  · have h9 := (World.ownsRow.lt HO1.out g e1).2
                    try simp only [World.size_alloc] at h
                    omega
                have HF4 : Hid (Fx No wb w4) := Lib.hid ((HF3.out.alloc _).trans' hfx fun g e hl => by have := (World.ownsRow.lt HO2.out g e).1; omega)
                clear ho hfx hk4 hb4
                go_wp2
                go_roundw
                case rel => exact ⟨q + 1, by go_num, by omega, HF4.out, HO12.out, HO22.out, HNe4.out⟩
                case measure => simp [intOf]; omega
          · obtain rfl : n = q := by omega
            have HFr : Hid (Fx No w1 wr) := Lib.hid (HFi.out.trans HFq.out)
            have HNM : Hid (ofN n (M : Int) = n ∧ ofM n dn (M : Int) = dn M ∧ ofM n up (M : Int) = up M) := Lib.hid ⟨by unfold ofN; rw [if_pos (by omega)], by unfold ofM; rw [if_pos (by omega)]; rfl, by unfold ofM; rw [if_pos (by omega)]; rfl⟩
            obtain ⟨F, hF⟩ : ∃ F, F = allX n (dn M) := ⟨_, rfl⟩
            obtain ⟨T, hTt⟩ : ∃ F, F = allX n (up M) := ⟨_, rfl⟩
            rw [← hF] at HO1 hl1
            rw [← hTt] at HO2 hl2
            have HFl : Hid (F = allX (ofN n (M : Int)) (ofM n dn (M : Int))) := Lib.hid (by rw [HNM.out.1, HNM.out.2.1, hF])
            have HTl : Hid (T = allX (ofN n (M : Int)) (ofM n up (M : Int))) := Lib.hid (by rw [HNM.out.1, HNM.out.2.2, hTt])
            have HFrom := Lib.hid (OwnI.ints HO1.out)
            have HTo := Lib.hid (OwnI.ints HO2.out)
            obtain ⟨m, hm⟩ : ∃ m : Int, m = (M : Int) := ⟨_, rfl⟩
            rw [← hm] at HFl HTl ⊢
            clear hm hF hTt
            obtain ⟨wo, hwo⟩ : ∃ wo, wo = wr := ⟨_, rfl⟩
            subst hwo
            have HCo := Lib.hid (H.out.no HFr.out)
            have HMo := Lib.hid (HM.out.no HFr.out)
            have HR0o := Lib.hid (HFr.out.cell' HR0.out (fun h => h))
            have HR1o := Lib.hid (HFr.out.cell' HR1.out (fun h => h))
            have HPo := Lib.hid (HP.out.no HFr.out)
            have HTo' := Lib.hid (HT.out.keep (HF1.out.trans HFr.out) (fun h => h))
            go_wp2
            go_loopw [14, 15, 16, 17, 18, 19, 20, 21] (fun t _ _ _ _ _ _ _ ws => ∃ τ : Nat, t = .int .i64 τ ∧ τ ≤ 2 ∧ Fx No wo ws) (fun t _ _ _ _ _ _ _ _ => 2 - (intOf t).toNat)
            case atStart => exact ⟨0, rfl, by omega, Fx.refl _ _⟩
            case round =>
              obtain ⟨τ, rfl, hτ, hf⟩ := hrel
              have HFt := Lib.hid hf
              clear hf
              by_cases hτl : τ < 2
              · have hd2 : decide ((τ : Int) < 2) = true := decide_eq_true (by omega)
                go_wp2_with fail
                refine (from_any' (HCo.out.no HFt.out) (HTo'.out.keep HFt.out (fun h => h)) m).mono ?_
                rintro e w2 ⟨va, rfl, hf, ho⟩
                rw [← HFl.out] at ho
                obtain ⟨aa, ac, rfl, _⟩ := ho.ints.facts
                have HA := Lib.hid ho
                have HSa : Hid (∀ g, (Value.slice aa F.length ac).ownBlock = some g → wr.heap.size ≤ g ∧ g < w2.heap.size) := Lib.hid fun g e => World.ownsRow.lt ho g e
                have HPa : Hid (0 < F.length → ∃ ga, aa = some ⟨ga, 0, none⟩) := Lib.hid fun h0 => by
                  obtain ⟨g, c, e, _⟩ := ownsRow_pos ho h0
                  simp only [Value.slice.injEq] at e
                  exact ⟨g, e.1⟩
                have HF2 := Lib.hid (HFt.out.trans hf)
                have hza := hf.size
                clear hf ho
                go_wp2_with fail
                refine (to_any (HCo.out.no HF2.out) (HTo'.out.keep HF2.out (fun h => h)) m).mono ?_
                rintro e w3 ⟨vb, rfl, hf, ho⟩
                rw [← HTl.out] at ho
                have HB := Lib.hid ho
                have HA := Lib.hid (ownsRow_fx HA.out hf fun _ _ h => h)
                have HF3 := Lib.hid (HF2.out.trans hf)
                have hzb := hf.size
                clear hf ho
                go_wp2_with fail
                refine (loops_any (HCo.out.no HF3.out)).mono ?_
                rintro e w4 ⟨vl, rfl, hf, ho⟩
                have HL := Lib.hid ho
                have HA := Lib.hid (ownsRow_fx HA.out hf fun _ _ h => h)
                have HB := Lib.hid (ownsRow_fx HB.out hf fun _ _ h => h)
                have HF4 := Lib.hid (HF3.out.trans hf)
                have hzc := hf.size
                clear hf ho
                go_wp2_with fail
                refine (edges_any (HCo.out.no HF4.out) (HTo'.out.keep HF4.out (fun h => h))).mono ?_
                rintro e w5 ⟨ve, rfl, hf, ho⟩
                rw [← HLd.out] at ho
                obtain ⟨ea, ec, rfl, _⟩ := PairsV.facts ho.row
                have HE := Lib.hid ho
                have HSe : Hid (∀ g, (Value.slice ea L.length ec).ownBlock = some g → w4.heap.size ≤ g) := Lib.hid fun g e => (World.ownsRow.lt ho g e).1
                have HPe : Hid (0 < L.length → ∃ ga, ea = some ⟨ga, 0, none⟩) := Lib.hid fun h0 => by
                  obtain ⟨g, c, e, _⟩ := ownsRow_pos ho h0
                  simp only [Value.slice.injEq] at e
                  exact ⟨g, e.1⟩
                have HA := Lib.hid (ownsRow_fx HA.out hf fun _ _ h => h)
                have HB := Lib.hid (ownsRow_fx HB.out hf fun _ _ h => h)
                have HL := Lib.hid (ownsRow_fx HL.out hf fun _ _ h => h)
                have HF5 := Lib.hid (HF4.out.trans hf)
                have hzd := hf.size
                clear hf ho
                go_wp2_with fail
                refine (least_any (HCo.out.no HF5.out) (HTo'.out.keep HF5.out (fun h => h))).mono ?_
                rintro e w6 ⟨vm, rfl, hf, ho⟩
                have HMl := Lib.hid ho
                have HA := Lib.hid (ownsRow_fx HA.out hf fun _ _ h => h)
                have HB := Lib.hid (ownsRow_fx HB.out hf fun _ _ h => h)
                have HL := Lib.hid (ownsRow_fx HL.out hf fun _ _ h => h)
                have HE := Lib.hid (HE.out.no hf)
                have HF6 := Lib.hid (HF5.out.trans hf)
                clear hf ho
                go_wp2_with fail
                refine (sameInts_any (OwnI.ints HA.out) (HFrom.out.keep HF6.out No.disj)).mono ?_
                rintro e w7 ⟨rfl, hf⟩
                rw [beq_self_eq_true]
                have HF7 := Lib.hid (HF6.out.trans hf)
                have K7 := Lib.hid hf
                clear hf
                go_wp2_with fail
                refine (sameInts_any ((OwnI.ints HB.out).keep K7.out No.disj) (HTo.out.keep HF7.out No.disj)).mono ?_
                rintro e w8 ⟨rfl, hf⟩
                rw [beq_self_eq_true]
                have HF8 := Lib.hid (HF7.out.trans hf)
                have K8 := Lib.hid (K7.out.trans hf)
                clear hf
                go_wp2_with fail
                refine (refLoops_any (HMo.out.no HF8.out) hn).mono ?_
                rintro e w9 ⟨v9, rfl, hf, ho⟩
                rw [loopsG_dn] at ho
                have HL9 := Lib.hid ho
                have HF9 := Lib.hid (HF8.out.trans hf)
                have K9 := Lib.hid (K8.out.trans hf)
                clear hf ho
                go_wp2_with fail
                refine (sameInts_any ((OwnI.ints HL.out).keep K9.out No.disj) (OwnI.ints HL9.out)).mono ?_
                rintro e w10 ⟨rfl, hf⟩
                rw [beq_self_eq_true]
                have HF10 := Lib.hid (HF9.out.trans hf)
                have K10 := Lib.hid (K9.out.trans hf)
                have c1 := HF10.out.cell' HR1o.out (fun h => h)
                clear hf
                go_wp2_with fail
                refine (same_any (HE.out.row.no K10.out) (HPo.out.no HF10.out)).mono ?_
                rintro e w11 ⟨rfl, hf⟩
                rw [decide_eq_true (rfl : L = L)]
                have HF11 := Lib.hid (HF10.out.trans hf)
                have K11 := Lib.hid (K10.out.trans hf)
                have c0 := HF11.out.cell' HR0o.out (fun h => h)
                have c1' := HF11.out.cell' HR1o.out (fun h => h)
                clear hf c1
                go_wp2_with fail
                refine (refLeast_any (HPo.out.no HF11.out) hn HLb.out HLl.out).mono ?_
                rintro e w12 ⟨v12, rfl, hf, ho⟩
                rw [HLe.out] at ho
                have HE12 := Lib.hid ho
                have HF12 := Lib.hid (HF11.out.trans hf)
                have K12 := Lib.hid (K11.out.trans hf)
                clear hf ho c0 c1'
                go_wp2_with fail
                refine (same_any (HMl.out.row.no K12.out) HE12.out.row).mono ?_
                rintro e w13 ⟨rfl, hf⟩
                rw [decide_eq_true (rfl : leastL n dn ed = leastL n dn ed)]
                have HF13 := Lib.hid (HF12.out.trans hf)
                have K13 := Lib.hid (K12.out.trans hf)
                clear hf
                have HWa : Hid (CellsW w13 (.slice aa F.length ac) F.length) := Lib.hid (by have := (CellsW.of HA.out).fx K13.out (fun _ _ h => h); simpa [ints] using this)
                have HWe : Hid (CellsW w13 (.slice ea L.length ec) (L.length * 2)) := Lib.hid (by have := (CellsW.of HE.out).fx K13.out (fun _ _ h => h); rw [icells_length e2_len] at this; exact this)
                have hzt := HFt.out.size
                have HNe : Hid (∀ g, (Value.slice ea L.length ec).ownBlock = some g → ¬ (Value.slice aa F.length ac).ownBlock = some g) := Lib.hid fun g e1 e2 => by have := HSe.out g e1; have := (HSa.out g e2).2; omega
                clear HA HB HL HE HMl HL9 HE12 HF2 HF3 HF4 HF5 HF6 HF7 HF8 HF9 HF10 HF11 HF12 K7 K8 K9 K10 K11 K12 K13
                go_wp2
                go_loopw [20] (fun i ws => ∃ q : Nat, i = .int .i64 q ∧ q ≤ F.length ∧ Fx (fun x => (Value.slice aa F.length ac).ownBlock = some x) w13 ws ∧ CellsW ws (.slice aa F.length ac) F.length) (fun i _ => F.length - (intOf i).toNat)
                case atStart => exact ⟨0, rfl, Nat.zero_le _, Fx.refl _ _, HWa.out⟩
                case round =>
                  obtain ⟨q, rfl, hq, hf, hw⟩ := hrel
                  have HFq := Lib.hid hf
                  have HWq := Lib.hid hw
                  clear hf hw
                  by_cases hql : q < F.length
                  · have hq1 : (q : Int) < (F.length : Int) := by omega
                    have hq0 : (0 : Int) ≤ (q : Int) := by omega
                    obtain ⟨ga, rfl⟩ := HPa.out (by omega)
                    obtain ⟨u, c1, c2⟩ := HWq.out ga q rfl hql
                    go_wp2
                    go_roundw
                    case rel => exact ⟨q + 1, by go_num, by omega, HFq.out.setCell (a := ⟨ga, q, none⟩) (.inr rfl) _, HWq.out.put rfl _⟩
                    case measure => simp [intOf]; omega
                  · obtain hqe : q = F.length := by omega
                    have hdF : decide ((q : Int) < (F.length : Int)) = false := decide_eq_false (by omega)
                    have hdF2 : decide (q < F.length) = false := decide_eq_false hql
                    have HWe2 := Lib.hid (HWe.out.fx HFq.out HNe.out)
                    obtain ⟨wa, hwa⟩ : ∃ wa, wa = wr := ⟨_, rfl⟩
                    subst hwa
                    clear hqe hql
                    go_wp2
                    go_loopw [21] (fun i ws => ∃ q : Nat, i = .int .i64 q ∧ q ≤ L.length ∧ Fx (fun x => (Value.slice ea L.length ec).ownBlock = some x) wa ws ∧ CellsW ws (.slice ea L.length ec) (L.length * 2)) (fun i _ => L.length - (intOf i).toNat)
                    case atStart => exact ⟨0, rfl, Nat.zero_le _, Fx.refl _ _, HWe2.out⟩
                    case round =>
                      obtain ⟨s, rfl, hs, hf, hw⟩ := hrel
                      have HFs := Lib.hid hf
                      have HWs := Lib.hid hw
                      clear hf hw
                      by_cases hsl : s < L.length
                      · have hs1 : (s : Int) < (L.length : Int) := by omega
                        have hs0 : (0 : Int) ≤ (s : Int) := by omega
                        obtain ⟨ge, rfl⟩ := HPe.out (by omega)
                        obtain ⟨u, c1, c2⟩ := HWs.out ge (s * 2) rfl (by omega)
                        go_wp2
                        go_roundw
                        case rel => exact ⟨s + 1, by go_num, by omega, HFs.out.setCell (a := ⟨ge, s * 2, none⟩) (.inr rfl) _, HWs.out.put rfl _⟩
                        case measure => simp [intOf]; omega
                      · have hdL : decide ((s : Int) < (L.length : Int)) = false := decide_eq_false (by omega)
                        have hdL2 : decide (s < L.length) = false := decide_eq_false hsl
                        have HFz : Hid (Fx No wo wr) := Lib.hid ((HF13.out.trans' HFq.out fun j h1 h2 => by have := (HSa.out j h1).1; omega).trans' HFs.out fun j h1 h2 => by have := HSe.out j h1; omega)
                        clear hsl
                        go_wp2
                        go_roundw
                        case rel => exact ⟨τ + 1, by go_num, by omega, HFz.out⟩
                        case measure => simp [intOf]; omega
              · obtain rfl : τ = 2 := by omega
                have h2c : ((2 : Nat) : Int) = 2 := rfl
                rw [h2c]
                clear h2c
                obtain ⟨wz, hwz⟩ : ∃ wz, wz = wr := ⟨_, rfl⟩
                subst hwz
                have HCz := Lib.hid (HCo.out.no HFt.out)
                have HMz := Lib.hid (HMo.out.no HFt.out)
                have hr0 := HFt.out.cell' HR0o.out (fun h => h)
                have g0 : ∀ W, Fx No wz W → W.cell? ⟨rb, 0, none⟩ = some (.int .i64 (n : Int)) := fun W h => h.cell' hr0 (fun h => h)
                have s0 : Fx No wz wz := Fx.refl _ _
                have C1 : Hid (∀ W, Fx No wz W → Calls Tryz.prog 34 #[.pointer (some ⟨k.b, 0, none⟩)] W fun e w' => e = .returned (.int .i64 (n : Int)) ∧ W = w') := Lib.hid fun W h => cloLen_any (HCz.out.no h)
                have C2 : Hid (∀ W, Fx No wz W → Calls Tryz.prog 33 #[.pointer (some ⟨k.b, 0, none⟩)] W fun e w' => e = .returned (.int .i64 (PP : Int)) ∧ Fx No W w') := Lib.hid fun W h => by rw [HPP.out]; exact pairs_any (HCz.out.no h)
                obtain ⟨cy, hcy⟩ : ∃ c, c = cycB n dn := ⟨_, rfl⟩
                obtain ⟨ln, hln⟩ : ∃ c, c = (loopsTo dn n).length := ⟨_, rfl⟩
                have hcl : cy = decide (0 < ln) := by rw [hcy, hln]; rfl
                have C3 : Hid (∀ W, Fx No wz W → Calls Tryz.prog 20 #[.pointer (some ⟨k.b, 0, none⟩)] W fun e w' => e = .returned (.bool cy) ∧ Fx No W w') := Lib.hid fun W h => by rw [hcy]; exact cyclic_any (HCz.out.no h)
                have C4 : Hid (∀ W, Fx No wz W → Calls Tryz.prog 13 #[.slice (some ⟨gO, 0, none⟩) n vcap] W fun e w' => ∃ (a : Option Addr) (c : Nat), e = .returned (.slice a ln c) ∧ Fx No W w') := Lib.hid fun W h => by
                  refine (refLoops_any (HMz.out.no h) hn).mono ?_
                  rintro e w' ⟨v', rfl, h1, h2⟩
                  rw [loopsG_dn] at h2
                  obtain ⟨a, c, rfl, _⟩ := h2.ints.facts
                  exact ⟨a, c, by rw [hln], h1⟩
                have C5 : Hid (∀ W, Fx No wz W → Calls Tryz.prog 24 #[.pointer (some ⟨k.b, 0, none⟩), .int .i64 m, .int .i64 (-1)] W fun e w' => e = .returned (.bool false) ∧ Fx No W w') := Lib.hid fun W h => by rw [← leads_neg n dn m]; exact leads_any (HCz.out.no h) m (-1)
                have C6 : Hid (∀ W, Fx No wz W → Calls Tryz.prog 24 #[.pointer (some ⟨k.b, 0, none⟩), .int .i64 (n : Int), .int .i64 m] W fun e w' => e = .returned (.bool false) ∧ Fx No W w') := Lib.hid fun W h => by rw [← leads_over n dn m]; exact leads_any (HCz.out.no h) (n : Int) m
                have hln0 : ln ≤ n := by rw [hln]; exact loopsTo_len dn n
                clear hcy hln hr0
                have hcase : (cy = true ∧ decide ((0 : Int) < (ln : Int)) = true ∧ decide (0 < ln) = true) ∨ (cy = false ∧ decide ((0 : Int) < (ln : Int)) = false ∧ decide (0 < ln) = false) := by
                  by_cases h0 : 0 < ln
                  · exact .inl ⟨by rw [hcl]; exact decide_eq_true h0, decide_eq_true (by omega), decide_eq_true h0⟩
                  · exact .inr ⟨by rw [hcl]; exact decide_eq_false h0, decide_eq_false (by omega), decide_eq_false h0⟩
                clear hcl
                rcases hcase with ⟨rfl, d0, d1⟩ | ⟨rfl, d0, d1⟩
                all_goals
                  go_wp2_with fail
                  go_region_held3 (fun W => Fx No wz W)
                    (first
                      | exact s0.drew
                      | exact Fx.transNo (by assumption) hfi
                      | assumption)
                    (first
                      | (go_at_call 34; with_reducible refine (C1.out _ (by assumption)).mono ?_; rintro e w' ⟨rfl, rfl⟩)
                      | (go_at_call 33; with_reducible refine (C2.out _ (by assumption)).mono ?_; rintro e w' ⟨rfl, hfi⟩)
                      | (go_at_call 20; with_reducible refine (C3.out _ (by assumption)).mono ?_; rintro e w' ⟨rfl, hfi⟩)
                      | (go_at_call 13; with_reducible refine (C4.out _ (by assumption)).mono ?_; rintro e w' ⟨a4, c4, rfl, hfi⟩)
                      | (go_at_call 24; with_reducible refine (C5.out _ (by assumption)).mono ?_; rintro e w' ⟨rfl, hfi⟩)
                      | (go_at_call 24; with_reducible refine (C6.out _ (by assumption)).mono ?_; rintro e w' ⟨rfl, hfi⟩))
                  all_goals
                    have HKz : Hid (Fx No wz w') := by assumption
                    clear g0 s0 C1 C2 C3 C4 C5 C6
                    go_wp2
                    go_ret
                    exact ⟨rfl, ((HF1.out.trans HFr.out).trans HFt.out).trans HKz.out⟩
      · have HFr : Hid (Fx No w1 wb) := HFi
        have HNd : Hid (decide ((0 : Int) ≤ m ∧ m < (n : Int)) = false) := Lib.hid (decide_eq_false hmr)
        have HNM : Hid (ofN n m = 0) := Lib.hid (by unfold ofN; rw [if_neg hmr])
        obtain ⟨F, hF⟩ : ∃ F : List Int, F = [] := ⟨_, rfl⟩
        obtain ⟨T, hTt⟩ : ∃ F : List Int, F = [] := ⟨_, rfl⟩
        have HFl : Hid (F = allX (ofN n m) (ofM n dn m)) := Lib.hid (by rw [HNM.out, hF]; rfl)
        have HTl : Hid (T = allX (ofN n m) (ofM n up m)) := Lib.hid (by rw [HNM.out, hTt]; rfl)
        have hFn : Hid (F = []) := Lib.hid hF
        have hTn : Hid (T = []) := Lib.hid hTt
        have r1 := HFi.out.cell' HR1.out (fun h => h)
        clear hmr hF hTt
        go_wp2
        go_loopw [11, 12, 13] (fun f t i ws => f = .slice none 0 0 ∧ t = .slice none 0 0 ∧ i = .int .i64 0 ∧ ws = wb) (fun _ _ i _ => 0)
        case atStart => exact ⟨rfl, rfl, rfl, rfl⟩
        case round =>
          obtain ⟨rfl, rfl, rfl, rfl⟩ := hrel
          by_cases hn0 : 0 < n
          · have hd0 : decide ((0 : Int) < (n : Int)) = true := decide_eq_true (by omega)
            have hd1 : decide (0 < n) = true := decide_eq_true hn0
            clear hn0
            go_wp2_with fail
            refine (refNode_any (HP.out.no HFi.out) (n : Int) m).mono ?_
            rintro e wr ⟨rfl, hf⟩
            rw [HNd.out]
            have HFr := Lib.hid (HFr.out.trans hf)
            have HFrom : Hid (IntsV wr No (.slice none 0 0) F) := Lib.hid (by rw [hFn.out]; exact ints_nil wr)
            have HTo : Hid (IntsV wr No (.slice none 0 0) T) := Lib.hid (by rw [hTn.out]; exact ints_nil wr)
            clear hf r0 r1 hd0 hd1
            obtain ⟨wo, hwo⟩ : ∃ wo, wo = wr := ⟨_, rfl⟩
            subst hwo
            have HCo := Lib.hid (H.out.no HFr.out)
            have HMo := Lib.hid (HM.out.no HFr.out)
            have HR0o := Lib.hid (HFr.out.cell' HR0.out (fun h => h))
            have HR1o := Lib.hid (HFr.out.cell' HR1.out (fun h => h))
            have HPo := Lib.hid (HP.out.no HFr.out)
            have HTo' := Lib.hid (HT.out.keep (HF1.out.trans HFr.out) (fun h => h))
            go_wp2
            go_loopw [14, 15, 16, 17, 18, 19, 20, 21] (fun t _ _ _ _ _ _ _ ws => ∃ τ : Nat, t = .int .i64 τ ∧ τ ≤ 2 ∧ Fx No wo ws) (fun t _ _ _ _ _ _ _ _ => 2 - (intOf t).toNat)
            case atStart => exact ⟨0, rfl, by omega, Fx.refl _ _⟩
            case round =>
              obtain ⟨τ, rfl, hτ, hf⟩ := hrel
              have HFt := Lib.hid hf
              clear hf
              by_cases hτl : τ < 2
              · have hd2 : decide ((τ : Int) < 2) = true := decide_eq_true (by omega)
                go_wp2_with fail
                refine (from_any' (HCo.out.no HFt.out) (HTo'.out.keep HFt.out (fun h => h)) m).mono ?_
                rintro e w2 ⟨va, rfl, hf, ho⟩
                rw [← HFl.out] at ho
                obtain ⟨aa, ac, rfl, _⟩ := ho.ints.facts
                have HA := Lib.hid ho
                have HSa : Hid (∀ g, (Value.slice aa F.length ac).ownBlock = some g → wr.heap.size ≤ g ∧ g < w2.heap.size) := Lib.hid fun g e => World.ownsRow.lt ho g e
                have HPa : Hid (0 < F.length → ∃ ga, aa = some ⟨ga, 0, none⟩) := Lib.hid fun h0 => by
                  obtain ⟨g, c, e, _⟩ := ownsRow_pos ho h0
                  simp only [Value.slice.injEq] at e
                  exact ⟨g, e.1⟩
                have HF2 := Lib.hid (HFt.out.trans hf)
                have hza := hf.size
                clear hf ho
                go_wp2_with fail
                refine (to_any (HCo.out.no HF2.out) (HTo'.out.keep HF2.out (fun h => h)) m).mono ?_
                rintro e w3 ⟨vb, rfl, hf, ho⟩
                rw [← HTl.out] at ho
                have HB := Lib.hid ho
                have HA := Lib.hid (ownsRow_fx HA.out hf fun _ _ h => h)
                have HF3 := Lib.hid (HF2.out.trans hf)
                have hzb := hf.size
                clear hf ho
                go_wp2_with fail
                refine (loops_any (HCo.out.no HF3.out)).mono ?_
                rintro e w4 ⟨vl, rfl, hf, ho⟩
                have HL := Lib.hid ho
                have HA := Lib.hid (ownsRow_fx HA.out hf fun _ _ h => h)
                have HB := Lib.hid (ownsRow_fx HB.out hf fun _ _ h => h)
                have HF4 := Lib.hid (HF3.out.trans hf)
                have hzc := hf.size
                clear hf ho
                go_wp2_with fail
                refine (edges_any (HCo.out.no HF4.out) (HTo'.out.keep HF4.out (fun h => h))).mono ?_
                rintro e w5 ⟨ve, rfl, hf, ho⟩
                rw [← HLd.out] at ho
                obtain ⟨ea, ec, rfl, _⟩ := PairsV.facts ho.row
                have HE := Lib.hid ho
                have HSe : Hid (∀ g, (Value.slice ea L.length ec).ownBlock = some g → w4.heap.size ≤ g) := Lib.hid fun g e => (World.ownsRow.lt ho g e).1
                have HPe : Hid (0 < L.length → ∃ ga, ea = some ⟨ga, 0, none⟩) := Lib.hid fun h0 => by
                  obtain ⟨g, c, e, _⟩ := ownsRow_pos ho h0
                  simp only [Value.slice.injEq] at e
                  exact ⟨g, e.1⟩
                have HA := Lib.hid (ownsRow_fx HA.out hf fun _ _ h => h)
                have HB := Lib.hid (ownsRow_fx HB.out hf fun _ _ h => h)
                have HL := Lib.hid (ownsRow_fx HL.out hf fun _ _ h => h)
                have HF5 := Lib.hid (HF4.out.trans hf)
                have hzd := hf.size
                clear hf ho
                go_wp2_with fail
                refine (least_any (HCo.out.no HF5.out) (HTo'.out.keep HF5.out (fun h => h))).mono ?_
                rintro e w6 ⟨vm, rfl, hf, ho⟩
                have HMl := Lib.hid ho
                have HA := Lib.hid (ownsRow_fx HA.out hf fun _ _ h => h)
                have HB := Lib.hid (ownsRow_fx HB.out hf fun _ _ h => h)
                have HL := Lib.hid (ownsRow_fx HL.out hf fun _ _ h => h)
                have HE := Lib.hid (HE.out.no hf)
                have HF6 := Lib.hid (HF5.out.trans hf)
                clear hf ho
                go_wp2_with fail
                refine (sameInts_any (OwnI.ints HA.out) (HFrom.out.keep HF6.out No.disj)).mono ?_
                rintro e w7 ⟨rfl, hf⟩
                rw [beq_self_eq_true]
                have HF7 := Lib.hid (HF6.out.trans hf)
                have K7 := Lib.hid hf
                clear hf
                go_wp2_with fail
                refine (sameInts_any ((OwnI.ints HB.out).keep K7.out No.disj) (HTo.out.keep HF7.out No.disj)).mono ?_
                rintro e w8 ⟨rfl, hf⟩
                rw [beq_self_eq_true]
                have HF8 := Lib.hid (HF7.out.trans hf)
                have K8 := Lib.hid (K7.out.trans hf)
                clear hf
                go_wp2_with fail
                refine (refLoops_any (HMo.out.no HF8.out) hn).mono ?_
                rintro e w9 ⟨v9, rfl, hf, ho⟩
                rw [loopsG_dn] at ho
                have HL9 := Lib.hid ho
                have HF9 := Lib.hid (HF8.out.trans hf)
                have K9 := Lib.hid (K8.out.trans hf)
                clear hf ho
                go_wp2_with fail
                refine (sameInts_any ((OwnI.ints HL.out).keep K9.out No.disj) (OwnI.ints HL9.out)).mono ?_
                rintro e w10 ⟨rfl, hf⟩
                rw [beq_self_eq_true]
                have HF10 := Lib.hid (HF9.out.trans hf)
                have K10 := Lib.hid (K9.out.trans hf)
                have c1 := HF10.out.cell' HR1o.out (fun h => h)
                clear hf
                go_wp2_with fail
                refine (same_any (HE.out.row.no K10.out) (HPo.out.no HF10.out)).mono ?_
                rintro e w11 ⟨rfl, hf⟩
                rw [decide_eq_true (rfl : L = L)]
                have HF11 := Lib.hid (HF10.out.trans hf)
                have K11 := Lib.hid (K10.out.trans hf)
                have c0 := HF11.out.cell' HR0o.out (fun h => h)
                have c1' := HF11.out.cell' HR1o.out (fun h => h)
                clear hf c1
                go_wp2_with fail
                refine (refLeast_any (HPo.out.no HF11.out) hn HLb.out HLl.out).mono ?_
                rintro e w12 ⟨v12, rfl, hf, ho⟩
                rw [HLe.out] at ho
                have HE12 := Lib.hid ho
                have HF12 := Lib.hid (HF11.out.trans hf)
                have K12 := Lib.hid (K11.out.trans hf)
                clear hf ho c0 c1'
                go_wp2_with fail
                refine (same_any (HMl.out.row.no K12.out) HE12.out.row).mono ?_
                rintro e w13 ⟨rfl, hf⟩
                rw [decide_eq_true (rfl : leastL n dn ed = leastL n dn ed)]
                have HF13 := Lib.hid (HF12.out.trans hf)
                have K13 := Lib.hid (K12.out.trans hf)
                clear hf
                have HWa : Hid (CellsW w13 (.slice aa F.length ac) F.length) := Lib.hid (by have := (CellsW.of HA.out).fx K13.out (fun _ _ h => h); simpa [ints] using this)
                have HWe : Hid (CellsW w13 (.slice ea L.length ec) (L.length * 2)) := Lib.hid (by have := (CellsW.of HE.out).fx K13.out (fun _ _ h => h); rw [icells_length e2_len] at this; exact this)
                have hzt := HFt.out.size
                have HNe : Hid (∀ g, (Value.slice ea L.length ec).ownBlock = some g → ¬ (Value.slice aa F.length ac).ownBlock = some g) := Lib.hid fun g e1 e2 => by have := HSe.out g e1; have := (HSa.out g e2).2; omega
                clear HA HB HL HE HMl HL9 HE12 HF2 HF3 HF4 HF5 HF6 HF7 HF8 HF9 HF10 HF11 HF12 K7 K8 K9 K10 K11 K12 K13
                go_wp2
                go_loopw [20] (fun i ws => ∃ q : Nat, i = .int .i64 q ∧ q ≤ F.length ∧ Fx (fun x => (Value.slice aa F.length ac).ownBlock = some x) w13 ws ∧ CellsW ws (.slice aa F.length ac) F.length) (fun i _ => F.length - (intOf i).toNat)
                case atStart => exact ⟨0, rfl, Nat.zero_le _, Fx.refl _ _, HWa.out⟩
                case round =>
                  obtain ⟨q, rfl, hq, hf, hw⟩ := hrel
                  have HFq := Lib.hid hf
                  have HWq := Lib.hid hw
                  clear hf hw
                  by_cases hql : q < F.length
                  · have hq1 : (q : Int) < (F.length : Int) := by omega
                    have hq0 : (0 : Int) ≤ (q : Int) := by omega
                    obtain ⟨ga, rfl⟩ := HPa.out (by omega)
                    obtain ⟨u, c1, c2⟩ := HWq.out ga q rfl hql
                    go_wp2
                    go_roundw
                    case rel => exact ⟨q + 1, by go_num, by omega, HFq.out.setCell (a := ⟨ga, q, none⟩) (.inr rfl) _, HWq.out.put rfl _⟩
                    case measure => simp [intOf]; omega
                  · obtain hqe : q = F.length := by omega
                    have hdF : decide ((q : Int) < (F.length : Int)) = false := decide_eq_false (by omega)
                    have hdF2 : decide (q < F.length) = false := decide_eq_false hql
                    have HWe2 := Lib.hid (HWe.out.fx HFq.out HNe.out)
                    obtain ⟨wa, hwa⟩ : ∃ wa, wa = wr := ⟨_, rfl⟩
                    subst hwa
                    clear hqe hql
                    go_wp2
                    go_loopw [21] (fun i ws => ∃ q : Nat, i = .int .i64 q ∧ q ≤ L.length ∧ Fx (fun x => (Value.slice ea L.length ec).ownBlock = some x) wa ws ∧ CellsW ws (.slice ea L.length ec) (L.length * 2)) (fun i _ => L.length - (intOf i).toNat)
                    case atStart => exact ⟨0, rfl, Nat.zero_le _, Fx.refl _ _, HWe2.out⟩
                    case round =>
                      obtain ⟨s, rfl, hs, hf, hw⟩ := hrel
                      have HFs := Lib.hid hf
                      have HWs := Lib.hid hw
                      clear hf hw
                      by_cases hsl : s < L.length
                      · have hs1 : (s : Int) < (L.length : Int) := by omega
                        have hs0 : (0 : Int) ≤ (s : Int) := by omega
                        obtain ⟨ge, rfl⟩ := HPe.out (by omega)
                        obtain ⟨u, c1, c2⟩ := HWs.out ge (s * 2) rfl (by omega)
                        go_wp2
                        go_roundw
                        case rel => exact ⟨s + 1, by go_num, by omega, HFs.out.setCell (a := ⟨ge, s * 2, none⟩) (.inr rfl) _, HWs.out.put rfl _⟩
                        case measure => simp [intOf]; omega
                      · have hdL : decide ((s : Int) < (L.length : Int)) = false := decide_eq_false (by omega)
                        have hdL2 : decide (s < L.length) = false := decide_eq_false hsl
                        have HFz : Hid (Fx No wo wr) := Lib.hid ((HF13.out.trans' HFq.out fun j h1 h2 => by have := (HSa.out j h1).1; omega).trans' HFs.out fun j h1 h2 => by have := HSe.out j h1; omega)
                        clear hsl
                        go_wp2
                        go_roundw
                        case rel => exact ⟨τ + 1, by go_num, by omega, HFz.out⟩
                        case measure => simp [intOf]; omega
              · obtain rfl : τ = 2 := by omega
                have h2c : ((2 : Nat) : Int) = 2 := rfl
                rw [h2c]
                clear h2c
                obtain ⟨wz, hwz⟩ : ∃ wz, wz = wr := ⟨_, rfl⟩
                subst hwz
                have HCz := Lib.hid (HCo.out.no HFt.out)
                have HMz := Lib.hid (HMo.out.no HFt.out)
                have hr0 := HFt.out.cell' HR0o.out (fun h => h)
                have g0 : ∀ W, Fx No wz W → W.cell? ⟨rb, 0, none⟩ = some (.int .i64 (n : Int)) := fun W h => h.cell' hr0 (fun h => h)
                have s0 : Fx No wz wz := Fx.refl _ _
                have C1 : Hid (∀ W, Fx No wz W → Calls Tryz.prog 34 #[.pointer (some ⟨k.b, 0, none⟩)] W fun e w' => e = .returned (.int .i64 (n : Int)) ∧ W = w') := Lib.hid fun W h => cloLen_any (HCz.out.no h)
                have C2 : Hid (∀ W, Fx No wz W → Calls Tryz.prog 33 #[.pointer (some ⟨k.b, 0, none⟩)] W fun e w' => e = .returned (.int .i64 (PP : Int)) ∧ Fx No W w') := Lib.hid fun W h => by rw [HPP.out]; exact pairs_any (HCz.out.no h)
                obtain ⟨cy, hcy⟩ : ∃ c, c = cycB n dn := ⟨_, rfl⟩
                obtain ⟨ln, hln⟩ : ∃ c, c = (loopsTo dn n).length := ⟨_, rfl⟩
                have hcl : cy = decide (0 < ln) := by rw [hcy, hln]; rfl
                have C3 : Hid (∀ W, Fx No wz W → Calls Tryz.prog 20 #[.pointer (some ⟨k.b, 0, none⟩)] W fun e w' => e = .returned (.bool cy) ∧ Fx No W w') := Lib.hid fun W h => by rw [hcy]; exact cyclic_any (HCz.out.no h)
                have C4 : Hid (∀ W, Fx No wz W → Calls Tryz.prog 13 #[vo] W fun e w' => ∃ (a : Option Addr) (c : Nat), e = .returned (.slice a ln c) ∧ Fx No W w') := Lib.hid fun W h => by
                  refine (refLoops_any (HMz.out.no h) hn).mono ?_
                  rintro e w' ⟨v', rfl, h1, h2⟩
                  rw [loopsG_dn] at h2
                  obtain ⟨a, c, rfl, _⟩ := h2.ints.facts
                  exact ⟨a, c, by rw [hln], h1⟩
                have C5 : Hid (∀ W, Fx No wz W → Calls Tryz.prog 24 #[.pointer (some ⟨k.b, 0, none⟩), .int .i64 m, .int .i64 (-1)] W fun e w' => e = .returned (.bool false) ∧ Fx No W w') := Lib.hid fun W h => by rw [← leads_neg n dn m]; exact leads_any (HCz.out.no h) m (-1)
                have C6 : Hid (∀ W, Fx No wz W → Calls Tryz.prog 24 #[.pointer (some ⟨k.b, 0, none⟩), .int .i64 (n : Int), .int .i64 m] W fun e w' => e = .returned (.bool false) ∧ Fx No W w') := Lib.hid fun W h => by rw [← leads_over n dn m]; exact leads_any (HCz.out.no h) (n : Int) m
                have hln0 : ln ≤ n := by rw [hln]; exact loopsTo_len dn n
                clear hcy hln hr0
                have hcase : (cy = true ∧ decide ((0 : Int) < (ln : Int)) = true ∧ decide (0 < ln) = true) ∨ (cy = false ∧ decide ((0 : Int) < (ln : Int)) = false ∧ decide (0 < ln) = false) := by
                  by_cases h0 : 0 < ln
                  · exact .inl ⟨by rw [hcl]; exact decide_eq_true h0, decide_eq_true (by omega), decide_eq_true h0⟩
                  · exact .inr ⟨by rw [hcl]; exact decide_eq_false h0, decide_eq_false (by omega), decide_eq_false h0⟩
                clear hcl
                rcases hcase with ⟨rfl, d0, d1⟩ | ⟨rfl, d0, d1⟩
                all_goals
                  go_wp2_with fail
                  go_region_held3 (fun W => Fx No wz W)
                    (first
                      | exact s0.drew
                      | exact Fx.transNo (by assumption) hfi
                      | assumption)
                    (first
                      | (go_at_call 34; with_reducible refine (C1.out _ (by assumption)).mono ?_; rintro e w' ⟨rfl, rfl⟩)
                      | (go_at_call 33; with_reducible refine (C2.out _ (by assumption)).mono ?_; rintro e w' ⟨rfl, hfi⟩)
                      | (go_at_call 20; with_reducible refine (C3.out _ (by assumption)).mono ?_; rintro e w' ⟨rfl, hfi⟩)
                      | (go_at_call 13; with_reducible refine (C4.out _ (by assumption)).mono ?_; rintro e w' ⟨a4, c4, rfl, hfi⟩)
                      | (go_at_call 24; with_reducible refine (C5.out _ (by assumption)).mono ?_; rintro e w' ⟨rfl, hfi⟩)
                      | (go_at_call 24; with_reducible refine (C6.out _ (by assumption)).mono ?_; rintro e w' ⟨rfl, hfi⟩))
                  all_goals
                    have HKz : Hid (Fx No wz w') := by assumption
                    clear g0 s0 C1 C2 C3 C4 C5 C6
                    go_wp2
                    go_ret
                    exact ⟨rfl, ((HF1.out.trans HFr.out).trans HFt.out).trans HKz.out⟩
          · have hd0 : decide ((0 : Int) < (n : Int)) = false := decide_eq_false (by omega)
            have hd1 : decide (0 < n) = false := decide_eq_false hn0
            have HFrom : Hid (IntsV wr No (.slice none 0 0) F) := Lib.hid (by rw [hFn.out]; exact ints_nil wr)
            have HTo : Hid (IntsV wr No (.slice none 0 0) T) := Lib.hid (by rw [hTn.out]; exact ints_nil wr)
            clear hn0
            obtain ⟨wo, hwo⟩ : ∃ wo, wo = wr := ⟨_, rfl⟩
            subst hwo
            have HCo := Lib.hid (H.out.no HFr.out)
            have HMo := Lib.hid (HM.out.no HFr.out)
            have HR0o := Lib.hid (HFr.out.cell' HR0.out (fun h => h))
            have HR1o := Lib.hid (HFr.out.cell' HR1.out (fun h => h))
            have HPo := Lib.hid (HP.out.no HFr.out)
            have HTo' := Lib.hid (HT.out.keep (HF1.out.trans HFr.out) (fun h => h))
            go_wp2
            go_loopw [14, 15, 16, 17, 18, 19, 20, 21] (fun t _ _ _ _ _ _ _ ws => ∃ τ : Nat, t = .int .i64 τ ∧ τ ≤ 2 ∧ Fx No wo ws) (fun t _ _ _ _ _ _ _ _ => 2 - (intOf t).toNat)
            case atStart => exact ⟨0, rfl, by omega, Fx.refl _ _⟩
            case round =>
              obtain ⟨τ, rfl, hτ, hf⟩ := hrel
              have HFt := Lib.hid hf
              clear hf
              by_cases hτl : τ < 2
              · have hd2 : decide ((τ : Int) < 2) = true := decide_eq_true (by omega)
                go_wp2_with fail
                refine (from_any' (HCo.out.no HFt.out) (HTo'.out.keep HFt.out (fun h => h)) m).mono ?_
                rintro e w2 ⟨va, rfl, hf, ho⟩
                rw [← HFl.out] at ho
                obtain ⟨aa, ac, rfl, _⟩ := ho.ints.facts
                have HA := Lib.hid ho
                have HSa : Hid (∀ g, (Value.slice aa F.length ac).ownBlock = some g → wr.heap.size ≤ g ∧ g < w2.heap.size) := Lib.hid fun g e => World.ownsRow.lt ho g e
                have HPa : Hid (0 < F.length → ∃ ga, aa = some ⟨ga, 0, none⟩) := Lib.hid fun h0 => by
                  obtain ⟨g, c, e, _⟩ := ownsRow_pos ho h0
                  simp only [Value.slice.injEq] at e
                  exact ⟨g, e.1⟩
                have HF2 := Lib.hid (HFt.out.trans hf)
                have hza := hf.size
                clear hf ho
                go_wp2_with fail
                refine (to_any (HCo.out.no HF2.out) (HTo'.out.keep HF2.out (fun h => h)) m).mono ?_
                rintro e w3 ⟨vb, rfl, hf, ho⟩
                rw [← HTl.out] at ho
                have HB := Lib.hid ho
                have HA := Lib.hid (ownsRow_fx HA.out hf fun _ _ h => h)
                have HF3 := Lib.hid (HF2.out.trans hf)
                have hzb := hf.size
                clear hf ho
                go_wp2_with fail
                refine (loops_any (HCo.out.no HF3.out)).mono ?_
                rintro e w4 ⟨vl, rfl, hf, ho⟩
                have HL := Lib.hid ho
                have HA := Lib.hid (ownsRow_fx HA.out hf fun _ _ h => h)
                have HB := Lib.hid (ownsRow_fx HB.out hf fun _ _ h => h)
                have HF4 := Lib.hid (HF3.out.trans hf)
                have hzc := hf.size
                clear hf ho
                go_wp2_with fail
                refine (edges_any (HCo.out.no HF4.out) (HTo'.out.keep HF4.out (fun h => h))).mono ?_
                rintro e w5 ⟨ve, rfl, hf, ho⟩
                rw [← HLd.out] at ho
                obtain ⟨ea, ec, rfl, _⟩ := PairsV.facts ho.row
                have HE := Lib.hid ho
                have HSe : Hid (∀ g, (Value.slice ea L.length ec).ownBlock = some g → w4.heap.size ≤ g) := Lib.hid fun g e => (World.ownsRow.lt ho g e).1
                have HPe : Hid (0 < L.length → ∃ ga, ea = some ⟨ga, 0, none⟩) := Lib.hid fun h0 => by
                  obtain ⟨g, c, e, _⟩ := ownsRow_pos ho h0
                  simp only [Value.slice.injEq] at e
                  exact ⟨g, e.1⟩
                have HA := Lib.hid (ownsRow_fx HA.out hf fun _ _ h => h)
                have HB := Lib.hid (ownsRow_fx HB.out hf fun _ _ h => h)
                have HL := Lib.hid (ownsRow_fx HL.out hf fun _ _ h => h)
                have HF5 := Lib.hid (HF4.out.trans hf)
                have hzd := hf.size
                clear hf ho
                go_wp2_with fail
                refine (least_any (HCo.out.no HF5.out) (HTo'.out.keep HF5.out (fun h => h))).mono ?_
                rintro e w6 ⟨vm, rfl, hf, ho⟩
                have HMl := Lib.hid ho
                have HA := Lib.hid (ownsRow_fx HA.out hf fun _ _ h => h)
                have HB := Lib.hid (ownsRow_fx HB.out hf fun _ _ h => h)
                have HL := Lib.hid (ownsRow_fx HL.out hf fun _ _ h => h)
                have HE := Lib.hid (HE.out.no hf)
                have HF6 := Lib.hid (HF5.out.trans hf)
                clear hf ho
                go_wp2_with fail
                refine (sameInts_any (OwnI.ints HA.out) (HFrom.out.keep HF6.out No.disj)).mono ?_
                rintro e w7 ⟨rfl, hf⟩
                rw [beq_self_eq_true]
                have HF7 := Lib.hid (HF6.out.trans hf)
                have K7 := Lib.hid hf
                clear hf
                go_wp2_with fail
                refine (sameInts_any ((OwnI.ints HB.out).keep K7.out No.disj) (HTo.out.keep HF7.out No.disj)).mono ?_
                rintro e w8 ⟨rfl, hf⟩
                rw [beq_self_eq_true]
                have HF8 := Lib.hid (HF7.out.trans hf)
                have K8 := Lib.hid (K7.out.trans hf)
                clear hf
                go_wp2_with fail
                refine (refLoops_any (HMo.out.no HF8.out) hn).mono ?_
                rintro e w9 ⟨v9, rfl, hf, ho⟩
                rw [loopsG_dn] at ho
                have HL9 := Lib.hid ho
                have HF9 := Lib.hid (HF8.out.trans hf)
                have K9 := Lib.hid (K8.out.trans hf)
                clear hf ho
                go_wp2_with fail
                refine (sameInts_any ((OwnI.ints HL.out).keep K9.out No.disj) (OwnI.ints HL9.out)).mono ?_
                rintro e w10 ⟨rfl, hf⟩
                rw [beq_self_eq_true]
                have HF10 := Lib.hid (HF9.out.trans hf)
                have K10 := Lib.hid (K9.out.trans hf)
                have c1 := HF10.out.cell' HR1o.out (fun h => h)
                clear hf
                go_wp2_with fail
                refine (same_any (HE.out.row.no K10.out) (HPo.out.no HF10.out)).mono ?_
                rintro e w11 ⟨rfl, hf⟩
                rw [decide_eq_true (rfl : L = L)]
                have HF11 := Lib.hid (HF10.out.trans hf)
                have K11 := Lib.hid (K10.out.trans hf)
                have c0 := HF11.out.cell' HR0o.out (fun h => h)
                have c1' := HF11.out.cell' HR1o.out (fun h => h)
                clear hf c1
                go_wp2_with fail
                refine (refLeast_any (HPo.out.no HF11.out) hn HLb.out HLl.out).mono ?_
                rintro e w12 ⟨v12, rfl, hf, ho⟩
                rw [HLe.out] at ho
                have HE12 := Lib.hid ho
                have HF12 := Lib.hid (HF11.out.trans hf)
                have K12 := Lib.hid (K11.out.trans hf)
                clear hf ho c0 c1'
                go_wp2_with fail
                refine (same_any (HMl.out.row.no K12.out) HE12.out.row).mono ?_
                rintro e w13 ⟨rfl, hf⟩
                rw [decide_eq_true (rfl : leastL n dn ed = leastL n dn ed)]
                have HF13 := Lib.hid (HF12.out.trans hf)
                have K13 := Lib.hid (K12.out.trans hf)
                clear hf
                have HWa : Hid (CellsW w13 (.slice aa F.length ac) F.length) := Lib.hid (by have := (CellsW.of HA.out).fx K13.out (fun _ _ h => h); simpa [ints] using this)
                have HWe : Hid (CellsW w13 (.slice ea L.length ec) (L.length * 2)) := Lib.hid (by have := (CellsW.of HE.out).fx K13.out (fun _ _ h => h); rw [icells_length e2_len] at this; exact this)
                have hzt := HFt.out.size
                have HNe : Hid (∀ g, (Value.slice ea L.length ec).ownBlock = some g → ¬ (Value.slice aa F.length ac).ownBlock = some g) := Lib.hid fun g e1 e2 => by have := HSe.out g e1; have := (HSa.out g e2).2; omega
                clear HA HB HL HE HMl HL9 HE12 HF2 HF3 HF4 HF5 HF6 HF7 HF8 HF9 HF10 HF11 HF12 K7 K8 K9 K10 K11 K12 K13
                go_wp2
                go_loopw [20] (fun i ws => ∃ q : Nat, i = .int .i64 q ∧ q ≤ F.length ∧ Fx (fun x => (Value.slice aa F.length ac).ownBlock = some x) w13 ws ∧ CellsW ws (.slice aa F.length ac) F.length) (fun i _ => F.length - (intOf i).toNat)
                case atStart => exact ⟨0, rfl, Nat.zero_le _, Fx.refl _ _, HWa.out⟩
                case round =>
                  obtain ⟨q, rfl, hq, hf, hw⟩ := hrel
                  have HFq := Lib.hid hf
                  have HWq := Lib.hid hw
                  clear hf hw
                  by_cases hql : q < F.length
                  · have hq1 : (q : Int) < (F.length : Int) := by omega
                    have hq0 : (0 : Int) ≤ (q : Int) := by omega
                    obtain ⟨ga, rfl⟩ := HPa.out (by omega)
                    obtain ⟨u, c1, c2⟩ := HWq.out ga q rfl hql
                    go_wp2
                    go_roundw
                    case rel => exact ⟨q + 1, by go_num, by omega, HFq.out.setCell (a := ⟨ga, q, none⟩) (.inr rfl) _, HWq.out.put rfl _⟩
                    case measure => simp [intOf]; omega
                  · obtain hqe : q = F.length := by omega
                    have hdF : decide ((q : Int) < (F.length : Int)) = false := decide_eq_false (by omega)
                    have hdF2 : decide (q < F.length) = false := decide_eq_false hql
                    have HWe2 := Lib.hid (HWe.out.fx HFq.out HNe.out)
                    obtain ⟨wa, hwa⟩ : ∃ wa, wa = wr := ⟨_, rfl⟩
                    subst hwa
                    clear hqe hql
                    go_wp2
                    go_loopw [21] (fun i ws => ∃ q : Nat, i = .int .i64 q ∧ q ≤ L.length ∧ Fx (fun x => (Value.slice ea L.length ec).ownBlock = some x) wa ws ∧ CellsW ws (.slice ea L.length ec) (L.length * 2)) (fun i _ => L.length - (intOf i).toNat)
                    case atStart => exact ⟨0, rfl, Nat.zero_le _, Fx.refl _ _, HWe2.out⟩
                    case round =>
                      obtain ⟨s, rfl, hs, hf, hw⟩ := hrel
                      have HFs := Lib.hid hf
                      have HWs := Lib.hid hw
                      clear hf hw
                      by_cases hsl : s < L.length
                      · have hs1 : (s : Int) < (L.length : Int) := by omega
                        have hs0 : (0 : Int) ≤ (s : Int) := by omega
                        obtain ⟨ge, rfl⟩ := HPe.out (by omega)
                        obtain ⟨u, c1, c2⟩ := HWs.out ge (s * 2) rfl (by omega)
                        go_wp2
                        go_roundw
                        case rel => exact ⟨s + 1, by go_num, by omega, HFs.out.setCell (a := ⟨ge, s * 2, none⟩) (.inr rfl) _, HWs.out.put rfl _⟩
                        case measure => simp [intOf]; omega
                      · have hdL : decide ((s : Int) < (L.length : Int)) = false := decide_eq_false (by omega)
                        have hdL2 : decide (s < L.length) = false := decide_eq_false hsl
                        have HFz : Hid (Fx No wo wr) := Lib.hid ((HF13.out.trans' HFq.out fun j h1 h2 => by have := (HSa.out j h1).1; omega).trans' HFs.out fun j h1 h2 => by have := HSe.out j h1; omega)
                        clear hsl
                        go_wp2
                        go_roundw
                        case rel => exact ⟨τ + 1, by go_num, by omega, HFz.out⟩
                        case measure => simp [intOf]; omega
              · obtain rfl : τ = 2 := by omega
                have h2c : ((2 : Nat) : Int) = 2 := rfl
                rw [h2c]
                clear h2c
                obtain ⟨wz, hwz⟩ : ∃ wz, wz = wr := ⟨_, rfl⟩
                subst hwz
                have HCz := Lib.hid (HCo.out.no HFt.out)
                have HMz := Lib.hid (HMo.out.no HFt.out)
                have hr0 := HFt.out.cell' HR0o.out (fun h => h)
                have g0 : ∀ W, Fx No wz W → W.cell? ⟨rb, 0, none⟩ = some (.int .i64 (n : Int)) := fun W h => h.cell' hr0 (fun h => h)
                have s0 : Fx No wz wz := Fx.refl _ _
                have C1 : Hid (∀ W, Fx No wz W → Calls Tryz.prog 34 #[.pointer (some ⟨k.b, 0, none⟩)] W fun e w' => e = .returned (.int .i64 (n : Int)) ∧ W = w') := Lib.hid fun W h => cloLen_any (HCz.out.no h)
                have C2 : Hid (∀ W, Fx No wz W → Calls Tryz.prog 33 #[.pointer (some ⟨k.b, 0, none⟩)] W fun e w' => e = .returned (.int .i64 (PP : Int)) ∧ Fx No W w') := Lib.hid fun W h => by rw [HPP.out]; exact pairs_any (HCz.out.no h)
                obtain ⟨cy, hcy⟩ : ∃ c, c = cycB n dn := ⟨_, rfl⟩
                obtain ⟨ln, hln⟩ : ∃ c, c = (loopsTo dn n).length := ⟨_, rfl⟩
                have hcl : cy = decide (0 < ln) := by rw [hcy, hln]; rfl
                have C3 : Hid (∀ W, Fx No wz W → Calls Tryz.prog 20 #[.pointer (some ⟨k.b, 0, none⟩)] W fun e w' => e = .returned (.bool cy) ∧ Fx No W w') := Lib.hid fun W h => by rw [hcy]; exact cyclic_any (HCz.out.no h)
                have C4 : Hid (∀ W, Fx No wz W → Calls Tryz.prog 13 #[vo] W fun e w' => ∃ (a : Option Addr) (c : Nat), e = .returned (.slice a ln c) ∧ Fx No W w') := Lib.hid fun W h => by
                  refine (refLoops_any (HMz.out.no h) hn).mono ?_
                  rintro e w' ⟨v', rfl, h1, h2⟩
                  rw [loopsG_dn] at h2
                  obtain ⟨a, c, rfl, _⟩ := h2.ints.facts
                  exact ⟨a, c, by rw [hln], h1⟩
                have C5 : Hid (∀ W, Fx No wz W → Calls Tryz.prog 24 #[.pointer (some ⟨k.b, 0, none⟩), .int .i64 m, .int .i64 (-1)] W fun e w' => e = .returned (.bool false) ∧ Fx No W w') := Lib.hid fun W h => by rw [← leads_neg n dn m]; exact leads_any (HCz.out.no h) m (-1)
                have C6 : Hid (∀ W, Fx No wz W → Calls Tryz.prog 24 #[.pointer (some ⟨k.b, 0, none⟩), .int .i64 (n : Int), .int .i64 m] W fun e w' => e = .returned (.bool false) ∧ Fx No W w') := Lib.hid fun W h => by rw [← leads_over n dn m]; exact leads_any (HCz.out.no h) (n : Int) m
                have hln0 : ln ≤ n := by rw [hln]; exact loopsTo_len dn n
                clear hcy hln hr0
                have hcase : (cy = true ∧ decide ((0 : Int) < (ln : Int)) = true ∧ decide (0 < ln) = true) ∨ (cy = false ∧ decide ((0 : Int) < (ln : Int)) = false ∧ decide (0 < ln) = false) := by
                  by_cases h0 : 0 < ln
                  · exact .inl ⟨by rw [hcl]; exact decide_eq_true h0, decide_eq_true (by omega), decide_eq_true h0⟩
                  · exact .inr ⟨by rw [hcl]; exact decide_eq_false h0, decide_eq_false (by omega), decide_eq_false h0⟩
                clear hcl
                rcases hcase with ⟨rfl, d0, d1⟩ | ⟨rfl, d0, d1⟩
                all_goals
                  go_wp2_with fail
                  go_region_held3 (fun W => Fx No wz W)
                    (first
                      | exact s0.drew
                      | exact Fx.transNo (by assumption) hfi
                      | assumption)
                    (first
                      | (go_at_call 34; with_reducible refine (C1.out _ (by assumption)).mono ?_; rintro e w' ⟨rfl, rfl⟩)
                      | (go_at_call 33; with_reducible refine (C2.out _ (by assumption)).mono ?_; rintro e w' ⟨rfl, hfi⟩)
                      | (go_at_call 20; with_reducible refine (C3.out _ (by assumption)).mono ?_; rintro e w' ⟨rfl, hfi⟩)
                      | (go_at_call 13; with_reducible refine (C4.out _ (by assumption)).mono ?_; rintro e w' ⟨a4, c4, rfl, hfi⟩)
                      | (go_at_call 24; with_reducible refine (C5.out _ (by assumption)).mono ?_; rintro e w' ⟨rfl, hfi⟩)
                      | (go_at_call 24; with_reducible refine (C6.out _ (by assumption)).mono ?_; rintro e w' ⟨rfl, hfi⟩))
                  all_goals
                    have HKz : Hid (Fx No wz w') := by assumption
                    clear g0 s0 C1 C2 C3 C4 C5 C6
                    go_wp2
                    go_ret
                    exact ⟨rfl, ((HF1.out.trans HFr.out).trans HFt.out).trans HKz.out⟩
end
#print axioms is_any
end Go.Proofs.YtfpggeiphbekoaaGreatDoor
