/- The reference of closures: Loops, Least. -/
import Derived.Test.YtfpggeiphbekoaaDoorRfE
import Derived.Test.YtfpggeiphbekoaaDoorRegH
namespace Go.Proofs.YtfpggeiphbekoaaDoor
open Go.RowKit
set_option linter.unusedVariables false

theorem Mat.no {w w' : World} {lo n gO : Nat} {vo : Value} {B : Nat → Nat} {g : Nat → Nat → Bool} (h : Mat w lo n vo gO B g) (hf : Fx No w w') : Mat w' lo n vo gO B g := h.fx hf fun _ _ h => h
/-- the rows that hold themselves -/
def loopsG (g : Nat → Nat → Bool) (n : Nat) : List Int := ((List.range n).filter fun i => g i i).map fun i : Nat => (i : Int)
theorem loopsG_succ (g : Nat → Nat → Bool) (m : Nat) : loopsG g (m + 1) = loopsG g m ++ if g m m then [(m : Int)] else [] := by
  unfold loopsG
  rw [List.range_succ, List.filter_append, List.map_append]
  congr 1
  by_cases h : g m m = true <;> simp [h]
theorem loopsG_len (g : Nat → Nat → Bool) (m : Nat) : (loopsG g m).length ≤ m := by
  unfold loopsG
  rw [List.length_map]
  exact Nat.le_trans (List.length_filter_le _ _) (by simp)
section
variable {w w' : World} {D S : Nat → Prop} {L : List (Int × Int)} {v : Value}
set_option maxHeartbeats 1000000 in
theorem refLoops_any {lo n gO : Nat} {vo : Value} {B : Nat → Nat} {g : Nat → Nat → Bool} (h : Mat w lo n vo gO B g) (hn : n ≤ 1000) : Calls Tryd.prog 12 #[vo] w fun e w' => ∃ v, e = .returned v ∧ Fx No w w' ∧ OwnI w' w.heap.size v (loopsG g n) := by
  obtain ⟨ii, hi, hz, hs, hb⟩ := info_parts info_int'
  obtain ⟨ao, cap, rfl, hao, _⟩ := h.shape
  have HM := Lib.hid h
  have HAo := Lib.hid hao
  clear h hao
  go_enter Tryd.func12, Tryd.ntmps12
  go_wp2
  go_loopw [3, 4] (fun l i ws => ∃ m : Nat, i = .int .i64 m ∧ m ≤ n ∧ Fx No w ws ∧ OwnI ws w.heap.size l (loopsG g m)) (fun _ i _ => n - (intOf i).toNat)
  case atStart => exact ⟨0, rfl, Nat.zero_le _, Fx.refl _ _, World.ownsRow_nil _ _ _ _⟩
  case round =>
    obtain ⟨m, rfl, hm, hf, ho⟩ := hrel
    have HF := Lib.hid hf
    have HO := Lib.hid ho
    have hzr := hf.size
    have hll := loopsG_len g m
    clear hf ho
    by_cases hlt : m < n
    · obtain rfl := HAo.out (by omega)
      have hmn : (m : Int) < (n : Int) := by omega
      have r1 := (HM.out.no HF.out).row m hlt
      have s1 := ((HM.out.no HF.out).cel m m hlt hlt).1
      have HL := Lib.hid (loopsG_succ g m)
      obtain ⟨t, ht⟩ : ∃ t, t = g m m := ⟨_, rfl⟩
      rw [← ht] at s1 HL
      clear ht
      cases t
      · go_wp2
        go_roundw
        case rel => exact ⟨m + 1, by go_num, by omega, HF.out, by rw [HL.out]; simpa [OwnI] using HO.out⟩
        case measure => simp [intOf]; omega
      · go_wp2_with (at_builtin; refine wpList_append_sl rfl _ _ 37 rfl w.heap.size 3 Tryd.underlying37 hi hz hs hb rfl (by decide) rfl (World.ownsRow.alloc HO.out _) rfl (SlV.lit _ 3 #[.int .i64 _] 1 1 rfl (by unfold maxLen; omega)) (ints_one [_]) (by unfold maxLen; omega) (by omega) (by simp; omega) ?_)
        intro v' w3 ho hfx _
        have HO3 : Hid (OwnI w3 w.heap.size v' (loopsG g (m + 1))) := by
          show OwnI w3 w.heap.size v' (loopsG g (m + 1))
          rw [HL.out]
          unfold OwnI
          rw [List.length_append]
          simpa [ints] using ho
        have HF3 : Hid (Fx No w w3) := Lib.hid ((HF.out.alloc _).trans' hfx fun g e hl => by have := (World.ownsRow.lt HO.out g e).1; omega)
        clear ho hfx
        go_wp2
        go_roundw
        case rel => exact ⟨m + 1, by go_num, by omega, HF3.out, HO3.out⟩
        case measure => simp [intOf]; omega
    · obtain rfl : n = m := by omega
      go_wp2
      go_ret
      exact ⟨_, rfl, HF.out, HO.out⟩
open Classical in
/-- whether there is a way -/
noncomputable def wayB (e : Nat → Nat → Prop) (i j : Nat) : Bool := decide (Way e i j)
theorem wayB_iff {e : Nat → Nat → Prop} {i j : Nat} : wayB e i j = true ↔ Way e i j := by unfold wayB; simp
/-- the edges that are needed, as the reference has them -/
noncomputable def keepB (L : List (Int × Int)) (q : Int × Int) : Bool := !wayB (edgeP (withoutL L q)) q.1.toNat q.2.toNat
noncomputable def refLeastL (L : List (Int × Int)) (n : Nat) : List (Int × Int) := if 0 < (loopsG (wayB (edgeP L)) n).length then [] else L.filter (keepB L)
theorem loopsG_congr {g g' : Nat → Nat → Bool} {n : Nat} (h : ∀ i j, i < n → j < n → g i j = g' i j) : loopsG g n = loopsG g' n := by
  unfold loopsG
  congr 1
  exact List.filter_congr fun i hi => h i i (List.mem_range.1 hi) (List.mem_range.1 hi)
theorem wayB_eq {e : Nat → Nat → Prop} {g : Nat → Nat → Bool} {n : Nat} (h : ∀ i j, i < n → j < n → (g i j = true ↔ Way e i j)) : ∀ i j, i < n → j < n → g i j = wayB e i j := fun i j hi hj => by
  rw [Bool.eq_iff_iff, h i j hi hj, wayB_iff]
set_option maxRecDepth 100000 in
set_option maxHeartbeats 4000000 in
theorem refLeast_any (h : PairsV w D v L) {n : Nat} (hn : n ≤ 1000) (hL : ∀ q ∈ L, (0 ≤ q.1 ∧ q.1 < n) ∧ 0 ≤ q.2 ∧ q.2 < n) (hl : L.length ≤ 1000000) : Calls Tryd.prog 45 #[.agg #[.int .i64 (n : Int), v]] w fun e w' => ∃ v', e = .returned v' ∧ Fx No w w' ∧ OwnE w' w.heap.size v' (refLeastL L n) := by
  obtain ⟨ii, hi, hz, hs, hb⟩ := info_parts info_edge17
  have H := Lib.hid h
  have HL := Lib.hid hL
  obtain ⟨ao, cap, rfl, _, _, hc⟩ := h.facts
  have HC := Lib.hid hc
  clear h hc hL
  go_enter Tryd.func45, Tryd.ntmps45
  go_wp2_with fail
  refine (refAll_any (H.out.no ((Fx.refl No _).alloc _)) hn HL.out).mono ?_
  rintro e w1 ⟨vo, gO, B, g, rfl, hf, hm, hg⟩
  have c1 : w1.cell? ⟨w.heap.size, 0, none⟩ = some (.int .i64 (n : Int)) := hf.cell' (by go_simp) (fun h => h)
  have c2 : w1.cell? ⟨w.heap.size, 1, none⟩ = some (.slice ao L.length cap) := hf.cell' (by go_simp) (fun h => h)
  obtain ⟨cb, hcb⟩ : ∃ c, c = w.heap.size := ⟨_, rfl⟩
  rw [← hcb] at c1 c2 ⊢
  have HF1 := Lib.hid (((Fx.refl No w).alloc _).trans hf)
  have HM := Lib.hid hm
  have HG := Lib.hid (wayB_eq hg)
  have HC1 := Lib.hid c1
  have HC2 := Lib.hid c2
  have hz1 := hf.size
  simp only [World.size_alloc] at hz1
  clear hf hm hg c1 c2 hcb
  go_wp2_with fail
  refine (refLoops_any HM.out hn).mono ?_
  rintro e w2 ⟨v2, rfl, hf, ho⟩
  obtain ⟨lo2, lc2, rfl, _⟩ := ho.ints.facts
  have HF2 := Lib.hid (HF1.out.trans hf)
  have c1 := hf.cell' HC1.out (fun h => h)
  have c2 := hf.cell' HC2.out (fun h => h)
  have HC1 := Lib.hid c1
  have HC2 := Lib.hid c2
  have hz2 := hf.size
  have HLe : Hid (refLeastL L n = if 0 < (loopsG g n).length then [] else L.filter (keepB L)) := Lib.hid (by rw [loopsG_congr HG.out]; rfl)
  have hll := loopsG_len g n
  obtain ⟨ln, hln⟩ : ∃ l, l = (loopsG g n).length := ⟨_, rfl⟩
  rw [← hln] at HLe hll ⊢
  clear hf ho hln
  by_cases h0 : 0 < ln
  · have d0 : decide ((0 : Int) < (ln : Int)) = true := decide_eq_true (by omega)
    have d1 : decide (0 < ln) = true := decide_eq_true h0
    have HLe : Hid (refLeastL L n = []) := Lib.hid (by rw [HLe.out, if_pos h0])
    clear h0
    go_wp2
    go_ret
    exact ⟨_, rfl, HF2.out, by rw [HLe.out]; exact OwnT.nil _ _⟩
  · have d0 : decide ((0 : Int) < (ln : Int)) = false := decide_eq_false (by omega)
    have d1 : decide (0 < ln) = false := decide_eq_false h0
    have HLe : Hid (refLeastL L n = L.filter (keepB L)) := Lib.hid (by rw [HLe.out, if_neg h0])
    clear h0
    go_wp2
    obtain ⟨wo, hwo⟩ : ∃ wo, wo = w2 := ⟨_, rfl⟩
    subst hwo
    go_loopw [3, 4, 5] (fun l i _ ws => ∃ q : Nat, i = .int .i64 q ∧ q ≤ L.length ∧ Fx No wo ws ∧ OwnE ws wo.heap.size l ((L.take q).filter (keepB L))) (fun _ i _ _ => L.length - (intOf i).toNat)
    case atStart => exact ⟨0, rfl, Nat.zero_le _, Fx.refl _ _, OwnT.nil _ _⟩
    case round =>
      obtain ⟨q, rfl, hq, hf, ho⟩ := hrel
      have HFq := Lib.hid hf
      have HO := Lib.hid ho
      have hzq := hf.size
      clear c1 c2
      have c1 := hf.cell' HC1.out (fun h => h)
      have c2 := hf.cell' HC2.out (fun h => h)
      clear hf ho
      by_cases hql : q < L.length
      · obtain ⟨b, o, rfl, _, p1, p2⟩ := HC.out q hql
        have p1 := HFq.out.cell' (HF2.out.cell' p1 (fun h => h)) (fun h => h)
        have p2 := HFq.out.cell' (HF2.out.cell' p2 (fun h => h)) (fun h => h)
        obtain ⟨⟨x0, x1⟩, y0, y1⟩ := HL.out _ (gt_mem hql)
        obtain ⟨x, hx⟩ := Int.eq_ofNat_of_zero_le x0
        obtain ⟨y, hy⟩ := Int.eq_ofNat_of_zero_le y0
        rw [hx] at p1 x1
        rw [hy] at p2 y1
        have hgt : gt L q = ((x : Int), (y : Int)) := Prod.ext hx hy
        have HTk : Hid (L.take (q + 1) = L.take q ++ [((x : Int), (y : Int))]) := Lib.hid (by rw [take_gt hql, hgt])
        have hxn : x < n := by omega
        have hyn : y < n := by omega
        have hlen : ((L.take q).filter (keepB L)).length ≤ 1000000 := by
          refine Nat.le_trans (List.length_filter_le _ _) ?_
          rw [List.length_take]; omega
        obtain ⟨ys, hys⟩ : ∃ ys, ys = (L.take q).filter (keepB L) := ⟨_, rfl⟩
        rw [← hys] at hlen HO
        have HY := Lib.hid hys
        have hql2 : (q : Int) < (L.length : Int) := by omega
        have hxI : (x : Int) < (n : Int) := by omega
        have hyI : (y : Int) < (n : Int) := by omega
        have hx0 : (0 : Int) ≤ (x : Int) := by omega
        have hy0 : (0 : Int) ≤ (y : Int) := by omega
        clear hx hy x0 y0 hgt hys x1 y1
        go_wp2_with fail
        refine wp_hold (fun W => Fx No wr W ∧ W.cell? ⟨wr.heap.size, 0, none⟩ = some (.int .i64 (x : Int)) ∧ W.cell? ⟨wr.heap.size, 1, none⟩ = some (.int .i64 (y : Int))) ⟨(Fx.refl No wr).alloc _, by go_simp, by go_simp⟩ ?_
        rintro wx ⟨hfx, e0, e1⟩
        obtain ⟨eb, heb⟩ : ∃ e, e = wr.heap.size := ⟨_, rfl⟩
        rw [← heb] at e0 e1 ⊢
        have HFx := Lib.hid hfx
        have HOx := Lib.hid (HO.out.no hfx)
        have HFwx := Lib.hid ((HF2.out.trans HFq.out).trans hfx)
        have c1x := hfx.cell' c1 (fun h => h)
        have c2x := hfx.cell' c2 (fun h => h)
        clear heb hfx
        have g1 : ∀ W, Fx No wx W → W.cell? ⟨cb, 0, none⟩ = some (.int .i64 (n : Int)) := fun W h => h.cell' c1x (fun h => h)
        have g2 : ∀ W, Fx No wx W → W.cell? ⟨cb, 1, none⟩ = some (.slice (some ⟨b, o, none⟩) L.length cap) := fun W h => h.cell' c2x (fun h => h)
        have g3 : ∀ W, Fx No wx W → W.cell? ⟨eb, 0, none⟩ = some (.int .i64 (x : Int)) := fun W h => h.cell' e0 (fun h => h)
        have g4 : ∀ W, Fx No wx W → W.cell? ⟨eb, 1, none⟩ = some (.int .i64 (y : Int)) := fun W h => h.cell' e1 (fun h => h)
        have s0 : Fx No wx wx := Fx.refl _ _
        have HE0 := Lib.hid e0
        have HE1 := Lib.hid e1
        have CW : Hid (∀ W, Fx No wx W → Calls Tryd.prog 66 #[.agg #[.int .i64 (n : Int), .slice (some ⟨b, o, none⟩) L.length cap], .agg #[.int .i64 (x : Int), .int .i64 (y : Int)]] W fun e w' => ∃ (a' : Option Addr) (l' c' : Nat), e = .returned (.agg #[.int .i64 (n : Int), .slice a' l' c']) ∧ Fx No W w' ∧ Hid (PairsV w' (fun _ => True) (.slice a' l' c') (withoutL L ((x : Int), (y : Int))))) := Lib.hid fun W h => by
          refine (refWithout_any (H.out.no (HFwx.out.trans h)) (n : Int) (x : Int) (y : Int) hl).mono ?_
          rintro e w' ⟨v', rfl, h2, h3⟩
          obtain ⟨a', c', rfl, _⟩ := h3.facts
          exact ⟨a', _, c', rfl, h2, Lib.hid (h3.mono fun _ _ => trivial)⟩
        have CA : Hid (∀ W a' l' c', Hid (PairsV W (fun _ => True) (.slice a' l' c') (withoutL L ((x : Int), (y : Int)))) → Calls Tryd.prog 13 #[.agg #[.int .i64 (n : Int), .slice a' l' c']] W fun e w' => ∃ (gO gc : Nat) (Bx : Nat) (t : Bool), e = .returned (.slice (some ⟨gO, 0, none⟩) n gc) ∧ Fx No W w' ∧ w'.cell? ⟨gO, x, none⟩ = some (.slice (some ⟨Bx, 0, none⟩) n n) ∧ w'.cell? ⟨Bx, y, none⟩ = some (.bool t) ∧ Hid (t = wayB (edgeP (withoutL L ((x : Int), (y : Int)))) x y)) := Lib.hid fun W a' l' c' h => by
          refine (refAll_any h.out hn (fun z hz => HL.out z (List.mem_filter.1 hz).1)).mono ?_
          rintro e w' ⟨vo, gO, B, g, rfl, h2, h3, h4⟩
          obtain ⟨a2, gc, rfl, ha2, _⟩ := h3.shape
          obtain rfl := ha2 (by omega)
          exact ⟨gO, gc, B x, g x y, rfl, h2, h3.row x hxn, (h3.cel x y hxn hyn).1, Lib.hid (wayB_eq h4 x y hxn hyn)⟩
        clear e0 e1 c1 c2 p1 p2 c1x c2x
        go_wp2_with fail
        refine wp_region_H (fun W => Fx No wx W) (by kernel_rfl) s0.drew ?_
        intro hS
        refine wpAnyH_take (i := 0) (v := ?_) rfl (by kernel_rfl) (by kernel_rfl) (by kernel_rfl) (fun _ _ _ h => h) (Or.inl ⟨by rfl, ?_⟩) hS ?_
        rotate_left
        · (intro W hs; go_simp; first | done | with_reducible rfl)
        try simp only [Act.put, List.getElem_toArray, List.getElem_cons_zero, List.getElem_cons_succ, List.setIfInBounds_toArray, List.set_cons_zero, List.set_cons_succ]
        refine wpAnyH_take (i := 1) (v := ?_) rfl (by kernel_rfl) (by kernel_rfl) (by kernel_rfl) (fun _ _ _ h => h) (Or.inl ⟨by rfl, ?_⟩) hS ?_
        rotate_left
        · (intro W hs; go_simp; first | done | with_reducible rfl)
        try simp only [Act.put, List.getElem_toArray, List.getElem_cons_zero, List.getElem_cons_succ, List.setIfInBounds_toArray, List.set_cons_zero, List.set_cons_succ]
        refine wpAnyH_take (i := 4) (v := ?_) rfl (by kernel_rfl) (by kernel_rfl) (by kernel_rfl) (fun _ _ _ h => h) (Or.inl ⟨by rfl, ?_⟩) hS ?_
        rotate_left
        · (intro W hs; go_simp; first | done | with_reducible rfl)
        try simp only [Act.put, List.getElem_toArray, List.getElem_cons_zero, List.getElem_cons_succ, List.setIfInBounds_toArray, List.set_cons_zero, List.set_cons_succ]
        refine wpAnyH_take (i := 5) (v := ?_) rfl (by kernel_rfl) (by kernel_rfl) (by kernel_rfl) (fun _ _ _ h => h) (Or.inl ⟨by rfl, ?_⟩) hS ?_
        rotate_left
        · (intro W hs; go_simp; first | done | with_reducible rfl)
        try simp only [Act.put, List.getElem_toArray, List.getElem_cons_zero, List.getElem_cons_succ, List.setIfInBounds_toArray, List.set_cons_zero, List.set_cons_succ]
        refine wpAnyH_take (i := 8) (v := ?_) rfl (by kernel_rfl) (by kernel_rfl) (by kernel_rfl) (fun _ _ _ h => h) (Or.inl ⟨by rfl, ?_⟩) hS ?_
        rotate_left
        · (intro W hs; go_simp; first | done | with_reducible rfl)
        try simp only [Act.put, List.getElem_toArray, List.getElem_cons_zero, List.getElem_cons_succ, List.setIfInBounds_toArray, List.set_cons_zero, List.set_cons_succ]
        refine wpAnyH_take (i := 9) (v := ?_) rfl (by kernel_rfl) (by kernel_rfl) (by kernel_rfl) (fun _ _ _ h => h) (Or.inl ⟨by rfl, ?_⟩) hS ?_
        rotate_left
        · (intro W hs; go_simp; first | done | with_reducible rfl)
        try simp only [Act.put, List.getElem_toArray, List.getElem_cons_zero, List.getElem_cons_succ, List.setIfInBounds_toArray, List.set_cons_zero, List.set_cons_succ]
        refine wpH_one (i := 2) (by kernel_rfl) rfl (fun K hK => ?_)
        go_simp
        refine (CW.out _ hS).mono ?_
        rintro e w6 ⟨a', l', c', rfl, hfi, hpv⟩
        have HFi := Lib.hid (hS.trans hfi)
        clear hfi
        refine hK.out _ _ (HFi.out) (fun hS' => ?_)
        clear hK K hS
        have hS := hS'
        clear hS'
        try simp only [Act.put, List.getElem_toArray, List.getElem_cons_zero, List.getElem_cons_succ, List.setIfInBounds_toArray, List.set_cons_zero, List.set_cons_succ]
        refine wpH_one (i := 3) (by kernel_rfl) rfl (fun K hK => ?_)
        go_simp
        refine (CA.out _ _ _ _ hpv).mono ?_
        rintro e w7 ⟨gO', gc', Bx', t, rfl, hfj, hr1, hr2, ht⟩
        have HFj := Lib.hid (hS.trans hfj)
        clear hfj
        refine hK.out _ _ (HFj.out) (fun hS' => ?_)
        clear hK K hS
        have hS := hS'
        clear hS'
        try simp only [Act.put, List.getElem_toArray, List.getElem_cons_zero, List.getElem_cons_succ, List.setIfInBounds_toArray, List.set_cons_zero, List.set_cons_succ]
        refine wpH_one (i := 6) (by kernel_rfl) rfl (fun K hK => ?_)
        go_simp
        refine hK.out _ _ (hS) (fun hS' => ?_)
        clear hK K hS
        have hS := hS'
        clear hS'
        try simp only [Act.put, List.getElem_toArray, List.getElem_cons_zero, List.getElem_cons_succ, List.setIfInBounds_toArray, List.set_cons_zero, List.set_cons_succ]
        refine wpH_one (i := 7) (by kernel_rfl) rfl (fun K hK => ?_)
        go_simp
        refine hK.out _ _ (hS) (fun hS' => ?_)
        clear hK K hS
        have hS := hS'
        clear hS'
        try simp only [Act.put, List.getElem_toArray, List.getElem_cons_zero, List.getElem_cons_succ, List.setIfInBounds_toArray, List.set_cons_zero, List.set_cons_succ]
        refine wpH_one (i := 10) (by kernel_rfl) rfl (fun K hK => ?_)
        go_simp
        refine hK.out _ _ (hS) (fun hS' => ?_)
        clear hK K hS
        have hS := hS'
        clear hS'
        try simp only [Act.put, List.getElem_toArray, List.getElem_cons_zero, List.getElem_cons_succ, List.setIfInBounds_toArray, List.set_cons_zero, List.set_cons_succ]
        refine wpH_one (i := 11) (by kernel_rfl) rfl (fun K hK => ?_)
        go_simp
        refine hK.out _ _ (hS) (fun hS' => ?_)
        clear hK K hS
        have hS := hS'
        clear hS'
        try simp only [Act.put, List.getElem_toArray, List.getElem_cons_zero, List.getElem_cons_succ, List.setIfInBounds_toArray, List.set_cons_zero, List.set_cons_succ]
        refine wpH_one (i := 12) (by kernel_rfl) rfl (fun K hK => ?_)
        go_simp
        refine hK.out _ _ (hS) (fun hS' => ?_)
        clear hK K hS
        have hS := hS'
        clear hS'
        try simp only [Act.put, List.getElem_toArray, List.getElem_cons_zero, List.getElem_cons_succ, List.setIfInBounds_toArray, List.set_cons_zero, List.set_cons_succ]
        refine wpAnyH_done (by kernel_rfl) ?_ _
        have HFy := Lib.hid hS
        have HOy := Lib.hid (HOx.out.no hS)
        have e0 := hS.cell' HE0.out (fun h => h)
        have e1 := hS.cell' HE1.out (fun h => h)
        have hzy := hS.size
        have HTt : Hid (keepB L ((x : Int), (y : Int)) = !t) := Lib.hid (by rw [ht.out]; rfl)
        have HFz := Lib.hid (HFx.out.trans hS)
        have hzx := HFx.out.size
        clear hS g1 g2 g3 g4 s0 hr1 hr2 ht hpv CW CA
        cases t
        · have HK : Hid ((L.take (q + 1)).filter (keepB L) = ys ++ [((x : Int), (y : Int))]) := Lib.hid (by rw [HTk.out, List.filter_append, ← HY.out]; simp [HTt.out])
          go_wp2_with (at_builtin; refine wpList_append_sl rfl _ _ 28 rfl wo.heap.size 36 Tryd.underlying28 hi hz hs hb rfl (by decide) rfl (World.ownsRow.alloc HOy.out _) rfl (SlV.lit _ 36 #[.int .i64 _, .int .i64 _] 2 1 rfl (by unfold maxLen; omega)) (ints_one [_, _]) (by unfold maxLen; omega) (by omega) (by simp; omega) ?_)
          intro v' w8 ho hfx _
          have HO8 : Hid (OwnE w8 wo.heap.size v' ((L.take (q + 1)).filter (keepB L))) := Lib.hid (by rw [HK.out]; exact OwnT.snoc ho)
          have HF8 : Hid (Fx No wo w8) := Lib.hid ((((HFq.out.trans HFz.out)).alloc _).trans' hfx fun g e hl => by have := (World.ownsRow.lt HOy.out g e).1; omega)
          clear ho hfx
          go_wp2
          go_roundw
          case rel => exact ⟨q + 1, by go_num, by omega, HF8.out, HO8.out⟩
          case measure => simp [intOf]; omega
        · have HK : Hid ((L.take (q + 1)).filter (keepB L) = ys) := Lib.hid (by rw [HTk.out, List.filter_append, ← HY.out]; simp [HTt.out])
          go_wp2
          go_roundw
          case rel => exact ⟨q + 1, by go_num, by omega, HFq.out.trans HFz.out, by rw [HK.out]; exact HOy.out⟩
          case measure => simp [intOf]; omega
      · have hqe : L.take q = L := by rw [show q = L.length by omega, List.take_length]
        have HO2 : Hid (OwnE wr wo.heap.size u3 (refLeastL L n)) := Lib.hid (by rw [HLe.out, ← hqe]; rw [hqe]; have := HO.out; rw [hqe] at this; exact this)
        have hzz : w.heap.size ≤ wo.heap.size := by omega
        have hd2 : decide ((q : Int) < (L.length : Int)) = false := decide_eq_false (by omega)
        have hd3 : decide (q < L.length) = false := decide_eq_false hql
        clear hqe hql
        go_wp2
        go_ret
        exact ⟨_, rfl, HF2.out.trans HFq.out, HO2.out.base hzz⟩
end
#print axioms refLeast_any
end Go.Proofs.YtfpggeiphbekoaaDoor
