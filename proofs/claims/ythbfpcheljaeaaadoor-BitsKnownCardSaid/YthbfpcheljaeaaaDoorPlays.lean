/- The law BitsPlays. -/
import Derived.Test.YthbfpcheljaeaaaDoorPlaysD
namespace Go.Proofs.YthbfpcheljaeaaaDoor
open Go.RowKit
set_option linter.unusedVariables false

def GreatX : Prop := ∃ X, addB 65536 0 65535 = true ∧ addX 65536 0 65535 = X ∧ addB 65536 X 65536 = false ∧ addX 65536 X 65536 = X ∧ (cntX 65536 X : Int) = 1
theorem greatX : GreatX := grt2 65536 65535 65535 65536 rfl rfl rfl
/-- a great size -/
theorem playsGreat {w : World} {n : Int} {u v : Value} {l : List Int} {D E : Nat → Prop} {xs : List ActM} (hl : IntsV w D u l) (hx : ActsV w E v xs) (hT : TabOk w) (h1 : 65536 < n) (h2 : l.length ≤ 40) :
    Calls Tryd.prog 5 #[.int .i64 n, u, v] w fun e w' => e = .returned (.bool true) ∧ Fx No w w' := by
  have HT := Lib.hid hT
  have HL := Lib.hid hl
  have HX := Lib.hid hx
  obtain ⟨uo, ucap, rfl, hul, _⟩ := hl.facts
  have HW := Lib.hid (works_any hT)
  clear hT hl hx
  have hn : newN n = 65536 := by unfold newN; omega
  have HN := Lib.hid hn
  have HGr : GreatX := greatX
  clear hn
  go_enter Tryd.func5, Tryd.ntmps5
  go_wp2_with fail
  refine (few_any HX.out).mono ?_
  rintro e w' ⟨⟨z, rfl, _⟩, rfl⟩
  cases z
  · go_wp2_with fail
    refine HW.out.mono ?_
    rintro e w' ⟨rfl, hf⟩
    go_wp2
    go_ret
    exact ⟨rfl, hf⟩
  · go_wp2_with fail
    refine (new_any n w).mono ?_
    rintro e w1 ⟨b, rfl, hf, hs⟩
    rw [HN.out] at hs
    have HF1 : Hid (Fx No w w1) := hf
    have HS1 : Hid (SetIn w1 (Up w) b 65536 0) := hs.up (Fx.refl No _)
    clear hf hs
    go_wp2_with fail
    refine (size_any HS1.out.p).mono ?_
    rintro e w' ⟨rfl, rfl⟩
    go_wp2_with fail
    refine (add_any HS1.out.p 65535).mono ?_
    rintro e w2 ⟨rfl, hf, hs⟩
    obtain ⟨X, hA, hB, hC, hD', hE⟩ := HGr
    rw [hB] at hs
    rw [hA]
    clear hA hB
    have VB : Hid (addB 65536 X 65536 = false) := Lib.hid hC
    have VY : Hid (addX 65536 X 65536 = X) := Lib.hid hD'
    have VC : Hid ((cntX 65536 X : Int) = 1) := Lib.hid hE
    clear hC hD' hE
    have HF2 : Hid (Fx No w w2) := HF1.out.up hf
    have HS2 : Hid (SetIn w2 (Up w) b 65536 X) := hs.in
    clear hf hs HS1 HF1
    go_wp2_with fail
    refine (add_any HS2.out.p 65536).mono ?_
    rintro e w3 ⟨rfl, hf, hs⟩
    rw [VY.out] at hs
    have HF3 : Hid (Fx No w w3) := HF2.out.up hf
    have HS3 : Hid (SetIn w3 (Up w) b 65536 X) := hs.in
    rw [VB.out]
    clear hf hs HS2 HF2
    go_wp2_with fail
    refine (lenV HS3.out.p VC.out).mono ?_
    rintro e w' ⟨rfl, rfl⟩
    go_wp2_with fail
    refine (works_any (HT.out.no HF3.out)).mono ?_
    rintro e w4 ⟨rfl, hf⟩
    have HF4 := Lib.hid (HF3.out.transNo hf)
    clear hf
    go_wp2
    go_ret
    exact ⟨rfl, HF4.out⟩

set_option maxRecDepth 100000 in
set_option maxHeartbeats 4000000 in
theorem playsSmall {w : World} {n : Int} {u v : Value} {l : List Int} {D E : Nat → Prop} {xs : List ActM} (hl : IntsV w D u l) (hx : ActsV w E v xs) (hT : TabOk w) (h1 : n ≤ 400) (h2 : l.length ≤ 40) :
    Calls Tryd.prog 5 #[.int .i64 n, u, v] w fun e w' => e = .returned (.bool true) ∧ Fx No w w' := by
  have HT := Lib.hid hT
  have HL := Lib.hid hl
  have HX := Lib.hid hx
  obtain ⟨uo, ucap, rfl, hul, _⟩ := hl.facts
  obtain ⟨vo, vcap, rfl, hvl, _⟩ := hx
  have HW := Lib.hid (works_any hT)
  have hg := hT.lt
  clear hT hl
  obtain ⟨N, hN⟩ : ∃ N, N = newN n := ⟨_, rfl⟩
  obtain ⟨X0, hX0⟩ : ∃ X, X = ofX N l := ⟨_, rfl⟩
  obtain ⟨len, hlen⟩ : ∃ k, k = xs.length := ⟨_, rfl⟩
  have HN := Lib.hid hN
  have HX0 := Lib.hid hX0
  have HLen := Lib.hid hlen
  rw [← hlen] at hvl ⊢
  have HX : Hid (ActsV w E (.slice vo len vcap) xs) := by rw [hlen]; exact HX
  clear hN hX0 hlen
  go_enter Tryd.func5, Tryd.ntmps5
  go_wp2_with fail
  refine (few_any HX.out).mono ?_
  rintro e w' ⟨⟨z, rfl, hz⟩, rfl⟩
  have HZ := Lib.hid hz
  clear hz
  cases z
  · go_wp2_with fail
    refine HW.out.mono ?_
    rintro e w' ⟨rfl, hf⟩
    go_wp2
    go_ret
    exact ⟨rfl, hf⟩
  · have HSm : Hid (∀ k, k < len → small (ga xs k)) := by rw [HLen.out]; exact (HZ.out rfl).2
    go_wp2_with fail
    refine (of_any n HL.out).mono ?_
    rintro e w1 ⟨b, rfl, hf, hs⟩
    rw [← HN.out] at hs
    rw [← HX0.out] at hs
    have HF1 : Hid (Fx No w w1) := hf
    have HS1 : Hid (SetIn w1 (Iv w.heap.size w1.heap.size) b N X0) := hs
    have hz1 := hf.size
    clear hf hs
    go_wp2_with fail
    refine (refOf_any n (HL.out.keep HF1.out No.disj)).mono ?_
    rintro e w2 ⟨rv, rfl, hf, hs⟩
    rw [← HN.out] at hs
    rw [← HX0.out] at hs
    obtain ⟨ro, rcap, rfl, _⟩ := hs.facts
    have HF2 : Hid (Fx No w w2) := HF1.out.trans hf
    have HS2 : Hid (SetIn w2 (Iv w.heap.size w1.heap.size) b N X0) := HS1.out.no hf
    have HR2 : Hid (IsR w2 (Iv w1.heap.size w2.heap.size) (.slice ro N rcap) N X0) := hs
    have hz2 := hf.size
    have HXF : Hid (∀ k, k < len → ∃ ba oa lv mv, vo = some ⟨ba, oa, none⟩ ∧ E ba ∧ ActAt w E ba (oa + k * 6) lv mv (ga xs k)) := by
      obtain ⟨a, c, h3, h4, h5⟩ := HX.out
      simp only [Value.slice.injEq] at h3
      obtain ⟨rfl, _, rfl⟩ := h3
      rw [HLen.out]; exact h5
    clear hf hs HF1 HS1
    obtain ⟨g0, hg0⟩ : ∃ g, g = w.heap.size := ⟨_, rfl⟩
    obtain ⟨g1, hg1⟩ : ∃ g, g = w1.heap.size := ⟨_, rfl⟩
    rw [← hg0, ← hg1] at HS2
    rw [← hg1] at HR2
    have HG0 := Lib.hid hg0
    rw [← hg0] at hg hz1
    rw [← hg1] at hz1 hz2
    clear hg0 hg1
    go_wp2
    go_loopw [10] (fun i wr => ∃ (k X : Nat) (so : Option Addr) (sc : Nat), i = .int .i64 k ∧ k ≤ len ∧ Fx No w wr ∧ w2.heap.size < wr.heap.size ∧ SetIn wr (Iv g0 g1) b N X ∧ wr.cell? ⟨w2.heap.size, 0, none⟩ = some (.slice so N sc) ∧ wr.frozen? ⟨w2.heap.size, 0, none⟩ = false ∧
      IsR wr (fun k => g1 ≤ k ∧ k ≠ w2.heap.size) (.slice so N sc) N X) (fun i _ => len - (intOf i).toNat)
    case atStart =>
      refine ⟨0, X0, ro, rcap, rfl, Nat.zero_le _, HF2.out.alloc _, by simp, HS2.out.no ((Fx.refl No _).alloc _), by simp, by simp, (HR2.out.no ((Fx.refl No _).alloc _)).mono fun k hk => ⟨hk.1, by have := hk.2; omega⟩⟩
    case round =>
      obtain ⟨k, X, so, sc, rfl, hk, hf, hzr, hs, c9, z9, hr⟩ := hrel
      have HF := Lib.hid hf
      have HS := Lib.hid hs
      have HR := Lib.hid hr
      clear hf hs hr
      by_cases hlt : k < len
      · have HSmk := Lib.hid (HSm.out k hlt)
        obtain ⟨ba, oa, lv, mv, rfl, hEa, ha⟩ := HXF.out k hlt
        have hbl := World.block_lt_of_cell? w _ ha.c0
        have hbg : ba < g0 := by rw [HG0.out]; exact hbl
        have HA := Lib.hid ha
        obtain ⟨a, haa⟩ : ∃ a, a = ga xs k := ⟨_, rfl⟩
        rw [← haa] at HA HSmk
        clear ha haa hbl hEa
        have r9 : ∀ w', Fx No wr w' → w'.cell? ⟨w2.heap.size, 0, none⟩ = some (.slice so N sc) := fun w' h => h.cell' c9 (fun h => h)
        have s0 : Fx No wr wr := Fx.refl _ _
        have CC : Hid (∀ w', Fx No wr w' → Calls Tryd.prog 26 #[.pointer (some ⟨b, 0, none⟩)] w' fun e w'' => ∃ c, e = .returned (.pointer (some ⟨c, 0, none⟩)) ∧ Fx No w' w'' ∧ Hid (SetIn w'' (Iv w'.heap.size w''.heap.size) c N X)) := fun w' h =>
          (copy_any (HS.out.no h)).mono (by rintro e w'' ⟨c, rfl, hf, hs⟩; exact ⟨c, rfl, hf, hs⟩)
        go_upto_region 10 with fail
        go_cut [11, 12] (P10 wr so sc N X)
        case first =>
          go_region_held3 (fun w' => Fx No wr w')
            (repeat (first
              | with_reducible exact s0
              | with_reducible exact hK1.out
              | with_reducible refine Fx.drew ?_
              | with_reducible refine Fx.alloc ?_ _
              | ((with_reducible refine Fx.setCell ?_ (.inl ?_) _); rotate_left; focus (first | omega | (simp; done) | (simp; omega)))))
            (first
              | (go_at_call 26; with_reducible refine (CC.out _ (by assumption)).mono ?_; rintro e w3 ⟨c, rfl, hfc, hsc⟩; have hK1 := Lib.hid (Fx.transNo (S := No) (w := wr) (by assumption) hfc); have hc1 := hfc.cells; have hl1 := hfc.lts; have hz1 := hfc.size; (try simp at hz1)))
          all_goals
            go_wp2_with fail
            go_meet
            go_light
            refine ⟨c, _, rfl, rfl, by assumption, ?_, ?_, ?_⟩
            · first
                | exact (hsc.out.no ((Fx.refl No _).alloc _)).mono fun j hj => by have h8 := hj.1; have h9 : wr.heap.size ≤ j := by simpa using h8
                                                                                  exact h9
                | exact (hsc.out.keep (Fx.put _ _ _ _) (by rintro j hj rfl; have h8 := hj.1; simp at h8; omega)).mono fun j hj => by have h8 := hj.1; simp at h8; unfold Up; omega
            · first
                | (simp; done)
                | (refine World.cell?_setCell_same _ _ _ (u := .slice none 0 0) ?_; simp [go_sem, *]; done)
            · first | omega | (simp; omega) | (simp; done)
        case rest =>
          obtain ⟨c, A, rfl, rfl, hf, hsc, cA, hA⟩ := hcut
          have HFc := Lib.hid (HF.out.trans hf)
          have HFr := Lib.hid hf
          have HSc := Lib.hid (HS.out.no hf)
          have HCc : Hid (SetIn wc (Up wr) c N X) := hsc
          have HRc := Lib.hid (HR.out.no hf)
          have HTc := Lib.hid (HT.out.no HFc.out)
          have hzc := hf.size
          have b9 := hf.cell' c9 (fun h => h)
          have zb9 := (hf.cellF c9 z9 (fun h => h)).2
          have HAc : Hid (ActAt wc E ba (oa + k * 6) lv mv a ∧ ¬ Iv g0 g1 ba) := ⟨⟨HFc.out.cell' HA.out.c0 (fun h => h), HFc.out.cell' HA.out.c1 (fun h => h), HFc.out.cell' HA.out.c2 (fun h => h), HFc.out.cell' HA.out.c3 (fun h => h), HFc.out.cell' HA.out.c4 (fun h => h), HFc.out.cell' HA.out.c5 (fun h => h),
            HA.out.l.keep HFc.out No.disj, HA.out.m.keep HFc.out No.disj, HA.out.lo⟩, fun h => by have := h.1; omega⟩
          clear hf hsc r9 s0 CC c9 z9
          have n9 : ¬ Iv g0 g1 w2.heap.size := fun h => by have := h.2; omega
          have nc : ¬ Iv g0 g1 wc.heap.size := fun h => by have := h.2; omega
          have N9 := Lib.hid n9
          have NC := Lib.hid nc
          have HBg : Hid (∀ k, Iv g0 g1 k → k < wc.heap.size) := fun k h => by have := h.2; omega
          obtain ⟨d, ai, si, al, am, own⟩ := a
          have HActs := HAc.out.1
          have q0 : ∀ w', Fx (Iv g0 g1) wc w' → w'.cell? ⟨ba, oa + k * 6, none⟩ = some (.int .i64 d) := fun w' h => h.cell' HActs.c0 HAc.out.2
          have q1 : ∀ w', Fx (Iv g0 g1) wc w' → w'.cell? ⟨ba, oa + k * 6 + 1, none⟩ = some (.int .i64 ai) := fun w' h => h.cell' HActs.c1 HAc.out.2
          have q2 : ∀ w', Fx (Iv g0 g1) wc w' → w'.cell? ⟨ba, oa + k * 6 + 2, none⟩ = some (.int .i64 si) := fun w' h => h.cell' HActs.c2 HAc.out.2
          have q3 : ∀ w', Fx (Iv g0 g1) wc w' → w'.cell? ⟨ba, oa + k * 6 + 3, none⟩ = some lv := fun w' h => h.cell' HActs.c3 HAc.out.2
          have q4 : ∀ w', Fx (Iv g0 g1) wc w' → w'.cell? ⟨ba, oa + k * 6 + 4, none⟩ = some mv := fun w' h => h.cell' HActs.c4 HAc.out.2
          have q5 : ∀ w', Fx (Iv g0 g1) wc w' → w'.cell? ⟨ba, oa + k * 6 + 5, none⟩ = some (.bool own) := fun w' h => h.cell' HActs.c5 HAc.out.2
          have r9 : ∀ w', Fx (Iv g0 g1) wc w' → w'.cell? ⟨w2.heap.size, 0, none⟩ = some (.slice so N sc) := fun w' h => h.cell' b9 N9.out
          have s0 : Fx (Iv g0 g1) wc wc := Fx.refl _ _
          have hk0 : (0 : Int) ≤ (k : Int) := by omega
          have hk1 : (k : Int) < (len : Int) := by omega
          obtain ⟨Y, hY⟩ : ∃ Y, Y = actX N X ⟨d, ai, si, al, am, own⟩ := ⟨_, rfl⟩
          have CD : Hid (∀ w', Fx No wc w' → Calls Tryd.prog 28 #[.pointer (some ⟨b, 0, none⟩), .agg #[.slice so N sc], .agg #[.int .i64 d, .int .i64 ai, .int .i64 si, lv, mv, .bool own]] w' fun e w'' =>
              ∃ yo yc, e = .returned (.tuple #[.agg #[.slice yo N yc], .bool true]) ∧ Fx (Iv g0 g1) w' w'' ∧ Hid (SetIn w'' (Iv g0 g1) b N Y) ∧ Hid (IsR w'' (DU (fun k => (g1 ≤ k ∧ k ≠ w2.heap.size) ∧ k < wc.heap.size) w' w'') (.slice yo N yc) N Y)) := fun w' h => by
            refine (does1_any ⟨d, ai, si, al, am, own⟩ (HSc.out.no h) (fun k hk => Nat.lt_of_lt_of_le (HBg.out k hk) h.size) (HRc.out.bound.no h) (fun k hk hd => by have h1 := hk.1.1; have h2 := hd.2; omega) (fun k hk => Nat.lt_of_lt_of_le hk.2 h.size)
              (HActs.l.keep h No.disj) (HActs.m.keep h No.disj) (HTc.out.no h) (fun hd => by have h1 := hd.1; omega) HSmk.out.2.2 HActs.lo).mono ?_
            rintro e w'' ⟨v, rfl, hf, hs, hr⟩
            rw [← hY] at hs hr
            obtain ⟨yo, yc, rfl, _⟩ := hr.facts
            exact ⟨yo, yc, rfl, hf, hs, hr⟩
          clear hY n9 HActs
          rename World => wd
          go_upto_region 11 with fail
          go_cut [13, 14] (P11 wd g0 g1 b N Y w2.heap.size)
          case first =>
            go_region_held3 (fun w' => Fx (Iv g0 g1) wd w')
              (repeat (first
                | with_reducible exact s0
                | with_reducible exact hK1.out
                | with_reducible refine Fx.drew ?_
                | with_reducible refine Fx.alloc ?_ _
                | ((with_reducible refine Fx.setCell ?_ (.inl ?_) _); rotate_left; focus (first | omega | (simp; done) | (simp; omega)))))
              (first
                | (go_at_call 28; with_reducible refine (CD.out _ (Fx.refl No wd).drew).mono ?_; rintro e w3 ⟨yo, yc, rfl, hfd, hsd, hrd⟩; have hK1 := Lib.hid (Fx.trans (S := Iv g0 g1) (w := wd) (by assumption) hfd); have hc1 := hfd.cellsS wd.heap.size NC.out; have hz3 := hfd.size; (try simp at hz3); (try have hl3 : wd.heap.size < w3.heap.size := by omega))
                | (go_at_call 28; with_reducible refine (CD.out _ (Fx.drew (Fx.alloc (Fx.refl No wd) _))).mono ?_; rintro e w3 ⟨yo, yc, rfl, hfd, hsd, hrd⟩; have hK1 := Lib.hid (Fx.trans (S := Iv g0 g1) (w := wd) (by assumption) hfd); have hc1 := hfd.cellsS wd.heap.size NC.out; have hz3 := hfd.size; (try simp at hz3); (try have hl3 : wd.heap.size < w3.heap.size := by omega)))
            all_goals
              go_wp2_with fail
              go_meet
              go_light
              refine ⟨_, yo, yc, rfl, rfl, by assumption, ?_, ?_, ?_, ?_⟩
              · first
                  | exact hsd.out.no ((Fx.refl No _).alloc _)
                  | exact hsd.out.keep (Fx.put _ _ _ _) (by rintro j hj rfl; exact NC.out hj)
              · first
                  | (simp; done)
                  | (refine World.cell?_setCell_same _ _ _ (u := .slice none 0 0) ?_; simp [go_sem, *]; done)
              · omega
              · first
                  | exact (hrd.out.no ((Fx.refl No _).alloc _)).mono fun j hj => by
                      rcases hj with hj | hj
                      · exact hj.1
                      · have h8 := hj.1; simp at h8; exact ⟨by omega, by omega⟩
                  | exact (hrd.out.keep (Fx.put _ _ _ _) (by
                      rintro j (hj | hj) rfl
                      · have := hj.2; omega
                      · have h8 := hj.1; simp at h8; omega)).mono fun j hj => by
                      rcases hj with hj | hj
                      · exact hj.1
                      · have h8 := hj.1; simp at h8; exact ⟨by omega, by omega⟩
          case rest =>
            obtain ⟨B, yo, yc, rfl, rfl, hf, hsd, c13, hne, hrd⟩ := hcut
            have b9' := hf.cell' b9 N9.out
            have zb9' := (hf.cellF b9 zb9 N9.out).2
            have hAI : ¬ Iv g0 g1 A := fun h => by have := h.2; omega
            have cA' := hf.cell' cA hAI
            have HCd := Lib.hid (HCc.out.keep hf (fun j hj h => by have h1 := h.2; unfold Up at hj; omega))
            have HWd := Lib.hid (HRc.out.keep hf (fun j hj h => by have h1 := h.2; have h2 := hj.1; omega))
            have HTd := Lib.hid (HTc.out.keep hf (fun hd => by have h1 := hd.1; omega))
            have HFd := Lib.hid (HFc.out.trans' hf (fun j hj hl => by have h1 := hj.1; rw [HG0.out] at h1; omega))
            have HSd := Lib.hid hsd
            have HRd := Lib.hid hrd
            have hzd := hf.size
            have hw2 := HF2.out.size
            clear hf hsd hrd q0 q1 q2 q3 q4 q5 r9 s0 CD b9 zb9 cA hAI nc
            go_upto_region 13 with fail
            generalize hwe : wc.setCell ⟨w2.heap.size, 0, none⟩ (Value.slice yo N yc) = we
            have hput : Fx (fun k => k = w2.heap.size) wc we := by rw [← hwe]; exact Fx.put _ _ _ _
            have e9 : we.cell? ⟨w2.heap.size, 0, none⟩ = some (.slice yo N yc) := by rw [← hwe]; exact World.cell?_setCell_same _ _ _ b9'
            have y9 : we.frozen? ⟨w2.heap.size, 0, none⟩ = false := by rw [← hwe, World.frozen?_setCell]; exact zb9'
            have eA := hput.cell' cA' (by simp; omega)
            have HSe := Lib.hid (HSd.out.keep hput (by rintro j hj rfl; exact N9.out hj))
            have HCe := Lib.hid (HCd.out.keep hput (by rintro j hj rfl; unfold Up at hj; omega))
            have HRe := Lib.hid (HRd.out.keep hput (by rintro j hj rfl; exact hj.2 rfl))
            have HWe := Lib.hid (HWd.out.keep hput (by rintro j hj rfl; exact hj.2 rfl))
            have HTe := Lib.hid (HTd.out.keep hput (by intro h; omega))
            have HFe := Lib.hid (HFd.out.trans' hput (by rintro j rfl hl; omega))
            have hze := hput.size
            have r9 : ∀ w', Fx No we w' → w'.cell? ⟨w2.heap.size, 0, none⟩ = some (.slice yo N yc) := fun w' h => h.cell' e9 (fun h => h)
            have rA : ∀ w', Fx No we w' → w'.cell? ⟨A, 0, none⟩ = some (.slice so N sc) := fun w' h => h.cell' eA (fun h => h)
            have s0 : Fx No we we := Fx.refl _ _
            obtain ⟨sb, hsb⟩ : ∃ sb, sb = sameB N Y N X := ⟨_, rfl⟩
            have CI : Hid (∀ w', Fx No we w' → Calls Tryd.prog 29 #[.pointer (some ⟨b, 0, none⟩), .agg #[.slice yo N yc]] w' fun e w'' => e = .returned (.bool true) ∧ Fx No w' w'') := fun w' h =>
              is_any (HSe.out.no h).p (HRe.out.no h) (HTe.out.no h)
            have CI2 : Hid (∀ w', Fx No we w' → Calls Tryd.prog 29 #[.pointer (some ⟨c, 0, none⟩), .agg #[.slice so N sc]] w' fun e w'' => e = .returned (.bool true) ∧ Fx No w' w'') := fun w' h =>
              is_any (HCe.out.no h).p (HWe.out.no h) (HTe.out.no h)
            have CS : Hid (∀ w', Fx No we w' → Calls Tryd.prog 11 #[.pointer (some ⟨b, 0, none⟩), .pointer (some ⟨c, 0, none⟩)] w' fun e w'' => e = .returned (.bool sb) ∧ Fx No w' w'') := fun w' h =>
              (same_any (HSe.out.no h).p (HCe.out.no h).p).mono (by rintro e w'' ⟨rfl, rfl⟩; exact ⟨by rw [hsb], Fx.refl _ _⟩)
            have CR : Hid (∀ w', Fx No we w' → Calls Tryd.prog 12 #[.agg #[.slice yo N yc], .agg #[.slice so N sc]] w' fun e w'' => e = .returned (.bool sb) ∧ Fx No w' w'') := fun w' h =>
              (refSame_any (HRe.out.no h) (HWe.out.no h)).mono (by rintro e w'' ⟨rfl, hf⟩; exact ⟨by rw [hsb], hf⟩)
            clear hsb hput hwe b9' zb9' cA' c13
            go_region_held3 (fun w' => Fx No we w')
              (first
                | exact s0.drew
                | exact Fx.transNo (by assumption) hfi)
              (first
                | (go_at_call 29; with_reducible refine (CI.out _ (by assumption)).mono ?_; rintro e w' ⟨rfl, hfi⟩)
                | (go_at_call 29; with_reducible refine (CI2.out _ (by assumption)).mono ?_; rintro e w' ⟨rfl, hfi⟩)
                | (go_at_call 11; with_reducible refine (CS.out _ (by assumption)).mono ?_; rintro e w' ⟨rfl, hfi⟩)
                | (go_at_call 12; with_reducible refine (CR.out _ (by assumption)).mono ?_; rintro e w' ⟨rfl, hfi⟩))
            all_goals
              have HK : Hid (Fx No we w') := by assumption
              clear r9 rA s0
              go_wp2
              go_roundw
              case rel =>
                have hzk := HK.out.size
                exact ⟨k + 1, Y, yo, yc, by go_num, by omega, HFe.out.transNo HK.out, by omega, HSe.out.no HK.out, HK.out.cell' e9 (fun h => h), (HK.out.cellF e9 y9 (fun h => h)).2, HRe.out.no HK.out⟩
              case measure => simp [intOf]; omega
      · have HTr := Lib.hid (HT.out.no HF.out)
        obtain rfl : k = len := by omega
        go_wp2_with fail
        refine (is_any HS.out.p HR.out HTr.out).mono ?_
        rintro e w3 ⟨rfl, hf⟩
        have HF3 := Lib.hid (HF.out.transNo hf)
        clear hf
        go_wp2_with fail
        refine (new_any n w3).mono ?_
        rintro e w4 ⟨q, rfl, hf, hs⟩
        have HF4 := Lib.hid (HF3.out.transNo hf)
        have HS4 := Lib.hid hs
        clear hf hs
        go_wp2_with fail
        refine (refNew_any n w4).mono ?_
        rintro e w5 ⟨v, rfl, hf, ho⟩
        have HF5 := Lib.hid (HF4.out.transNo hf)
        have HS5 := Lib.hid (HS4.out.no hf)
        have HR5 := Lib.hid ho.isR
        clear hf ho
        go_wp2_with fail
        refine (is_any HS5.out.p HR5.out (HT.out.no HF5.out)).mono ?_
        rintro e w6 ⟨rfl, hf⟩
        have HF6 := Lib.hid (HF5.out.transNo hf)
        clear hf
        go_wp2_with fail
        refine (works_any (HT.out.no HF6.out)).mono ?_
        rintro e w7 ⟨rfl, hf⟩
        have HF7 := Lib.hid (HF6.out.transNo hf)
        clear hf
        go_wp2
        go_ret
        exact ⟨rfl, HF7.out⟩

theorem plays_any {w : World} {D E : Nat → Prop} {u v : Value} {l : List Int} {xs : List ActM} (n : Int) (hl : IntsV w D u l) (hx : ActsV w E v xs) (hT : TabOk w) :
    Calls Tryd.prog 5 #[.int .i64 n, u, v] w fun e w' => e = .returned (.bool true) ∧ Fx No w w' := by
  by_cases hw : (400 < n ∧ n ≤ 65536) ∨ (65536 < n ∧ 40 < l.length) ∨ (n ≤ 400 ∧ 40 < l.length)
  · have HW := Lib.hid (works_any hT)
    obtain ⟨uo, ucap, rfl, hul, _⟩ := hl.facts
    clear hl hx hT
    rcases hw with ⟨h1, h2⟩ | ⟨h1, h2⟩ | ⟨h1, h2⟩
    all_goals
      go_enter Tryd.func5, Tryd.ntmps5
      go_wp2_with fail
      refine HW.out.mono ?_
      rintro e w' ⟨rfl, hf⟩
      go_wp2
      go_ret
      exact ⟨rfl, hf⟩
  · by_cases h1 : 65536 < n
    · exact playsGreat hl hx hT h1 (by omega)
    · exact playsSmall hl hx hT (by omega) (by omega)
#print axioms plays_any
end Go.Proofs.YthbfpcheljaeaaaDoor
