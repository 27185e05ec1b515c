/- The law CycleWalks. -/
import Derived.Test.YtgacknphjeiojaaGreatM13

namespace Go.Proofs.YtgacknphjeiojaaGreat
open Go.RowKit
set_option linter.unusedVariables false

theorem lit_at {W : World} {k : Nat} (e : TypeId) (cs : Array Value) (size n : Nat) (hk : k = W.heap.size) (h : cs.size = n * size) (hn : n ≤ maxLen) : SlV (W.alloc (.cells cs e)) (fun _ => True) (.slice (some ⟨k, 0, none⟩) n n) size n cs.toList := by
  subst hk
  exact SlV.lit W e cs size n h hn
theorem row_mem {L : List Ed} {n : Nat} {m : Int} {x : Ed} (h : x ∈ rowI (outE L) n m) : x ∈ L := by
  unfold rowI at h
  split at h
  · unfold outE at h
    exact (List.mem_filter.1 h).1
  · simp at h
section
variable {w w' : World} {E E2 : Nat → Prop} {l wk : List Ed} {v u : Value}
set_option maxRecDepth 100000 in
set_option maxHeartbeats 8000000 in
theorem walks_any (n : Int) (h : EdsV w E v l) (hok : ∀ x ∈ l, x.ok) (h2 : EdsV w E2 u wk) (hok2 : ∀ x ∈ wk, x.ok) (pick : Int) : Calls Tryz.prog 4 #[.int .i64 n, v, u, .int .i64 pick] w fun e w' => e = .returned (.bool true) ∧ Fx No w w' := by
  obtain ⟨iie, hie, hze, hse, hbe⟩ := info_edge'
  have HE := Lib.hid h
  have HOk := Lib.hid hok
  have HOk2 := Lib.hid hok2
  obtain ⟨ao, cap, rfl, hcl, hcm, _⟩ := EdsV.facts h
  obtain ⟨uo, ucap, rfl, hul, hum, huc⟩ := EdsV.facts h2
  have HU := Lib.hid huc
  clear h hok h2 hok2 huc
  by_cases h1 : 40 < l.length
  · have d1 : decide ((40 : Int) < (l.length : Int)) = true := decide_eq_true (by omega)
    go_enter Tryz.func4, Tryz.ntmps4
    go_wp2_with fail
    refine (works_any _).mono ?_
    rintro e w1 ⟨rfl, hf⟩
    have HF := Lib.hid hf
    clear hf
    go_wp2
    go_ret
    exact ⟨rfl, HF.out⟩
  · have d1 : decide ((40 : Int) < (l.length : Int)) = false := decide_eq_false (by omega)
    have hl40 : l.length ≤ 40 := by omega
    clear h1
    by_cases h1 : 20 < wk.length
    · have d2 : decide ((20 : Int) < (wk.length : Int)) = true := decide_eq_true (by omega)
      go_enter Tryz.func4, Tryz.ntmps4
      go_wp2_with fail
      refine (works_any _).mono ?_
      rintro e w1 ⟨rfl, hf⟩
      have HF := Lib.hid hf
      clear hf
      go_wp2
      go_ret
      exact ⟨rfl, HF.out⟩
    · have d2 : decide ((20 : Int) < (wk.length : Int)) = false := decide_eq_false (by omega)
      have hw20 : wk.length ≤ 20 := by omega
      clear h1
      go_enter Tryz.func4, Tryz.ntmps4
      go_wp2_with fail
      refine (drawn_any HE.out HOk.out (by omega) n 12 (by omega)).mono ?_
      rintro e w1 ⟨gb, N, L, rv, D, R, rfl, hD, hN, hL⟩
      obtain ⟨ro, rc, rfl, _⟩ := EdsV.facts hD.row
      have HD1 := Lib.hid hD
      have hL40 : L.length ≤ 40 := by omega
      clear hD
      go_wp2_with fail
      refine calls_hold (fun W => Fx No w1 W ∧ W.cell? ⟨w1.heap.size, 0, none⟩ = some (.int .i64 (N : Nat)) ∧ W.cell? ⟨w1.heap.size, 1, none⟩ = some (.slice ro L.length rc)) ⟨(Fx.refl No _).alloc (.cells #[.int .i64 (N : Nat), .slice ro L.length rc] 34), by go_simp, by go_simp⟩ ?_
      rintro wa ⟨hfx, r0, r1⟩
      obtain ⟨rb, hrb⟩ : ∃ q, q = w1.heap.size := ⟨_, rfl⟩
      rw [← hrb] at r0 r1 ⊢
      refine (gEdges_any (HD1.out.g.no hfx)).mono ?_
      rintro e wx ⟨av, rfl, hf, ha⟩
      obtain ⟨alo, alc, rfl, _⟩ := EdsV.facts (OwnT.row ha)
      have hfx := hfx.trans hf
      have HGx := Lib.hid (HD1.out.g.no hfx)
      have HRx := Lib.hid (RowV.no HD1.out.row hfx)
      have HAx := Lib.hid (OwnT.row ha)
      have HLk := Lib.hid HGx.out.ok
      have HR0 := Lib.hid (hf.cell' r0 (fun q => q))
      have HR1 := Lib.hid (hf.cell' r1 (fun q => q))
      have HFx := Lib.hid (HD1.out.fx.trans hfx)
      clear r0 r1 hrb hfx HD1 hf ha
      go_wp2
      go_loopw [11, 13] (fun o i ws => ∃ (k : Nat) (X : List Ed), i = .int .i64 k ∧ k ≤ wk.length ∧ Fx No wx ws ∧ OwnT 25 e3 3 ws wx.heap.size o X ∧ X.length = k ∧ Hid (∀ x ∈ X, x.ok)) (fun _ i _ => wk.length - (intOf i).toNat)
      case atStart => exact ⟨0, [], rfl, Nat.zero_le _, Fx.refl _ _, OwnT.nil _ _, rfl, Lib.hid (by simp)⟩
      case round =>
        obtain ⟨k, X, rfl, hk, hf, ho, hXk, HXok⟩ := hrel
        obtain ⟨wo, hwo⟩ : ∃ x, x = wr := ⟨_, rfl⟩
        subst hwo
        obtain ⟨vo, vc, rfl, _, _, hvc⟩ := EdsV.facts (OwnT.row ho)
        have HF := Lib.hid hf
        have HO := Lib.hid ho
        have HVc := Lib.hid hvc
        have HG := Lib.hid (HGx.out.no hf)
        have HA := Lib.hid (RowV.no HAx.out hf)
        have hzo := hf.size
        have HXk := Lib.hid hXk
        have hXl : X.length ≤ 20 := by omega
        clear hf ho hvc hXk
        by_cases hlt : k < wk.length
        · obtain ⟨bb, oo, rfl, _, p0, p1, p2⟩ := HU.out k hlt
          have HYok := Lib.hid (HOk2.out _ (gt_mem hlt))
          obtain ⟨y, hy⟩ : ∃ y, y = gt wk k := ⟨_, rfl⟩
          rw [← hy] at p0 p1 p2 HYok
          obtain ⟨yf, yt, yl⟩ := y
          simp only at p0 p1 p2
          have p0 := (HFx.out.trans HF.out).cell' p0 (fun q => q)
          have p1 := (HFx.out.trans HF.out).cell' p1 (fun q => q)
          have p2 := (HFx.out.trans HF.out).cell' p2 (fun q => q)
          have hk0 : (0 : Int) ≤ (k : Int) := by omega
          have hk1 : (k : Int) < (wk.length : Int) := by omega
          clear hy
          by_cases hp : 0 < pick
          · have d3 : decide ((0 : Int) < pick) = true := decide_eq_true hp
            by_cases hL0 : 0 < L.length
            · have d4 : decide ((0 : Int) < (L.length : Int)) = true := decide_eq_true (by omega)
              go_wp2_with fail
              refine (pick_any _ L.length hL0 (by omega) _).mono ?_
              rintro e wq ⟨c, hc, rfl, rfl⟩
              obtain ⟨alo', alc', he9, _, _, ha9⟩ := EdsV.facts (RowV.no HA.out ((Fx.refl No wo).alloc (.cells #[.int .i64 yf, .int .i64 yt, .int .i64 yl] 25)))
              simp only [Value.slice.injEq, true_and] at he9
              obtain ⟨rfl, rfl⟩ := he9
              obtain ⟨ab, aoff, rfl, _, a0, a1, a2⟩ := ha9 c hc
              have HXo1 := Lib.hid (HLk.out _ (gt_mem hc))
              obtain ⟨x, hx⟩ : ∃ x, x = gt L c := ⟨_, rfl⟩
              rw [← hx] at a0 a1 a2 HXo1
              obtain ⟨xf, xt, xl⟩ := x
              simp only at a0 a1 a2
              have hc0 : (0 : Int) ≤ (c : Int) := by omega
              have hc1 : (c : Int) < (L.length : Int) := by omega
              clear hx ha9
              go_wp2_with fail
              refine calls_hold (fun W => Fx No wo W ∧ (W.cell? ⟨wo.heap.size, 0, none⟩ = some (.int .i64 xf) ∧ W.cell? ⟨wo.heap.size, 1, none⟩ = some (.int .i64 xt) ∧ W.cell? ⟨wo.heap.size, 2, none⟩ = some (.int .i64 xl)) ∧ (W.frozen? ⟨wo.heap.size, 0, none⟩ = false ∧ W.frozen? ⟨wo.heap.size, 1, none⟩ = false ∧ W.frozen? ⟨wo.heap.size, 2, none⟩ = false)) ⟨by repeat (first | exact Fx.refl _ _ | apply Fx.alloc | refine Fx.setCell ?_ (.inl (Nat.le_refl _)) _), ⟨by go_simp, by go_simp, by go_simp⟩, ⟨by go_simp, by go_simp, by go_simp⟩⟩ ?_
              rintro wb ⟨hfb, ⟨c0, c1, c2⟩, ⟨z0, z1, z2⟩⟩
              clear a0 a1 a2 p0 p1 p2
              have HFb := Lib.hid (HF.out.trans hfb)
              have HOb := Lib.hid (OwnT.no HO.out hfb)
              have HVb := Lib.hid hfb
              have HCb := Lib.hid (And.intro c0 (And.intro c1 c2))
              have HZb := Lib.hid (And.intro z0 (And.intro z1 z2))
              refine (gOut_any (HG.out.no hfb) _).mono ?_
              clear c0 c1 c2 z0 z1 z2 hfb
              rintro e wc ⟨ov, rfl, hf, hr⟩
              have HFw := Lib.hid (HFb.out.trans hf)
              have HFo := Lib.hid (HVb.out.trans hf)
              have HOw := Lib.hid (OwnT.no HOb.out hf)
              have hROk : ∀ x ∈ rowI (outE L) N xf, x.ok := fun x hx => HLk.out x (row_mem hx)
              have hRl : (rowI (outE L) N xf).length ≤ 1000000 := rowI_len (by omega)
              have q0 := hf.cellF HCb.out.1 HZb.out.1 (fun q => q)
              have q1 := hf.cellF HCb.out.2.1 HZb.out.2.1 (fun q => q)
              have q2 := hf.cellF HCb.out.2.2 HZb.out.2.2 (fun q => q)
              obtain ⟨c0, z0⟩ := q0
              obtain ⟨c1, z1⟩ := q1
              obtain ⟨c2, z2⟩ := q2
              obtain ⟨rr, hrr⟩ : ∃ x, x = rowI (outE L) N xf := ⟨_, rfl⟩
              rw [← hrr] at hr hROk hRl
              obtain ⟨rro, rrc, rfl, _, _, hrw⟩ := EdsV.facts (OwnT.row hr)
              have HRw := Lib.hid hrw
              have HROk := Lib.hid hROk
              clear hf hr hROk hrw hrr
              by_cases hX0 : 0 < X.length
              · have dX : decide ((0 : Int) < (X.length : Int)) = true := decide_eq_true (by omega)
                obtain ⟨bv, ov2, rfl, _, t0, t1, t2⟩ := HVc.out (X.length - 1) (by omega)
                have t1 := HFo.out.cell' t1 (fun q => q)
                obtain ⟨lt, hlt2⟩ : ∃ x, x = (gt X (X.length - 1)).t := ⟨_, rfl⟩
                rw [← hlt2] at t1
                obtain ⟨j, hj⟩ : ∃ j, j = X.length - 1 := ⟨_, rfl⟩
                rw [← hj] at t1
                have hw1 : IntKind.i64.wrap ((X.length : Int) - 1) = (j : Int) := by rw [IntKind.wrap_i64]; omega
                have hj0 : (0 : Int) ≤ (j : Int) := by omega
                have hj1 : (j : Int) < (X.length : Int) := by omega
                clear hj
                have HCc := Lib.hid (And.intro c0 (And.intro c1 c2))
                have HZc := Lib.hid (And.intro z0 (And.intro z1 z2))
                clear t0 t2 hlt2 c0 c1 c2 z0 z1 z2 HRw HROk hRl
                go_wp2_with fail
                refine (gOut_any ((HG.out.no HFo.out)) _).mono ?_
                clear t1 hw1 hj0 hj1
                rintro e wd ⟨ov3, rfl, hf, hr⟩
                have HFw := Lib.hid (HFw.out.trans hf)
                have HOw := Lib.hid (OwnT.no HOw.out hf)
                have hROk : ∀ x ∈ rowI (outE L) N lt, x.ok := fun x hx => HLk.out x (row_mem hx)
                have hRl : (rowI (outE L) N lt).length ≤ 1000000 := rowI_len (by omega)
                have q0 := hf.cellF HCc.out.1 HZc.out.1 (fun q => q)
                have q1 := hf.cellF HCc.out.2.1 HZc.out.2.1 (fun q => q)
                have q2 := hf.cellF HCc.out.2.2 HZc.out.2.2 (fun q => q)
                obtain ⟨c0, z0⟩ := q0
                obtain ⟨c1, z1⟩ := q1
                obtain ⟨c2, z2⟩ := q2
                obtain ⟨rs, hrs⟩ : ∃ x, x = rowI (outE L) N lt := ⟨_, rfl⟩
                rw [← hrs] at hr hROk hRl
                obtain ⟨rso, rsc, rfl, _, _, hrw⟩ := EdsV.facts (OwnT.row hr)
                have HRw := Lib.hid hrw
                have HROk := Lib.hid hROk
                clear hf hr hROk hrw hrs
                have hzW : wx.heap.size ≤ wd.heap.size := HFw.out.size
                by_cases hR0 : 0 < rs.length
                · have dR : decide ((0 : Int) < (rs.length : Int)) = true := decide_eq_true (by omega)
                  by_cases hp2 : 1 < pick
                  · have dp2 : decide ((1 : Int) < pick) = true := decide_eq_true hp2
                    go_wp2_with fail
                    refine (pick_any _ rs.length hR0 (by omega) _).mono ?_
                    rintro e wq ⟨c2, hc2, rfl, rfl⟩
                    obtain ⟨b2, o2, rfl, _, s0, s1, s2⟩ := HRw.out c2 hc2
                    have HSok := Lib.hid (HROk.out _ (gt_mem hc2))
                    obtain ⟨s, hs⟩ : ∃ s, s = gt rs c2 := ⟨_, rfl⟩
                    rw [← hs] at s0 s1 s2 HSok
                    obtain ⟨sf, st, sl⟩ := s
                    simp only at s0 s1 s2
                    have hc20 : (0 : Int) ≤ (c2 : Int) := by omega
                    have hc21 : (c2 : Int) < (rs.length : Int) := by omega
                    clear hs
                    have hfs : Fx (fun j => j = wo.heap.size) wd (((wd.setCell ⟨wo.heap.size, 0, none⟩ (.int .i64 sf)).setCell ⟨wo.heap.size, 1, none⟩ (.int .i64 st)).setCell ⟨wo.heap.size, 2, none⟩ (.int .i64 sl)) := ((Fx.put wd wo.heap.size 0 (.int .i64 sf)).trans (Fx.put _ wo.heap.size 1 (.int .i64 st))).trans (Fx.put _ wo.heap.size 2 (.int .i64 sl))
                    have HOs : Hid (OwnT 25 e3 3 (((wd.setCell ⟨wo.heap.size, 0, none⟩ (.int .i64 sf)).setCell ⟨wo.heap.size, 1, none⟩ (.int .i64 st)).setCell ⟨wo.heap.size, 2, none⟩ (.int .i64 sl)) wx.heap.size (.slice (some ⟨bv, ov2, none⟩) X.length vc) X) := Lib.hid (OwnT.fx HOw.out hfs fun j hj e => by have h1 := (OwnT.lt HO.out hj).2; have h2 : j = wo.heap.size := e; omega)
                    have HFs : Hid (Fx No wx (((wd.setCell ⟨wo.heap.size, 0, none⟩ (.int .i64 sf)).setCell ⟨wo.heap.size, 1, none⟩ (.int .i64 st)).setCell ⟨wo.heap.size, 2, none⟩ (.int .i64 sl))) := Lib.hid (HFw.out.trans' hfs fun j h1 h2 => by have h3 : j = wo.heap.size := h1; omega)
                    have HLs : Hid (SlV ((((wd.setCell ⟨wo.heap.size, 0, none⟩ (.int .i64 sf)).setCell ⟨wo.heap.size, 1, none⟩ (.int .i64 st)).setCell ⟨wo.heap.size, 2, none⟩ (.int .i64 sl)).alloc (.cells #[.int .i64 sf, .int .i64 st, .int .i64 sl] 25)) (fun _ => True) (.slice (some ⟨wd.heap.size, 0, none⟩) 1 1) 3 1 [.int .i64 sf, .int .i64 st, .int .i64 sl]) := Lib.hid (lit_at 25 #[.int .i64 sf, .int .i64 st, .int .i64 sl] 3 1 (by simp only [World.size_setCell]) rfl (by unfold maxLen; omega))
                    clear hfs
                    go_wp2_with (at_builtin; refine wpList_append_sl rfl _ _ 22 rfl wx.heap.size 25 Tryz.underlying22 hie hze hse hbe rfl (by decide) rfl (World.ownsRow.alloc (HOs.out) _) rfl HLs.out (ints_one [_, _, _]) (by unfold maxLen; omega) (by omega) (by simp; omega) ?_)
                    intro v2 w2 ho hf _
                    have HO2 : Hid (OwnT 25 e3 3 w2 wx.heap.size v2 (X ++ [⟨sf, st, sl⟩])) := Lib.hid (OwnT.snoc ho)
                    have HF2 : Hid (Fx No wx w2) := Lib.hid (((HFs.out).alloc _).trans' hf fun j h1 h2 => by have := (OwnT.lt HO.out h1).1; omega)
                    clear ho hf
                    go_wp2
                    go_roundw
                    case rel => exact ⟨k + 1, _, by go_num, by omega, HF2.out, HO2.out, by have := HXk.out; simp; omega, Lib.hid (by intro x hx; rcases List.mem_append.1 hx with hx | hx; (exact HXok.out x hx); (rw [List.mem_singleton] at hx; subst hx; exact HSok.out))⟩
                    case measure => simp [intOf]; omega
                  · have dp2 : decide ((1 : Int) < pick) = false := decide_eq_false hp2
                    go_wp2_with (at_builtin; refine wpList_append_sl rfl _ _ 22 rfl wx.heap.size 25 Tryz.underlying22 hie hze hse hbe rfl (by decide) rfl (World.ownsRow.alloc (HOw.out) _) rfl (lit_at 25 #[.int .i64 xf, .int .i64 xt, .int .i64 xl] 3 1 (by simp) rfl (by unfold maxLen; omega)) (ints_one [_, _, _]) (by unfold maxLen; omega) (by omega) (by simp; omega) ?_)
                    intro v2 w2 ho hf _
                    have HO2 : Hid (OwnT 25 e3 3 w2 wx.heap.size v2 (X ++ [⟨xf, xt, xl⟩])) := Lib.hid (OwnT.snoc ho)
                    have HF2 : Hid (Fx No wx w2) := Lib.hid (((HFw.out).alloc _).trans' hf fun j h1 h2 => by have := (OwnT.lt HO.out h1).1; omega)
                    clear ho hf
                    go_wp2
                    go_roundw
                    case rel => exact ⟨k + 1, _, by go_num, by omega, HF2.out, HO2.out, by have := HXk.out; simp; omega, Lib.hid (by intro x hx; rcases List.mem_append.1 hx with hx | hx; (exact HXok.out x hx); (rw [List.mem_singleton] at hx; subst hx; exact HXo1.out))⟩
                    case measure => simp [intOf]; omega
                · have dR : decide ((0 : Int) < (rs.length : Int)) = false := decide_eq_false (by omega)
                  go_wp2_with (at_builtin; refine wpList_append_sl rfl _ _ 22 rfl wx.heap.size 25 Tryz.underlying22 hie hze hse hbe rfl (by decide) rfl (World.ownsRow.alloc (HOw.out) _) rfl (lit_at 25 #[.int .i64 xf, .int .i64 xt, .int .i64 xl] 3 1 (by simp) rfl (by unfold maxLen; omega)) (ints_one [_, _, _]) (by unfold maxLen; omega) (by omega) (by simp; omega) ?_)
                  intro v2 w2 ho hf _
                  have HO2 : Hid (OwnT 25 e3 3 w2 wx.heap.size v2 (X ++ [⟨xf, xt, xl⟩])) := Lib.hid (OwnT.snoc ho)
                  have HF2 : Hid (Fx No wx w2) := Lib.hid (((HFw.out).alloc _).trans' hf fun j h1 h2 => by have := (OwnT.lt HO.out h1).1; omega)
                  clear ho hf
                  go_wp2
                  go_roundw
                  case rel => exact ⟨k + 1, _, by go_num, by omega, HF2.out, HO2.out, by have := HXk.out; simp; omega, Lib.hid (by intro x hx; rcases List.mem_append.1 hx with hx | hx; (exact HXok.out x hx); (rw [List.mem_singleton] at hx; subst hx; exact HXo1.out))⟩
                  case measure => simp [intOf]; omega
              · have dX : decide ((0 : Int) < (X.length : Int)) = false := decide_eq_false (by omega)
                have hzW : wx.heap.size ≤ wc.heap.size := HFw.out.size
                by_cases hR0 : 0 < rr.length
                · have dR : decide ((0 : Int) < (rr.length : Int)) = true := decide_eq_true (by omega)
                  by_cases hp2 : 1 < pick
                  · have dp2 : decide ((1 : Int) < pick) = true := decide_eq_true hp2
                    go_wp2_with fail
                    refine (pick_any _ rr.length hR0 (by omega) _).mono ?_
                    rintro e wq ⟨c2, hc2, rfl, rfl⟩
                    obtain ⟨b2, o2, rfl, _, s0, s1, s2⟩ := HRw.out c2 hc2
                    have HSok := Lib.hid (HROk.out _ (gt_mem hc2))
                    obtain ⟨s, hs⟩ : ∃ s, s = gt rr c2 := ⟨_, rfl⟩
                    rw [← hs] at s0 s1 s2 HSok
                    obtain ⟨sf, st, sl⟩ := s
                    simp only at s0 s1 s2
                    have hc20 : (0 : Int) ≤ (c2 : Int) := by omega
                    have hc21 : (c2 : Int) < (rr.length : Int) := by omega
                    clear hs
                    have hfs : Fx (fun j => j = wo.heap.size) wc (((wc.setCell ⟨wo.heap.size, 0, none⟩ (.int .i64 sf)).setCell ⟨wo.heap.size, 1, none⟩ (.int .i64 st)).setCell ⟨wo.heap.size, 2, none⟩ (.int .i64 sl)) := ((Fx.put wc wo.heap.size 0 (.int .i64 sf)).trans (Fx.put _ wo.heap.size 1 (.int .i64 st))).trans (Fx.put _ wo.heap.size 2 (.int .i64 sl))
                    have HOs : Hid (OwnT 25 e3 3 (((wc.setCell ⟨wo.heap.size, 0, none⟩ (.int .i64 sf)).setCell ⟨wo.heap.size, 1, none⟩ (.int .i64 st)).setCell ⟨wo.heap.size, 2, none⟩ (.int .i64 sl)) wx.heap.size (.slice vo X.length vc) X) := Lib.hid (OwnT.fx HOw.out hfs fun j hj e => by have h1 := (OwnT.lt HO.out hj).2; have h2 : j = wo.heap.size := e; omega)
                    have HFs : Hid (Fx No wx (((wc.setCell ⟨wo.heap.size, 0, none⟩ (.int .i64 sf)).setCell ⟨wo.heap.size, 1, none⟩ (.int .i64 st)).setCell ⟨wo.heap.size, 2, none⟩ (.int .i64 sl))) := Lib.hid (HFw.out.trans' hfs fun j h1 h2 => by have h3 : j = wo.heap.size := h1; omega)
                    have HLs : Hid (SlV ((((wc.setCell ⟨wo.heap.size, 0, none⟩ (.int .i64 sf)).setCell ⟨wo.heap.size, 1, none⟩ (.int .i64 st)).setCell ⟨wo.heap.size, 2, none⟩ (.int .i64 sl)).alloc (.cells #[.int .i64 sf, .int .i64 st, .int .i64 sl] 25)) (fun _ => True) (.slice (some ⟨wc.heap.size, 0, none⟩) 1 1) 3 1 [.int .i64 sf, .int .i64 st, .int .i64 sl]) := Lib.hid (lit_at 25 #[.int .i64 sf, .int .i64 st, .int .i64 sl] 3 1 (by simp only [World.size_setCell]) rfl (by unfold maxLen; omega))
                    clear hfs
                    go_wp2_with (at_builtin; refine wpList_append_sl rfl _ _ 22 rfl wx.heap.size 25 Tryz.underlying22 hie hze hse hbe rfl (by decide) rfl (World.ownsRow.alloc (HOs.out) _) rfl HLs.out (ints_one [_, _, _]) (by unfold maxLen; omega) (by omega) (by simp; omega) ?_)
                    intro v2 w2 ho hf _
                    have HO2 : Hid (OwnT 25 e3 3 w2 wx.heap.size v2 (X ++ [⟨sf, st, sl⟩])) := Lib.hid (OwnT.snoc ho)
                    have HF2 : Hid (Fx No wx w2) := Lib.hid (((HFs.out).alloc _).trans' hf fun j h1 h2 => by have := (OwnT.lt HO.out h1).1; omega)
                    clear ho hf
                    go_wp2
                    go_roundw
                    case rel => exact ⟨k + 1, _, by go_num, by omega, HF2.out, HO2.out, by have := HXk.out; simp; omega, Lib.hid (by intro x hx; rcases List.mem_append.1 hx with hx | hx; (exact HXok.out x hx); (rw [List.mem_singleton] at hx; subst hx; exact HSok.out))⟩
                    case measure => simp [intOf]; omega
                  · have dp2 : decide ((1 : Int) < pick) = false := decide_eq_false hp2
                    go_wp2_with (at_builtin; refine wpList_append_sl rfl _ _ 22 rfl wx.heap.size 25 Tryz.underlying22 hie hze hse hbe rfl (by decide) rfl (World.ownsRow.alloc (HOw.out) _) rfl (lit_at 25 #[.int .i64 xf, .int .i64 xt, .int .i64 xl] 3 1 (by simp) rfl (by unfold maxLen; omega)) (ints_one [_, _, _]) (by unfold maxLen; omega) (by omega) (by simp; omega) ?_)
                    intro v2 w2 ho hf _
                    have HO2 : Hid (OwnT 25 e3 3 w2 wx.heap.size v2 (X ++ [⟨xf, xt, xl⟩])) := Lib.hid (OwnT.snoc ho)
                    have HF2 : Hid (Fx No wx w2) := Lib.hid (((HFw.out).alloc _).trans' hf fun j h1 h2 => by have := (OwnT.lt HO.out h1).1; omega)
                    clear ho hf
                    go_wp2
                    go_roundw
                    case rel => exact ⟨k + 1, _, by go_num, by omega, HF2.out, HO2.out, by have := HXk.out; simp; omega, Lib.hid (by intro x hx; rcases List.mem_append.1 hx with hx | hx; (exact HXok.out x hx); (rw [List.mem_singleton] at hx; subst hx; exact HXo1.out))⟩
                    case measure => simp [intOf]; omega
                · have dR : decide ((0 : Int) < (rr.length : Int)) = false := decide_eq_false (by omega)
                  go_wp2_with (at_builtin; refine wpList_append_sl rfl _ _ 22 rfl wx.heap.size 25 Tryz.underlying22 hie hze hse hbe rfl (by decide) rfl (World.ownsRow.alloc (HOw.out) _) rfl (lit_at 25 #[.int .i64 xf, .int .i64 xt, .int .i64 xl] 3 1 (by simp) rfl (by unfold maxLen; omega)) (ints_one [_, _, _]) (by unfold maxLen; omega) (by omega) (by simp; omega) ?_)
                  intro v2 w2 ho hf _
                  have HO2 : Hid (OwnT 25 e3 3 w2 wx.heap.size v2 (X ++ [⟨xf, xt, xl⟩])) := Lib.hid (OwnT.snoc ho)
                  have HF2 : Hid (Fx No wx w2) := Lib.hid (((HFw.out).alloc _).trans' hf fun j h1 h2 => by have := (OwnT.lt HO.out h1).1; omega)
                  clear ho hf
                  go_wp2
                  go_roundw
                  case rel => exact ⟨k + 1, _, by go_num, by omega, HF2.out, HO2.out, by have := HXk.out; simp; omega, Lib.hid (by intro x hx; rcases List.mem_append.1 hx with hx | hx; (exact HXok.out x hx); (rw [List.mem_singleton] at hx; subst hx; exact HXo1.out))⟩
                  case measure => simp [intOf]; omega
            · have d4 : decide ((0 : Int) < (L.length : Int)) = false := decide_eq_false (by omega)
              go_wp2_with (at_builtin; refine wpList_append_sl rfl _ _ 22 rfl wx.heap.size 25 Tryz.underlying22 hie hze hse hbe rfl (by decide) rfl (World.ownsRow.alloc (World.ownsRow.alloc HO.out (.cells #[.int .i64 yf, .int .i64 yt, .int .i64 yl] 25)) _) rfl (lit_at 25 #[.int .i64 yf, .int .i64 yt, .int .i64 yl] 3 1 (by simp) rfl (by unfold maxLen; omega)) (ints_one [_, _, _]) (by unfold maxLen; omega) (by omega) (by simp; omega) ?_)
              intro v2 w2 ho hf _
              have HO2 : Hid (OwnT 25 e3 3 w2 wx.heap.size v2 (X ++ [⟨yf, yt, yl⟩])) := Lib.hid (OwnT.snoc ho)
              have HF2 : Hid (Fx No wx w2) := Lib.hid (((HF.out.alloc (.cells #[.int .i64 yf, .int .i64 yt, .int .i64 yl] 25)).alloc _).trans' hf fun j h1 h2 => by have := (OwnT.lt HO.out h1).1; omega)
              clear ho hf
              go_wp2
              go_roundw
              case rel => exact ⟨k + 1, _, by go_num, by omega, HF2.out, HO2.out, by have := HXk.out; simp; omega, Lib.hid (by intro x hx; rcases List.mem_append.1 hx with hx | hx; (exact HXok.out x hx); (rw [List.mem_singleton] at hx; subst hx; exact HYok.out))⟩
              case measure => simp [intOf]; omega
          · have d3 : decide ((0 : Int) < pick) = false := decide_eq_false hp
            go_wp2_with (at_builtin; refine wpList_append_sl rfl _ _ 22 rfl wx.heap.size 25 Tryz.underlying22 hie hze hse hbe rfl (by decide) rfl (World.ownsRow.alloc (World.ownsRow.alloc HO.out (.cells #[.int .i64 yf, .int .i64 yt, .int .i64 yl] 25)) _) rfl (lit_at 25 #[.int .i64 yf, .int .i64 yt, .int .i64 yl] 3 1 (by simp) rfl (by unfold maxLen; omega)) (ints_one [_, _, _]) (by unfold maxLen; omega) (by omega) (by simp; omega) ?_)
            intro v2 w2 ho hf _
            have HO2 : Hid (OwnT 25 e3 3 w2 wx.heap.size v2 (X ++ [⟨yf, yt, yl⟩])) := Lib.hid (OwnT.snoc ho)
            have HF2 : Hid (Fx No wx w2) := Lib.hid (((HF.out.alloc (.cells #[.int .i64 yf, .int .i64 yt, .int .i64 yl] 25)).alloc _).trans' hf fun j h1 h2 => by have := (OwnT.lt HO.out h1).1; omega)
            clear ho hf
            go_wp2
            go_roundw
            case rel => exact ⟨k + 1, _, by go_num, by omega, HF2.out, HO2.out, by have := HXk.out; simp; omega, Lib.hid (by intro x hx; rcases List.mem_append.1 hx with hx | hx; (exact HXok.out x hx); (rw [List.mem_singleton] at hx; subst hx; exact HYok.out))⟩
            case measure => simp [intOf]; omega
        · obtain rfl : k = wk.length := by omega
          go_wp2_with fail
          refine (docEdges_any (OwnT.row HO.out) (by omega)).mono ?_
          rintro e we ⟨xv, rfl, hf, hx⟩
          obtain ⟨xo, xc, rfl, _⟩ := EdsV.facts (OwnT.row hx)
          have HFe := Lib.hid (HF.out.trans hf)
          have HXw := Lib.hid (RowV.no (OwnT.row HO.out) hf)
          have HXr := Lib.hid (OwnT.row hx)
          have HGe := Lib.hid (HGx.out.no HFe.out)
          have HRe := Lib.hid (RowV.no HRx.out HFe.out)
          obtain ⟨tO, htO⟩ : ∃ t, t = X.all fun x => decide (x ∈ L) := ⟨_, rfl⟩
          have HTO := Lib.hid htO
          have CS : Hid (∀ W v1 E1, Fx No we W → EdsV W E1 v1 L → Calls Tryz.prog 25 #[.agg #[.int .i64 (N : Nat), v1], .agg #[.int .i64 (N : Nat), .slice ro L.length rc]] W fun e w' => e = .returned (.bool true) ∧ Fx No W w') := Lib.hid fun W v1 E1 h1 h2 => (refSame_any h2 (RowV.no HRe.out h1) (N : Int) (N : Int)).mono fun e w' ⟨h1, h2⟩ => ⟨by rw [h1, decide_eq_true ⟨rfl, rfl⟩], h2⟩
          have CI : Hid (∀ W a1 b1 E1 E2 xs, IntsV W E1 a1 xs → IntsV W E2 b1 xs → Calls Tryz.prog 21 #[a1, b1] W fun e w' => e = .returned (.bool true) ∧ Fx No W w') := Lib.hid fun W a1 b1 E1 E2 xs h1 h2 => (sameInts_any h1 h2).mono fun e w' ⟨h1, h2⟩ => ⟨by rw [h1]; simp, h2⟩
          have CEd : Hid (∀ W a1 b1 E1 E2 xs, EdsV W E1 a1 xs → EdsV W E2 b1 xs → Calls Tryz.prog 24 #[a1, b1] W fun e w' => e = .returned (.bool true) ∧ Fx No W w') := Lib.hid fun W a1 b1 E1 E2 xs h1 h2 => (sameEdges_any h1 h2).mono fun e w' ⟨h1, h2⟩ => ⟨by rw [h1, decide_eq_true rfl], h2⟩
          have COf : Hid (∀ W, Fx No we W → Calls Tryz.prog 16 #[.agg #[.int .i64 (N : Nat), .slice ro L.length rc], .slice xo X.length xc] W fun e w' => e = .returned (.bool tO) ∧ Fx No W w') := Lib.hid fun W hW => (refOf_any (N := N) (RowV.no HRe.out hW) (RowV.no HXr.out hW) (by omega)).mono fun e w' ⟨h1, h2⟩ => ⟨by rw [h1, HTO.out], h2⟩
          have q0 : ∀ W, Fx No we W → W.cell? ⟨rb, 0, none⟩ = some (.int .i64 (N : Nat)) := fun W h => (HFe.out.trans h).cell' HR0.out (fun q => q)
          have q1 : ∀ W, Fx No we W → W.cell? ⟨rb, 1, none⟩ = some (.slice ro L.length rc) := fun W h => (HFe.out.trans h).cell' HR1.out (fun q => q)
          clear hf hx htO
          cases hC : chainB X with
          | false =>
            have hR : roundB X = false := by
              cases h : roundB X with
              | false => rfl
              | true => have := (round_chain h).2; rw [hC] at this; cases this
            have HW : Hid (walkB (fun x => decide (x ∈ L)) X = false) := Lib.hid (by unfold walkB; rw [hC]; simp)
            have HCl : Hid (closedB (fun x => decide (x ∈ L)) X = false) := Lib.hid (by unfold closedB; rw [hR, HW.out]; simp)
            have CW : Hid (∀ W, Fx No we W → Calls Tryz.prog 14 #[.pointer (some ⟨gb, 0, none⟩), .slice vo X.length vc] W fun e w' => e = .returned (.bool false) ∧ Fx No W w') := Lib.hid fun W hW => (walk_any (RowV.no HXw.out hW) (HasP.graph (HGe.out.no hW) HXok.out)).mono fun e w' ⟨h1, h2⟩ => ⟨by rw [h1, HW.out], h2⟩
            have CC : Hid (∀ W, Fx No we W → Calls Tryz.prog 17 #[.pointer (some ⟨gb, 0, none⟩), .slice vo X.length vc] W fun e w' => e = .returned (.bool false) ∧ Fx No W w') := Lib.hid fun W hW => (closed_any (RowV.no HXw.out hW) (HasP.graph (HGe.out.no hW) HXok.out)).mono fun e w' ⟨h1, h2⟩ => ⟨by rw [h1, HCl.out], h2⟩
            have CRW : Hid (∀ W, Fx No we W → Calls Tryz.prog 15 #[.slice xo X.length xc] W fun e w' => e = .returned (.bool false) ∧ Fx No W w') := Lib.hid fun W hW => (refWalkE_any (RowV.no HXr.out hW)).mono fun e w' ⟨h1, h2⟩ => ⟨by rw [h1, hC], h2⟩
            have CRC : Hid (∀ W, Fx No we W → Calls Tryz.prog 18 #[.slice xo X.length xc] W fun e w' => e = .returned (.bool false) ∧ Fx No W w') := Lib.hid fun W hW => (refClosed_any (RowV.no HXr.out hW)).mono fun e w' ⟨h1, h2⟩ => ⟨by rw [h1, hR], h2⟩
            have CSi : Hid (∀ W, Fx No we W → Calls Tryz.prog 19 #[.slice vo X.length vc] W fun e w' => e = .returned (.bool false) ∧ Fx No W w') := Lib.hid fun W hW => (simple_any (RowV.no HXw.out hW) (by omega)).mono fun e w' ⟨h1, h2⟩ => ⟨by rw [h1, hR]; simp, h2⟩
            have CRS : Hid (∀ W, Fx No we W → Calls Tryz.prog 20 #[.slice xo X.length xc] W fun e w' => e = .returned (.bool false) ∧ Fx No W w') := Lib.hid fun W hW => (refSimple_any (RowV.no HXr.out hW) (by omega)).mono fun e w' ⟨h1, h2⟩ => ⟨by rw [h1, hR]; simp, h2⟩
            clear hC hR HW HCl
            go_wp2
            refine wp_region_H (fun W => Fx No we W) (by kernel_rfl) ((Fx.refl _ _).drew) ?_
            intro hS
            refine wpAnyH_hold (fun W' => Fx No we W') hS ?_
            clear hS
            rintro y0 hS
            have hS0 := hS
            refine wpAnyH_take (i := 0) (v := ?_) rfl (by kernel_rfl) (by kernel_rfl) (by kernel_rfl) (fun _ _ _ h => h) (Or.inl ⟨by rfl, ?_⟩) hS ?_
            rotate_left
            · (intro W hs; go_simp; first | done | with_reducible rfl)
            try simp only [Act.put, List.getElem_toArray, List.getElem_cons_zero, List.setIfInBounds_toArray, List.set_cons_zero, List.set_cons_succ]
            refine wpAnyH_take (i := 1) (v := ?_) rfl (by kernel_rfl) (by kernel_rfl) (by kernel_rfl) (fun _ _ _ h => h) (Or.inl ⟨by rfl, ?_⟩) hS ?_
            rotate_left
            · (intro W hs; go_simp; first | done | with_reducible rfl)
            try simp only [Act.put, List.getElem_toArray, List.getElem_cons_zero, List.getElem_cons_succ, List.setIfInBounds_toArray, List.set_cons_zero, List.set_cons_succ]
            refine wpAnyH_take (i := 3) (v := ?_) rfl (by kernel_rfl) (by kernel_rfl) (by kernel_rfl) (fun _ _ _ h => h) (Or.inl ⟨by rfl, ?_⟩) hS ?_
            rotate_left
            · (intro W hs; go_simp; first | done | with_reducible rfl)
            try simp only [Act.put, List.getElem_toArray, List.getElem_cons_zero, List.getElem_cons_succ, List.setIfInBounds_toArray, List.set_cons_zero, List.set_cons_succ]
            refine wpH_one (i := 2) (by kernel_rfl) rfl (fun K hK => ?_)
            go_simp
            refine (CW.out _ hS).mono ?_
            rintro e y1 ⟨rfl, hfi⟩
            have HZy1 : Hid (y0.heap.size ≤ y1.heap.size) := Lib.hid hfi.size
            have HSy1 : Hid (Fx No y0 y1) := Lib.hid hfi
            refine hK.out _ _ (hS.trans hfi) (fun hS' => ?_)
            clear hK K hS hfi 
            have hS := hS'
            clear hS'
            try simp only [Act.put, List.getElem_toArray, List.getElem_cons_zero, List.getElem_cons_succ, List.setIfInBounds_toArray, List.set_cons_zero, List.set_cons_succ]
            refine wpH_one (i := 4) (by kernel_rfl) rfl (fun K hK => ?_)
            go_simp
            refine (CRW.out _ hS).mono ?_
            rintro e y2 ⟨rfl, hfi⟩
            have HZy2 : Hid (y1.heap.size ≤ y2.heap.size) := Lib.hid hfi.size
            have HSy2 : Hid (Fx No y1 y2) := Lib.hid hfi
            refine hK.out _ _ (hS.trans hfi) (fun hS' => ?_)
            clear hK K hS hfi 
            have hS := hS'
            clear hS'
            try simp only [Act.put, List.getElem_toArray, List.getElem_cons_zero, List.getElem_cons_succ, List.setIfInBounds_toArray, List.set_cons_zero, List.set_cons_succ]
            refine wpAnyH_take (i := 5) (v := ?_) rfl (by kernel_rfl) (by kernel_rfl) (by kernel_rfl) (fun _ _ _ h => h) (Or.inl ⟨by rfl, ?_⟩) hS ?_
            rotate_left
            · (intro W hs; go_simp; first | done | with_reducible rfl)
            try simp only [Act.put, List.getElem_toArray, List.getElem_cons_zero, List.getElem_cons_succ, List.setIfInBounds_toArray, List.set_cons_zero, List.set_cons_succ]
            refine wpAnyH_take (i := 6) (v := undef) rfl (by kernel_rfl) (by kernel_rfl) (by kernel_rfl) (fun _ _ _ h => h) (Or.inr ⟨by rfl, rfl⟩) hS ?_
            try simp only [Act.put, List.getElem_toArray, List.getElem_cons_zero, List.getElem_cons_succ, List.setIfInBounds_toArray, List.set_cons_zero, List.set_cons_succ]
            refine wpAnyH_take (i := 7) (v := undef) rfl (by kernel_rfl) (by kernel_rfl) (by kernel_rfl) (fun _ _ _ h => h) (Or.inr ⟨by rfl, rfl⟩) hS ?_
            try simp only [Act.put, List.getElem_toArray, List.getElem_cons_zero, List.getElem_cons_succ, List.setIfInBounds_toArray, List.set_cons_zero, List.set_cons_succ]
            refine wpAnyH_take (i := 8) (v := undef) rfl (by kernel_rfl) (by kernel_rfl) (by kernel_rfl) (fun _ _ _ h => h) (Or.inr ⟨by rfl, rfl⟩) hS ?_
            try simp only [Act.put, List.getElem_toArray, List.getElem_cons_zero, List.getElem_cons_succ, List.setIfInBounds_toArray, List.set_cons_zero, List.set_cons_succ]
            refine wpAnyH_take (i := 9) (v := ?_) rfl (by kernel_rfl) (by kernel_rfl) (by kernel_rfl) (fun _ _ _ h => h) (Or.inl ⟨by rfl, ?_⟩) hS ?_
            rotate_left
            · (intro W hs; go_simp; first | done | with_reducible rfl)
            try simp only [Act.put, List.getElem_toArray, List.getElem_cons_zero, List.getElem_cons_succ, List.setIfInBounds_toArray, List.set_cons_zero, List.set_cons_succ]
            refine wpAnyH_take (i := 10) (v := ?_) rfl (by kernel_rfl) (by kernel_rfl) (by kernel_rfl) (fun _ _ _ h => h) (Or.inl ⟨by rfl, ?_⟩) hS ?_
            rotate_left
            · (intro W hs; go_simp; first | done | with_reducible rfl)
            try simp only [Act.put, List.getElem_toArray, List.getElem_cons_zero, List.getElem_cons_succ, List.setIfInBounds_toArray, List.set_cons_zero, List.set_cons_succ]
            refine wpAnyH_take (i := 11) (v := ?_) rfl (by kernel_rfl) (by kernel_rfl) (by kernel_rfl) (fun _ _ _ h => h) (Or.inl ⟨by rfl, ?_⟩) hS ?_
            rotate_left
            · (intro W hs; go_simp; first | done | with_reducible rfl)
            try simp only [Act.put, List.getElem_toArray, List.getElem_cons_zero, List.getElem_cons_succ, List.setIfInBounds_toArray, List.set_cons_zero, List.set_cons_succ]
            refine wpAnyH_take (i := 12) (v := ?_) rfl (by kernel_rfl) (by kernel_rfl) (by kernel_rfl) (fun _ _ _ h => h) (Or.inl ⟨by rfl, ?_⟩) hS ?_
            rotate_left
            · (intro W hs; go_simp; first | done | with_reducible rfl)
            try simp only [Act.put, List.getElem_toArray, List.getElem_cons_zero, List.getElem_cons_succ, List.setIfInBounds_toArray, List.set_cons_zero, List.set_cons_succ]
            refine wpAnyH_take (i := 13) (v := ?_) rfl (by kernel_rfl) (by kernel_rfl) (by kernel_rfl) (fun _ _ _ h => h) (Or.inl ⟨by rfl, ?_⟩) hS ?_
            rotate_left
            · (intro W hs; go_simp; first | done | with_reducible rfl)
            try simp only [Act.put, List.getElem_toArray, List.getElem_cons_zero, List.getElem_cons_succ, List.setIfInBounds_toArray, List.set_cons_zero, List.set_cons_succ]
            refine wpAnyH_take (i := 15) (v := ?_) rfl (by kernel_rfl) (by kernel_rfl) (by kernel_rfl) (fun _ _ _ h => h) (Or.inl ⟨by rfl, ?_⟩) hS ?_
            rotate_left
            · (intro W hs; go_simp; first | done | with_reducible rfl)
            try simp only [Act.put, List.getElem_toArray, List.getElem_cons_zero, List.getElem_cons_succ, List.setIfInBounds_toArray, List.set_cons_zero, List.set_cons_succ]
            refine wpH_one (i := 14) (by kernel_rfl) rfl (fun K hK => ?_)
            go_simp
            refine (CC.out _ hS).mono ?_
            rintro e y3 ⟨rfl, hfi⟩
            have HZy3 : Hid (y2.heap.size ≤ y3.heap.size) := Lib.hid hfi.size
            have HSy3 : Hid (Fx No y2 y3) := Lib.hid hfi
            refine hK.out _ _ (hS.trans hfi) (fun hS' => ?_)
            clear hK K hS hfi 
            have hS := hS'
            clear hS'
            try simp only [Act.put, List.getElem_toArray, List.getElem_cons_zero, List.getElem_cons_succ, List.setIfInBounds_toArray, List.set_cons_zero, List.set_cons_succ]
            refine wpH_one (i := 16) (by kernel_rfl) rfl (fun K hK => ?_)
            go_simp
            refine (CRC.out _ hS).mono ?_
            rintro e y4 ⟨rfl, hfi⟩
            have HZy4 : Hid (y3.heap.size ≤ y4.heap.size) := Lib.hid hfi.size
            have HSy4 : Hid (Fx No y3 y4) := Lib.hid hfi
            refine hK.out _ _ (hS.trans hfi) (fun hS' => ?_)
            clear hK K hS hfi 
            have hS := hS'
            clear hS'
            try simp only [Act.put, List.getElem_toArray, List.getElem_cons_zero, List.getElem_cons_succ, List.setIfInBounds_toArray, List.set_cons_zero, List.set_cons_succ]
            refine wpAnyH_take (i := 17) (v := ?_) rfl (by kernel_rfl) (by kernel_rfl) (by kernel_rfl) (fun _ _ _ h => h) (Or.inl ⟨by rfl, ?_⟩) hS ?_
            rotate_left
            · (intro W hs; go_simp; first | done | with_reducible rfl)
            try simp only [Act.put, List.getElem_toArray, List.getElem_cons_zero, List.getElem_cons_succ, List.setIfInBounds_toArray, List.set_cons_zero, List.set_cons_succ]
            refine wpAnyH_take (i := 18) (v := undef) rfl (by kernel_rfl) (by kernel_rfl) (by kernel_rfl) (fun _ _ _ h => h) (Or.inr ⟨by rfl, rfl⟩) hS ?_
            try simp only [Act.put, List.getElem_toArray, List.getElem_cons_zero, List.getElem_cons_succ, List.setIfInBounds_toArray, List.set_cons_zero, List.set_cons_succ]
            refine wpAnyH_take (i := 19) (v := undef) rfl (by kernel_rfl) (by kernel_rfl) (by kernel_rfl) (fun _ _ _ h => h) (Or.inr ⟨by rfl, rfl⟩) hS ?_
            try simp only [Act.put, List.getElem_toArray, List.getElem_cons_zero, List.getElem_cons_succ, List.setIfInBounds_toArray, List.set_cons_zero, List.set_cons_succ]
            refine wpAnyH_take (i := 20) (v := undef) rfl (by kernel_rfl) (by kernel_rfl) (by kernel_rfl) (fun _ _ _ h => h) (Or.inr ⟨by rfl, rfl⟩) hS ?_
            try simp only [Act.put, List.getElem_toArray, List.getElem_cons_zero, List.getElem_cons_succ, List.setIfInBounds_toArray, List.set_cons_zero, List.set_cons_succ]
            refine wpAnyH_take (i := 21) (v := ?_) rfl (by kernel_rfl) (by kernel_rfl) (by kernel_rfl) (fun _ _ _ h => h) (Or.inl ⟨by rfl, ?_⟩) hS ?_
            rotate_left
            · (intro W hs; go_simp; first | done | with_reducible rfl)
            try simp only [Act.put, List.getElem_toArray, List.getElem_cons_zero, List.getElem_cons_succ, List.setIfInBounds_toArray, List.set_cons_zero, List.set_cons_succ]
            refine wpAnyH_take (i := 22) (v := ?_) rfl (by kernel_rfl) (by kernel_rfl) (by kernel_rfl) (fun _ _ _ h => h) (Or.inl ⟨by rfl, ?_⟩) hS ?_
            rotate_left
            · (intro W hs; go_simp; first | done | with_reducible rfl)
            try simp only [Act.put, List.getElem_toArray, List.getElem_cons_zero, List.getElem_cons_succ, List.setIfInBounds_toArray, List.set_cons_zero, List.set_cons_succ]
            refine wpAnyH_take (i := 23) (v := ?_) rfl (by kernel_rfl) (by kernel_rfl) (by kernel_rfl) (fun _ _ _ h => h) (Or.inl ⟨by rfl, ?_⟩) hS ?_
            rotate_left
            · (intro W hs; go_simp; first | done | with_reducible rfl)
            try simp only [Act.put, List.getElem_toArray, List.getElem_cons_zero, List.getElem_cons_succ, List.setIfInBounds_toArray, List.set_cons_zero, List.set_cons_succ]
            refine wpAnyH_take (i := 24) (v := ?_) rfl (by kernel_rfl) (by kernel_rfl) (by kernel_rfl) (fun _ _ _ h => h) (Or.inl ⟨by rfl, ?_⟩) hS ?_
            rotate_left
            · (intro W hs; go_simp; first | done | with_reducible rfl)
            try simp only [Act.put, List.getElem_toArray, List.getElem_cons_zero, List.getElem_cons_succ, List.setIfInBounds_toArray, List.set_cons_zero, List.set_cons_succ]
            refine wpAnyH_take (i := 25) (v := ?_) rfl (by kernel_rfl) (by kernel_rfl) (by kernel_rfl) (fun _ _ _ h => h) (Or.inl ⟨by rfl, ?_⟩) hS ?_
            rotate_left
            · (intro W hs; go_simp; first | done | with_reducible rfl)
            try simp only [Act.put, List.getElem_toArray, List.getElem_cons_zero, List.getElem_cons_succ, List.setIfInBounds_toArray, List.set_cons_zero, List.set_cons_succ]
            refine wpAnyH_take (i := 27) (v := ?_) rfl (by kernel_rfl) (by kernel_rfl) (by kernel_rfl) (fun _ _ _ h => h) (Or.inl ⟨by rfl, ?_⟩) hS ?_
            rotate_left
            · (intro W hs; go_simp; first | done | with_reducible rfl)
            try simp only [Act.put, List.getElem_toArray, List.getElem_cons_zero, List.getElem_cons_succ, List.setIfInBounds_toArray, List.set_cons_zero, List.set_cons_succ]
            refine wpH_one (i := 26) (by kernel_rfl) rfl (fun K hK => ?_)
            go_simp
            refine (CSi.out _ hS).mono ?_
            rintro e y5 ⟨rfl, hfi⟩
            have HZy5 : Hid (y4.heap.size ≤ y5.heap.size) := Lib.hid hfi.size
            have HSy5 : Hid (Fx No y4 y5) := Lib.hid hfi
            refine hK.out _ _ (hS.trans hfi) (fun hS' => ?_)
            clear hK K hS hfi 
            have hS := hS'
            clear hS'
            try simp only [Act.put, List.getElem_toArray, List.getElem_cons_zero, List.getElem_cons_succ, List.setIfInBounds_toArray, List.set_cons_zero, List.set_cons_succ]
            refine wpH_one (i := 28) (by kernel_rfl) rfl (fun K hK => ?_)
            go_simp
            refine (CRS.out _ hS).mono ?_
            rintro e y6 ⟨rfl, hfi⟩
            have HZy6 : Hid (y5.heap.size ≤ y6.heap.size) := Lib.hid hfi.size
            have HSy6 : Hid (Fx No y5 y6) := Lib.hid hfi
            refine hK.out _ _ (hS.trans hfi) (fun hS' => ?_)
            clear hK K hS hfi 
            have hS := hS'
            clear hS'
            try simp only [Act.put, List.getElem_toArray, List.getElem_cons_zero, List.getElem_cons_succ, List.setIfInBounds_toArray, List.set_cons_zero, List.set_cons_succ]
            refine wpAnyH_take (i := 29) (v := ?_) rfl (by kernel_rfl) (by kernel_rfl) (by kernel_rfl) (fun _ _ _ h => h) (Or.inl ⟨by rfl, ?_⟩) hS ?_
            rotate_left
            · (intro W hs; go_simp; first | done | with_reducible rfl)
            try simp only [Act.put, List.getElem_toArray, List.getElem_cons_zero, List.getElem_cons_succ, List.setIfInBounds_toArray, List.set_cons_zero, List.set_cons_succ]
            refine wpAnyH_take (i := 30) (v := ?_) rfl (by kernel_rfl) (by kernel_rfl) (by kernel_rfl) (fun _ _ _ h => h) (Or.inl ⟨by rfl, ?_⟩) hS ?_
            rotate_left
            · (intro W hs; go_simp; first | done | with_reducible rfl)
            try simp only [Act.put, List.getElem_toArray, List.getElem_cons_zero, List.getElem_cons_succ, List.setIfInBounds_toArray, List.set_cons_zero, List.set_cons_succ]
            refine wpAnyH_take (i := 31) (v := ?_) rfl (by kernel_rfl) (by kernel_rfl) (by kernel_rfl) (fun _ _ _ h => h) (Or.inl ⟨by rfl, ?_⟩) hS ?_
            rotate_left
            · (intro W hs; go_simp; first | done | with_reducible rfl)
            try simp only [Act.put, List.getElem_toArray, List.getElem_cons_zero, List.getElem_cons_succ, List.setIfInBounds_toArray, List.set_cons_zero, List.set_cons_succ]
            refine wpAnyH_take (i := 32) (v := ?_) rfl (by kernel_rfl) (by kernel_rfl) (by kernel_rfl) (fun _ _ _ h => h) (Or.inl ⟨by rfl, ?_⟩) hS ?_
            rotate_left
            · (intro W hs; go_simp; first | done | with_reducible rfl)
            try simp only [Act.put, List.getElem_toArray, List.getElem_cons_zero, List.getElem_cons_succ, List.setIfInBounds_toArray, List.set_cons_zero, List.set_cons_succ]
            refine wpAnyH_take (i := 34) (v := ?_) rfl (by kernel_rfl) (by kernel_rfl) (by kernel_rfl) (fun _ _ _ h => h) (Or.inl ⟨by rfl, ?_⟩) hS ?_
            rotate_left
            · (intro W hs; go_simp; first | done | with_reducible rfl)
            try simp only [Act.put, List.getElem_toArray, List.getElem_cons_zero, List.getElem_cons_succ, List.setIfInBounds_toArray, List.set_cons_zero, List.set_cons_succ]
            refine wpH_one (i := 33) (by kernel_rfl) rfl (fun K hK => ?_)
            go_simp
            refine (nodes_any (RowV.no HXw.out hS) (by omega)).mono ?_
            rintro e y7 ⟨nv1, rfl, hfi, ho⟩
            have HN1 := Lib.hid (RowI.ofOwn ho).toInts
            clear ho
            have HZy7 : Hid (y6.heap.size ≤ y7.heap.size) := Lib.hid hfi.size
            have HSy7 : Hid (Fx No y6 y7) := Lib.hid hfi
            refine hK.out _ _ (hS.trans hfi) (fun hS' => ?_)
            clear hK K hS hfi 
            have hS := hS'
            clear hS'
            try simp only [Act.put, List.getElem_toArray, List.getElem_cons_zero, List.getElem_cons_succ, List.setIfInBounds_toArray, List.set_cons_zero, List.set_cons_succ]
            refine wpH_one (i := 35) (by kernel_rfl) rfl (fun K hK => ?_)
            go_simp
            refine (refNodes_any (RowV.no HXr.out hS) (by omega)).mono ?_
            rintro e y8 ⟨nv2, rfl, hfi, ho⟩
            have HN1 := Lib.hid (IntsV.no HN1.out hfi)
            have HN2 := Lib.hid (RowI.ofOwn ho).toInts
            clear ho
            have HZy8 : Hid (y7.heap.size ≤ y8.heap.size) := Lib.hid hfi.size
            have HSy8 : Hid (Fx No y7 y8) := Lib.hid hfi
            refine hK.out _ _ (hS.trans hfi) (fun hS' => ?_)
            clear hK K hS hfi 
            have hS := hS'
            clear hS'
            try simp only [Act.put, List.getElem_toArray, List.getElem_cons_zero, List.getElem_cons_succ, List.setIfInBounds_toArray, List.set_cons_zero, List.set_cons_succ]
            refine wpH_one (i := 36) (by kernel_rfl) rfl (fun K hK => ?_)
            go_simp
            refine (CI.out _ _ _ _ _ _ HN1.out HN2.out).mono ?_
            rintro e y9 ⟨rfl, hfi⟩
            have HN1 := Lib.hid (IntsV.no HN1.out hfi)
            have HN2 := Lib.hid (IntsV.no HN2.out hfi)
            have HZy9 : Hid (y8.heap.size ≤ y9.heap.size) := Lib.hid hfi.size
            have HSy9 : Hid (Fx No y8 y9) := Lib.hid hfi
            refine hK.out _ _ (hS.trans hfi) (fun hS' => ?_)
            clear hK K hS hfi 
            have hS := hS'
            clear hS'
            try simp only [Act.put, List.getElem_toArray, List.getElem_cons_zero, List.getElem_cons_succ, List.setIfInBounds_toArray, List.set_cons_zero, List.set_cons_succ]
            refine wpAnyH_take (i := 37) (v := ?_) rfl (by kernel_rfl) (by kernel_rfl) (by kernel_rfl) (fun _ _ _ h => h) (Or.inl ⟨by rfl, ?_⟩) hS ?_
            rotate_left
            · (intro W hs; go_simp; first | done | with_reducible rfl)
            try simp only [Act.put, List.getElem_toArray, List.getElem_cons_zero, List.getElem_cons_succ, List.setIfInBounds_toArray, List.set_cons_zero, List.set_cons_succ]
            refine wpAnyH_take (i := 38) (v := ?_) rfl (by kernel_rfl) (by kernel_rfl) (by kernel_rfl) (fun _ _ _ h => h) (Or.inl ⟨by rfl, ?_⟩) hS ?_
            rotate_left
            · (intro W hs; go_simp; first | done | with_reducible rfl)
            try simp only [Act.put, List.getElem_toArray, List.getElem_cons_zero, List.getElem_cons_succ, List.setIfInBounds_toArray, List.set_cons_zero, List.set_cons_succ]
            refine wpAnyH_take (i := 39) (v := ?_) rfl (by kernel_rfl) (by kernel_rfl) (by kernel_rfl) (fun _ _ _ h => h) (Or.inl ⟨by rfl, ?_⟩) hS ?_
            rotate_left
            · (intro W hs; go_simp; first | done | with_reducible rfl)
            try simp only [Act.put, List.getElem_toArray, List.getElem_cons_zero, List.getElem_cons_succ, List.setIfInBounds_toArray, List.set_cons_zero, List.set_cons_succ]
            refine wpAnyH_take (i := 41) (v := ?_) rfl (by kernel_rfl) (by kernel_rfl) (by kernel_rfl) (fun _ _ _ h => h) (Or.inl ⟨by rfl, ?_⟩) hS ?_
            rotate_left
            · (intro W hs; go_simp; first | done | with_reducible rfl)
            try simp only [Act.put, List.getElem_toArray, List.getElem_cons_zero, List.getElem_cons_succ, List.setIfInBounds_toArray, List.set_cons_zero, List.set_cons_succ]
            refine wpH_one (i := 40) (by kernel_rfl) rfl (fun K hK => ?_)
            go_simp
            refine (docEdges_any (RowV.no HXw.out hS) (by omega)).mono ?_
            rintro e y10 ⟨ev1, rfl, hfi, ho⟩
            have HN1 := Lib.hid (IntsV.no HN1.out hfi)
            have HN2 := Lib.hid (IntsV.no HN2.out hfi)
            have HE1 := Lib.hid (OwnT.row ho)
            clear ho
            have HZy10 : Hid (y9.heap.size ≤ y10.heap.size) := Lib.hid hfi.size
            have HSy10 : Hid (Fx No y9 y10) := Lib.hid hfi
            refine hK.out _ _ (hS.trans hfi) (fun hS' => ?_)
            clear hK K hS hfi 
            have hS := hS'
            clear hS'
            try simp only [Act.put, List.getElem_toArray, List.getElem_cons_zero, List.getElem_cons_succ, List.setIfInBounds_toArray, List.set_cons_zero, List.set_cons_succ]
            refine wpH_one (i := 42) (by kernel_rfl) rfl (fun K hK => ?_)
            go_simp
            refine (CEd.out _ _ _ _ _ _ HE1.out (RowV.no HXr.out hS)).mono ?_
            rintro e y11 ⟨rfl, hfi⟩
            have HN1 := Lib.hid (IntsV.no HN1.out hfi)
            have HN2 := Lib.hid (IntsV.no HN2.out hfi)
            have HE1 := Lib.hid (RowV.no HE1.out hfi)
            have HZy11 : Hid (y10.heap.size ≤ y11.heap.size) := Lib.hid hfi.size
            have HSy11 : Hid (Fx No y10 y11) := Lib.hid hfi
            refine hK.out _ _ (hS.trans hfi) (fun hS' => ?_)
            clear hK K hS hfi 
            have hS := hS'
            clear hS'
            try simp only [Act.put, List.getElem_toArray, List.getElem_cons_zero, List.getElem_cons_succ, List.setIfInBounds_toArray, List.set_cons_zero, List.set_cons_succ]
            refine wpAnyH_take (i := 43) (v := ?_) rfl (by kernel_rfl) (by kernel_rfl) (by kernel_rfl) (fun _ _ _ h => h) (Or.inl ⟨by rfl, ?_⟩) hS ?_
            rotate_left
            · (intro W hs; go_simp; first | done | with_reducible rfl)
            try simp only [Act.put, List.getElem_toArray, List.getElem_cons_zero, List.getElem_cons_succ, List.setIfInBounds_toArray, List.set_cons_zero, List.set_cons_succ]
            refine wpAnyH_take (i := 44) (v := ?_) rfl (by kernel_rfl) (by kernel_rfl) (by kernel_rfl) (fun _ _ _ h => h) (Or.inl ⟨by rfl, ?_⟩) hS ?_
            rotate_left
            · (intro W hs; go_simp; first | done | with_reducible rfl)
            try simp only [Act.put, List.getElem_toArray, List.getElem_cons_zero, List.getElem_cons_succ, List.setIfInBounds_toArray, List.set_cons_zero, List.set_cons_succ]
            refine wpAnyH_take (i := 45) (v := ?_) rfl (by kernel_rfl) (by kernel_rfl) (by kernel_rfl) (fun _ _ _ h => h) (Or.inl ⟨by rfl, ?_⟩) hS ?_
            rotate_left
            · (intro W hs; go_simp; first | done | with_reducible rfl)
            try simp only [Act.put, List.getElem_toArray, List.getElem_cons_zero, List.getElem_cons_succ, List.setIfInBounds_toArray, List.set_cons_zero, List.set_cons_succ]
            refine wpAnyH_take (i := 47) (v := ?_) rfl (by kernel_rfl) (by kernel_rfl) (by kernel_rfl) (fun _ _ _ h => h) (Or.inl ⟨by rfl, ?_⟩) hS ?_
            rotate_left
            · (intro W hs; go_simp; first | done | with_reducible rfl)
            try simp only [Act.put, List.getElem_toArray, List.getElem_cons_zero, List.getElem_cons_succ, List.setIfInBounds_toArray, List.set_cons_zero, List.set_cons_succ]
            refine wpH_one (i := 46) (by kernel_rfl) rfl (fun K hK => ?_)
            go_simp
            refine (docGraph_any (HGe.out.no hS)).mono ?_
            rintro e y12 ⟨v1, rfl, hfi, ho⟩
            have HN1 := Lib.hid (IntsV.no HN1.out hfi)
            have HN2 := Lib.hid (IntsV.no HN2.out hfi)
            have HE1 := Lib.hid (RowV.no HE1.out hfi)
            obtain ⟨so1, sc1, rfl, _⟩ := EdsV.facts (OwnT.row ho)
            have HO1 := Lib.hid (OwnT.row ho)
            clear ho
            have HZy12 : Hid (y11.heap.size ≤ y12.heap.size) := Lib.hid hfi.size
            have HSy12 : Hid (Fx No y11 y12) := Lib.hid hfi
            refine hK.out _ _ (hS.trans hfi) (fun hS' => ?_)
            clear hK K hS hfi 
            have hS := hS'
            clear hS'
            try simp only [Act.put, List.getElem_toArray, List.getElem_cons_zero, List.getElem_cons_succ, List.setIfInBounds_toArray, List.set_cons_zero, List.set_cons_succ]
            refine wpH_one (i := 48) (by kernel_rfl) rfl (fun K hK => ?_)
            go_simp
            refine (CS.out _ _ _ hS HO1.out).mono ?_
            rintro e y13 ⟨rfl, hfi⟩
            have HN1 := Lib.hid (IntsV.no HN1.out hfi)
            have HN2 := Lib.hid (IntsV.no HN2.out hfi)
            have HE1 := Lib.hid (RowV.no HE1.out hfi)
            have HO1 := Lib.hid (RowV.no HO1.out hfi)
            have HZy13 : Hid (y12.heap.size ≤ y13.heap.size) := Lib.hid hfi.size
            have HSy13 : Hid (Fx No y12 y13) := Lib.hid hfi
            refine hK.out _ _ (hS.trans hfi) (fun hS' => ?_)
            clear hK K hS hfi 
            have hS := hS'
            clear hS'
            try simp only [Act.put, List.getElem_toArray, List.getElem_cons_zero, List.getElem_cons_succ, List.setIfInBounds_toArray, List.set_cons_zero, List.set_cons_succ]
            refine wpAnyH_take (i := 49) (v := ?_) rfl (by kernel_rfl) (by kernel_rfl) (by kernel_rfl) (fun _ _ _ h => h) (Or.inl ⟨by rfl, ?_⟩) hS ?_
            rotate_left
            · (intro W hs; go_simp; first | done | with_reducible rfl)
            try simp only [Act.put, List.getElem_toArray, List.getElem_cons_zero, List.getElem_cons_succ, List.setIfInBounds_toArray, List.set_cons_zero, List.set_cons_succ]
            refine wpAnyH_take (i := 50) (v := ?_) rfl (by kernel_rfl) (by kernel_rfl) (by kernel_rfl) (fun _ _ _ h => h) (Or.inl ⟨by rfl, ?_⟩) hS ?_
            rotate_left
            · (intro W hs; go_simp; first | done | with_reducible rfl)
            try simp only [Act.put, List.getElem_toArray, List.getElem_cons_zero, List.getElem_cons_succ, List.setIfInBounds_toArray, List.set_cons_zero, List.set_cons_succ]
            refine wpH_one (i := 51) (by kernel_rfl) rfl (fun K hK => ?_)
            go_simp
            refine (works_any _).mono ?_
            rintro e y14 ⟨rfl, hfi⟩
            have HN1 := Lib.hid (IntsV.no HN1.out hfi)
            have HN2 := Lib.hid (IntsV.no HN2.out hfi)
            have HE1 := Lib.hid (RowV.no HE1.out hfi)
            have HO1 := Lib.hid (RowV.no HO1.out hfi)
            have HZy14 : Hid (y13.heap.size ≤ y14.heap.size) := Lib.hid hfi.size
            have HSy14 : Hid (Fx No y13 y14) := Lib.hid hfi
            refine hK.out _ _ (hS.trans hfi) (fun hS' => ?_)
            clear hK K hS hfi 
            have hS := hS'
            clear hS'
            try simp only [Act.put, List.getElem_toArray, List.getElem_cons_zero, List.getElem_cons_succ, List.setIfInBounds_toArray, List.set_cons_zero, List.set_cons_succ]
            refine wpAnyH_take (i := 52) (v := ?_) rfl (by kernel_rfl) (by kernel_rfl) (by kernel_rfl) (fun _ _ _ h => h) (Or.inl ⟨by rfl, ?_⟩) hS ?_
            rotate_left
            · (intro W hs; go_simp; first | done | with_reducible rfl)
            try simp only [Act.put, List.getElem_toArray, List.getElem_cons_zero, List.getElem_cons_succ, List.setIfInBounds_toArray, List.set_cons_zero, List.set_cons_succ]
            refine wpAnyH_take (i := 53) (v := ?_) rfl (by kernel_rfl) (by kernel_rfl) (by kernel_rfl) (fun _ _ _ h => h) (Or.inl ⟨by rfl, ?_⟩) hS ?_
            rotate_left
            · (intro W hs; go_simp; first | done | with_reducible rfl)
            try simp only [Act.put, List.getElem_toArray, List.getElem_cons_zero, List.getElem_cons_succ, List.setIfInBounds_toArray, List.set_cons_zero, List.set_cons_succ]
            refine wpAnyH_done (by kernel_rfl) ?_ _
            have HZ := Lib.hid hS
            clear hS hS0
            go_wp2
            go_ret
            exact ⟨rfl, HFx.out.trans (HFe.out.trans HZ.out)⟩
          | true =>
            cases hR : roundB X with
            | false =>
              have HW : Hid (walkB (fun x => decide (x ∈ L)) X = tO) := Lib.hid (by unfold walkB; rw [hC]; rw [HTO.out]; simp)
              have HCl : Hid (closedB (fun x => decide (x ∈ L)) X = false) := Lib.hid (by unfold closedB; rw [hR, HW.out]; simp)
              have CW : Hid (∀ W, Fx No we W → Calls Tryz.prog 14 #[.pointer (some ⟨gb, 0, none⟩), .slice vo X.length vc] W fun e w' => e = .returned (.bool tO) ∧ Fx No W w') := Lib.hid fun W hW => (walk_any (RowV.no HXw.out hW) (HasP.graph (HGe.out.no hW) HXok.out)).mono fun e w' ⟨h1, h2⟩ => ⟨by rw [h1, HW.out], h2⟩
              have CC : Hid (∀ W, Fx No we W → Calls Tryz.prog 17 #[.pointer (some ⟨gb, 0, none⟩), .slice vo X.length vc] W fun e w' => e = .returned (.bool false) ∧ Fx No W w') := Lib.hid fun W hW => (closed_any (RowV.no HXw.out hW) (HasP.graph (HGe.out.no hW) HXok.out)).mono fun e w' ⟨h1, h2⟩ => ⟨by rw [h1, HCl.out], h2⟩
              have CRW : Hid (∀ W, Fx No we W → Calls Tryz.prog 15 #[.slice xo X.length xc] W fun e w' => e = .returned (.bool true) ∧ Fx No W w') := Lib.hid fun W hW => (refWalkE_any (RowV.no HXr.out hW)).mono fun e w' ⟨h1, h2⟩ => ⟨by rw [h1, hC], h2⟩
              have CRC : Hid (∀ W, Fx No we W → Calls Tryz.prog 18 #[.slice xo X.length xc] W fun e w' => e = .returned (.bool false) ∧ Fx No W w') := Lib.hid fun W hW => (refClosed_any (RowV.no HXr.out hW)).mono fun e w' ⟨h1, h2⟩ => ⟨by rw [h1, hR], h2⟩
              have CSi : Hid (∀ W, Fx No we W → Calls Tryz.prog 19 #[.slice vo X.length vc] W fun e w' => e = .returned (.bool false) ∧ Fx No W w') := Lib.hid fun W hW => (simple_any (RowV.no HXw.out hW) (by omega)).mono fun e w' ⟨h1, h2⟩ => ⟨by rw [h1, hR]; simp, h2⟩
              have CRS : Hid (∀ W, Fx No we W → Calls Tryz.prog 20 #[.slice xo X.length xc] W fun e w' => e = .returned (.bool false) ∧ Fx No W w') := Lib.hid fun W hW => (refSimple_any (RowV.no HXr.out hW) (by omega)).mono fun e w' ⟨h1, h2⟩ => ⟨by rw [h1, hR]; simp, h2⟩
              clear hC hR HW HCl
              go_wp2
              refine wp_region_H (fun W => Fx No we W) (by kernel_rfl) ((Fx.refl _ _).drew) ?_
              intro hS
              refine wpAnyH_hold (fun W' => Fx No we W') hS ?_
              clear hS
              rintro y0 hS
              have hS0 := hS
              refine wpAnyH_take (i := 0) (v := ?_) rfl (by kernel_rfl) (by kernel_rfl) (by kernel_rfl) (fun _ _ _ h => h) (Or.inl ⟨by rfl, ?_⟩) hS ?_
              rotate_left
              · (intro W hs; go_simp; first | done | with_reducible rfl)
              try simp only [Act.put, List.getElem_toArray, List.getElem_cons_zero, List.setIfInBounds_toArray, List.set_cons_zero, List.set_cons_succ]
              refine wpAnyH_take (i := 1) (v := ?_) rfl (by kernel_rfl) (by kernel_rfl) (by kernel_rfl) (fun _ _ _ h => h) (Or.inl ⟨by rfl, ?_⟩) hS ?_
              rotate_left
              · (intro W hs; go_simp; first | done | with_reducible rfl)
              try simp only [Act.put, List.getElem_toArray, List.getElem_cons_zero, List.getElem_cons_succ, List.setIfInBounds_toArray, List.set_cons_zero, List.set_cons_succ]
              refine wpAnyH_take (i := 3) (v := ?_) rfl (by kernel_rfl) (by kernel_rfl) (by kernel_rfl) (fun _ _ _ h => h) (Or.inl ⟨by rfl, ?_⟩) hS ?_
              rotate_left
              · (intro W hs; go_simp; first | done | with_reducible rfl)
              try simp only [Act.put, List.getElem_toArray, List.getElem_cons_zero, List.getElem_cons_succ, List.setIfInBounds_toArray, List.set_cons_zero, List.set_cons_succ]
              refine wpH_one (i := 2) (by kernel_rfl) rfl (fun K hK => ?_)
              go_simp
              refine (CW.out _ hS).mono ?_
              rintro e y1 ⟨rfl, hfi⟩
              have HZy1 : Hid (y0.heap.size ≤ y1.heap.size) := Lib.hid hfi.size
              have HSy1 : Hid (Fx No y0 y1) := Lib.hid hfi
              refine hK.out _ _ (hS.trans hfi) (fun hS' => ?_)
              clear hK K hS hfi 
              have hS := hS'
              clear hS'
              try simp only [Act.put, List.getElem_toArray, List.getElem_cons_zero, List.getElem_cons_succ, List.setIfInBounds_toArray, List.set_cons_zero, List.set_cons_succ]
              refine wpH_one (i := 4) (by kernel_rfl) rfl (fun K hK => ?_)
              go_simp
              refine (CRW.out _ hS).mono ?_
              rintro e y2 ⟨rfl, hfi⟩
              have HZy2 : Hid (y1.heap.size ≤ y2.heap.size) := Lib.hid hfi.size
              have HSy2 : Hid (Fx No y1 y2) := Lib.hid hfi
              refine hK.out _ _ (hS.trans hfi) (fun hS' => ?_)
              clear hK K hS hfi 
              have hS := hS'
              clear hS'
              try simp only [Act.put, List.getElem_toArray, List.getElem_cons_zero, List.getElem_cons_succ, List.setIfInBounds_toArray, List.set_cons_zero, List.set_cons_succ]
              refine wpAnyH_take (i := 5) (v := ?_) rfl (by kernel_rfl) (by kernel_rfl) (by kernel_rfl) (fun _ _ _ h => h) (Or.inl ⟨by rfl, ?_⟩) hS ?_
              rotate_left
              · (intro W hs; go_simp; first | done | with_reducible rfl)
              try simp only [Act.put, List.getElem_toArray, List.getElem_cons_zero, List.getElem_cons_succ, List.setIfInBounds_toArray, List.set_cons_zero, List.set_cons_succ]
              refine wpAnyH_take (i := 6) (v := ?_) rfl (by kernel_rfl) (by kernel_rfl) (by kernel_rfl) (fun _ _ _ h => h) (Or.inl ⟨by rfl, ?_⟩) hS ?_
              rotate_left
              · (intro W hs; go_simp; first | done | with_reducible rfl)
              try simp only [Act.put, List.getElem_toArray, List.getElem_cons_zero, List.getElem_cons_succ, List.setIfInBounds_toArray, List.set_cons_zero, List.set_cons_succ]
              refine wpAnyH_take (i := 7) (v := ?_) rfl (by kernel_rfl) (by kernel_rfl) (by kernel_rfl) (fun _ _ _ h => h) (Or.inl ⟨by rfl, ?_⟩) hS ?_
              rotate_left
              · (intro W hs; go_simp; first | done | with_reducible rfl)
              try simp only [Act.put, List.getElem_toArray, List.getElem_cons_zero, List.getElem_cons_succ, List.setIfInBounds_toArray, List.set_cons_zero, List.set_cons_succ]
              refine wpH_one (i := 8) (by kernel_rfl) rfl (fun K hK => ?_)
              go_simp
              refine (COf.out _ hS).mono ?_
              rintro e y3 ⟨rfl, hfi⟩
              have HZy3 : Hid (y2.heap.size ≤ y3.heap.size) := Lib.hid hfi.size
              have HSy3 : Hid (Fx No y2 y3) := Lib.hid hfi
              refine hK.out _ _ (hS.trans hfi) (fun hS' => ?_)
              clear hK K hS hfi 
              have hS := hS'
              clear hS'
              try simp only [Act.put, List.getElem_toArray, List.getElem_cons_zero, List.getElem_cons_succ, List.setIfInBounds_toArray, List.set_cons_zero, List.set_cons_succ]
              refine wpAnyH_take (i := 9) (v := ?_) rfl (by kernel_rfl) (by kernel_rfl) (by kernel_rfl) (fun _ _ _ h => h) (Or.inl ⟨by rfl, ?_⟩) hS ?_
              rotate_left
              · (intro W hs; go_simp; first | done | with_reducible rfl)
              try simp only [Act.put, List.getElem_toArray, List.getElem_cons_zero, List.getElem_cons_succ, List.setIfInBounds_toArray, List.set_cons_zero, List.set_cons_succ]
              refine wpAnyH_take (i := 10) (v := ?_) rfl (by kernel_rfl) (by kernel_rfl) (by kernel_rfl) (fun _ _ _ h => h) (Or.inl ⟨by rfl, ?_⟩) hS ?_
              rotate_left
              · (intro W hs; go_simp; first | done | with_reducible rfl)
              try simp only [Act.put, List.getElem_toArray, List.getElem_cons_zero, List.getElem_cons_succ, List.setIfInBounds_toArray, List.set_cons_zero, List.set_cons_succ]
              refine wpAnyH_take (i := 11) (v := ?_) rfl (by kernel_rfl) (by kernel_rfl) (by kernel_rfl) (fun _ _ _ h => h) (Or.inl ⟨by rfl, ?_⟩) hS ?_
              rotate_left
              · (intro W hs; go_simp; first | done | with_reducible rfl)
              try simp only [Act.put, List.getElem_toArray, List.getElem_cons_zero, List.getElem_cons_succ, List.setIfInBounds_toArray, List.set_cons_zero, List.set_cons_succ]
              refine wpAnyH_take (i := 12) (v := ?_) rfl (by kernel_rfl) (by kernel_rfl) (by kernel_rfl) (fun _ _ _ h => h) (Or.inl ⟨by rfl, ?_⟩) hS ?_
              rotate_left
              · (intro W hs; go_simp; first | done | with_reducible rfl)
              try simp only [Act.put, List.getElem_toArray, List.getElem_cons_zero, List.getElem_cons_succ, List.setIfInBounds_toArray, List.set_cons_zero, List.set_cons_succ]
              refine wpAnyH_take (i := 13) (v := ?_) rfl (by kernel_rfl) (by kernel_rfl) (by kernel_rfl) (fun _ _ _ h => h) (Or.inl ⟨by rfl, ?_⟩) hS ?_
              rotate_left
              · (intro W hs; go_simp; first | done | with_reducible rfl)
              try simp only [Act.put, List.getElem_toArray, List.getElem_cons_zero, List.getElem_cons_succ, List.setIfInBounds_toArray, List.set_cons_zero, List.set_cons_succ]
              refine wpAnyH_take (i := 15) (v := ?_) rfl (by kernel_rfl) (by kernel_rfl) (by kernel_rfl) (fun _ _ _ h => h) (Or.inl ⟨by rfl, ?_⟩) hS ?_
              rotate_left
              · (intro W hs; go_simp; first | done | with_reducible rfl)
              try simp only [Act.put, List.getElem_toArray, List.getElem_cons_zero, List.getElem_cons_succ, List.setIfInBounds_toArray, List.set_cons_zero, List.set_cons_succ]
              refine wpH_one (i := 14) (by kernel_rfl) rfl (fun K hK => ?_)
              go_simp
              refine (CC.out _ hS).mono ?_
              rintro e y4 ⟨rfl, hfi⟩
              have HZy4 : Hid (y3.heap.size ≤ y4.heap.size) := Lib.hid hfi.size
              have HSy4 : Hid (Fx No y3 y4) := Lib.hid hfi
              refine hK.out _ _ (hS.trans hfi) (fun hS' => ?_)
              clear hK K hS hfi 
              have hS := hS'
              clear hS'
              try simp only [Act.put, List.getElem_toArray, List.getElem_cons_zero, List.getElem_cons_succ, List.setIfInBounds_toArray, List.set_cons_zero, List.set_cons_succ]
              refine wpH_one (i := 16) (by kernel_rfl) rfl (fun K hK => ?_)
              go_simp
              refine (CRC.out _ hS).mono ?_
              rintro e y5 ⟨rfl, hfi⟩
              have HZy5 : Hid (y4.heap.size ≤ y5.heap.size) := Lib.hid hfi.size
              have HSy5 : Hid (Fx No y4 y5) := Lib.hid hfi
              refine hK.out _ _ (hS.trans hfi) (fun hS' => ?_)
              clear hK K hS hfi 
              have hS := hS'
              clear hS'
              try simp only [Act.put, List.getElem_toArray, List.getElem_cons_zero, List.getElem_cons_succ, List.setIfInBounds_toArray, List.set_cons_zero, List.set_cons_succ]
              refine wpAnyH_take (i := 17) (v := ?_) rfl (by kernel_rfl) (by kernel_rfl) (by kernel_rfl) (fun _ _ _ h => h) (Or.inl ⟨by rfl, ?_⟩) hS ?_
              rotate_left
              · (intro W hs; go_simp; first | done | with_reducible rfl)
              try simp only [Act.put, List.getElem_toArray, List.getElem_cons_zero, List.getElem_cons_succ, List.setIfInBounds_toArray, List.set_cons_zero, List.set_cons_succ]
              refine wpAnyH_take (i := 18) (v := undef) rfl (by kernel_rfl) (by kernel_rfl) (by kernel_rfl) (fun _ _ _ h => h) (Or.inr ⟨by rfl, rfl⟩) hS ?_
              try simp only [Act.put, List.getElem_toArray, List.getElem_cons_zero, List.getElem_cons_succ, List.setIfInBounds_toArray, List.set_cons_zero, List.set_cons_succ]
              refine wpAnyH_take (i := 19) (v := undef) rfl (by kernel_rfl) (by kernel_rfl) (by kernel_rfl) (fun _ _ _ h => h) (Or.inr ⟨by rfl, rfl⟩) hS ?_
              try simp only [Act.put, List.getElem_toArray, List.getElem_cons_zero, List.getElem_cons_succ, List.setIfInBounds_toArray, List.set_cons_zero, List.set_cons_succ]
              refine wpAnyH_take (i := 20) (v := undef) rfl (by kernel_rfl) (by kernel_rfl) (by kernel_rfl) (fun _ _ _ h => h) (Or.inr ⟨by rfl, rfl⟩) hS ?_
              try simp only [Act.put, List.getElem_toArray, List.getElem_cons_zero, List.getElem_cons_succ, List.setIfInBounds_toArray, List.set_cons_zero, List.set_cons_succ]
              refine wpAnyH_take (i := 21) (v := ?_) rfl (by kernel_rfl) (by kernel_rfl) (by kernel_rfl) (fun _ _ _ h => h) (Or.inl ⟨by rfl, ?_⟩) hS ?_
              rotate_left
              · (intro W hs; go_simp; first | done | with_reducible rfl)
              try simp only [Act.put, List.getElem_toArray, List.getElem_cons_zero, List.getElem_cons_succ, List.setIfInBounds_toArray, List.set_cons_zero, List.set_cons_succ]
              refine wpAnyH_take (i := 22) (v := ?_) rfl (by kernel_rfl) (by kernel_rfl) (by kernel_rfl) (fun _ _ _ h => h) (Or.inl ⟨by rfl, ?_⟩) hS ?_
              rotate_left
              · (intro W hs; go_simp; first | done | with_reducible rfl)
              try simp only [Act.put, List.getElem_toArray, List.getElem_cons_zero, List.getElem_cons_succ, List.setIfInBounds_toArray, List.set_cons_zero, List.set_cons_succ]
              refine wpAnyH_take (i := 23) (v := ?_) rfl (by kernel_rfl) (by kernel_rfl) (by kernel_rfl) (fun _ _ _ h => h) (Or.inl ⟨by rfl, ?_⟩) hS ?_
              rotate_left
              · (intro W hs; go_simp; first | done | with_reducible rfl)
              try simp only [Act.put, List.getElem_toArray, List.getElem_cons_zero, List.getElem_cons_succ, List.setIfInBounds_toArray, List.set_cons_zero, List.set_cons_succ]
              refine wpAnyH_take (i := 24) (v := ?_) rfl (by kernel_rfl) (by kernel_rfl) (by kernel_rfl) (fun _ _ _ h => h) (Or.inl ⟨by rfl, ?_⟩) hS ?_
              rotate_left
              · (intro W hs; go_simp; first | done | with_reducible rfl)
              try simp only [Act.put, List.getElem_toArray, List.getElem_cons_zero, List.getElem_cons_succ, List.setIfInBounds_toArray, List.set_cons_zero, List.set_cons_succ]
              refine wpAnyH_take (i := 25) (v := ?_) rfl (by kernel_rfl) (by kernel_rfl) (by kernel_rfl) (fun _ _ _ h => h) (Or.inl ⟨by rfl, ?_⟩) hS ?_
              rotate_left
              · (intro W hs; go_simp; first | done | with_reducible rfl)
              try simp only [Act.put, List.getElem_toArray, List.getElem_cons_zero, List.getElem_cons_succ, List.setIfInBounds_toArray, List.set_cons_zero, List.set_cons_succ]
              refine wpAnyH_take (i := 27) (v := ?_) rfl (by kernel_rfl) (by kernel_rfl) (by kernel_rfl) (fun _ _ _ h => h) (Or.inl ⟨by rfl, ?_⟩) hS ?_
              rotate_left
              · (intro W hs; go_simp; first | done | with_reducible rfl)
              try simp only [Act.put, List.getElem_toArray, List.getElem_cons_zero, List.getElem_cons_succ, List.setIfInBounds_toArray, List.set_cons_zero, List.set_cons_succ]
              refine wpH_one (i := 26) (by kernel_rfl) rfl (fun K hK => ?_)
              go_simp
              refine (CSi.out _ hS).mono ?_
              rintro e y6 ⟨rfl, hfi⟩
              have HZy6 : Hid (y5.heap.size ≤ y6.heap.size) := Lib.hid hfi.size
              have HSy6 : Hid (Fx No y5 y6) := Lib.hid hfi
              refine hK.out _ _ (hS.trans hfi) (fun hS' => ?_)
              clear hK K hS hfi 
              have hS := hS'
              clear hS'
              try simp only [Act.put, List.getElem_toArray, List.getElem_cons_zero, List.getElem_cons_succ, List.setIfInBounds_toArray, List.set_cons_zero, List.set_cons_succ]
              refine wpH_one (i := 28) (by kernel_rfl) rfl (fun K hK => ?_)
              go_simp
              refine (CRS.out _ hS).mono ?_
              rintro e y7 ⟨rfl, hfi⟩
              have HZy7 : Hid (y6.heap.size ≤ y7.heap.size) := Lib.hid hfi.size
              have HSy7 : Hid (Fx No y6 y7) := Lib.hid hfi
              refine hK.out _ _ (hS.trans hfi) (fun hS' => ?_)
              clear hK K hS hfi 
              have hS := hS'
              clear hS'
              try simp only [Act.put, List.getElem_toArray, List.getElem_cons_zero, List.getElem_cons_succ, List.setIfInBounds_toArray, List.set_cons_zero, List.set_cons_succ]
              refine wpAnyH_take (i := 29) (v := ?_) rfl (by kernel_rfl) (by kernel_rfl) (by kernel_rfl) (fun _ _ _ h => h) (Or.inl ⟨by rfl, ?_⟩) hS ?_
              rotate_left
              · (intro W hs; go_simp; first | done | with_reducible rfl)
              try simp only [Act.put, List.getElem_toArray, List.getElem_cons_zero, List.getElem_cons_succ, List.setIfInBounds_toArray, List.set_cons_zero, List.set_cons_succ]
              refine wpAnyH_take (i := 30) (v := ?_) rfl (by kernel_rfl) (by kernel_rfl) (by kernel_rfl) (fun _ _ _ h => h) (Or.inl ⟨by rfl, ?_⟩) hS ?_
              rotate_left
              · (intro W hs; go_simp; first | done | with_reducible rfl)
              try simp only [Act.put, List.getElem_toArray, List.getElem_cons_zero, List.getElem_cons_succ, List.setIfInBounds_toArray, List.set_cons_zero, List.set_cons_succ]
              refine wpAnyH_take (i := 31) (v := ?_) rfl (by kernel_rfl) (by kernel_rfl) (by kernel_rfl) (fun _ _ _ h => h) (Or.inl ⟨by rfl, ?_⟩) hS ?_
              rotate_left
              · (intro W hs; go_simp; first | done | with_reducible rfl)
              try simp only [Act.put, List.getElem_toArray, List.getElem_cons_zero, List.getElem_cons_succ, List.setIfInBounds_toArray, List.set_cons_zero, List.set_cons_succ]
              refine wpAnyH_take (i := 32) (v := ?_) rfl (by kernel_rfl) (by kernel_rfl) (by kernel_rfl) (fun _ _ _ h => h) (Or.inl ⟨by rfl, ?_⟩) hS ?_
              rotate_left
              · (intro W hs; go_simp; first | done | with_reducible rfl)
              try simp only [Act.put, List.getElem_toArray, List.getElem_cons_zero, List.getElem_cons_succ, List.setIfInBounds_toArray, List.set_cons_zero, List.set_cons_succ]
              refine wpAnyH_take (i := 34) (v := ?_) rfl (by kernel_rfl) (by kernel_rfl) (by kernel_rfl) (fun _ _ _ h => h) (Or.inl ⟨by rfl, ?_⟩) hS ?_
              rotate_left
              · (intro W hs; go_simp; first | done | with_reducible rfl)
              try simp only [Act.put, List.getElem_toArray, List.getElem_cons_zero, List.getElem_cons_succ, List.setIfInBounds_toArray, List.set_cons_zero, List.set_cons_succ]
              refine wpH_one (i := 33) (by kernel_rfl) rfl (fun K hK => ?_)
              go_simp
              refine (nodes_any (RowV.no HXw.out hS) (by omega)).mono ?_
              rintro e y8 ⟨nv1, rfl, hfi, ho⟩
              have HN1 := Lib.hid (RowI.ofOwn ho).toInts
              clear ho
              have HZy8 : Hid (y7.heap.size ≤ y8.heap.size) := Lib.hid hfi.size
              have HSy8 : Hid (Fx No y7 y8) := Lib.hid hfi
              refine hK.out _ _ (hS.trans hfi) (fun hS' => ?_)
              clear hK K hS hfi 
              have hS := hS'
              clear hS'
              try simp only [Act.put, List.getElem_toArray, List.getElem_cons_zero, List.getElem_cons_succ, List.setIfInBounds_toArray, List.set_cons_zero, List.set_cons_succ]
              refine wpH_one (i := 35) (by kernel_rfl) rfl (fun K hK => ?_)
              go_simp
              refine (refNodes_any (RowV.no HXr.out hS) (by omega)).mono ?_
              rintro e y9 ⟨nv2, rfl, hfi, ho⟩
              have HN1 := Lib.hid (IntsV.no HN1.out hfi)
              have HN2 := Lib.hid (RowI.ofOwn ho).toInts
              clear ho
              have HZy9 : Hid (y8.heap.size ≤ y9.heap.size) := Lib.hid hfi.size
              have HSy9 : Hid (Fx No y8 y9) := Lib.hid hfi
              refine hK.out _ _ (hS.trans hfi) (fun hS' => ?_)
              clear hK K hS hfi 
              have hS := hS'
              clear hS'
              try simp only [Act.put, List.getElem_toArray, List.getElem_cons_zero, List.getElem_cons_succ, List.setIfInBounds_toArray, List.set_cons_zero, List.set_cons_succ]
              refine wpH_one (i := 36) (by kernel_rfl) rfl (fun K hK => ?_)
              go_simp
              refine (CI.out _ _ _ _ _ _ HN1.out HN2.out).mono ?_
              rintro e y10 ⟨rfl, hfi⟩
              have HN1 := Lib.hid (IntsV.no HN1.out hfi)
              have HN2 := Lib.hid (IntsV.no HN2.out hfi)
              have HZy10 : Hid (y9.heap.size ≤ y10.heap.size) := Lib.hid hfi.size
              have HSy10 : Hid (Fx No y9 y10) := Lib.hid hfi
              refine hK.out _ _ (hS.trans hfi) (fun hS' => ?_)
              clear hK K hS hfi 
              have hS := hS'
              clear hS'
              try simp only [Act.put, List.getElem_toArray, List.getElem_cons_zero, List.getElem_cons_succ, List.setIfInBounds_toArray, List.set_cons_zero, List.set_cons_succ]
              refine wpAnyH_take (i := 37) (v := ?_) rfl (by kernel_rfl) (by kernel_rfl) (by kernel_rfl) (fun _ _ _ h => h) (Or.inl ⟨by rfl, ?_⟩) hS ?_
              rotate_left
              · (intro W hs; go_simp; first | done | with_reducible rfl)
              try simp only [Act.put, List.getElem_toArray, List.getElem_cons_zero, List.getElem_cons_succ, List.setIfInBounds_toArray, List.set_cons_zero, List.set_cons_succ]
              refine wpAnyH_take (i := 38) (v := ?_) rfl (by kernel_rfl) (by kernel_rfl) (by kernel_rfl) (fun _ _ _ h => h) (Or.inl ⟨by rfl, ?_⟩) hS ?_
              rotate_left
              · (intro W hs; go_simp; first | done | with_reducible rfl)
              try simp only [Act.put, List.getElem_toArray, List.getElem_cons_zero, List.getElem_cons_succ, List.setIfInBounds_toArray, List.set_cons_zero, List.set_cons_succ]
              refine wpAnyH_take (i := 39) (v := ?_) rfl (by kernel_rfl) (by kernel_rfl) (by kernel_rfl) (fun _ _ _ h => h) (Or.inl ⟨by rfl, ?_⟩) hS ?_
              rotate_left
              · (intro W hs; go_simp; first | done | with_reducible rfl)
              try simp only [Act.put, List.getElem_toArray, List.getElem_cons_zero, List.getElem_cons_succ, List.setIfInBounds_toArray, List.set_cons_zero, List.set_cons_succ]
              refine wpAnyH_take (i := 41) (v := ?_) rfl (by kernel_rfl) (by kernel_rfl) (by kernel_rfl) (fun _ _ _ h => h) (Or.inl ⟨by rfl, ?_⟩) hS ?_
              rotate_left
              · (intro W hs; go_simp; first | done | with_reducible rfl)
              try simp only [Act.put, List.getElem_toArray, List.getElem_cons_zero, List.getElem_cons_succ, List.setIfInBounds_toArray, List.set_cons_zero, List.set_cons_succ]
              refine wpH_one (i := 40) (by kernel_rfl) rfl (fun K hK => ?_)
              go_simp
              refine (docEdges_any (RowV.no HXw.out hS) (by omega)).mono ?_
              rintro e y11 ⟨ev1, rfl, hfi, ho⟩
              have HN1 := Lib.hid (IntsV.no HN1.out hfi)
              have HN2 := Lib.hid (IntsV.no HN2.out hfi)
              have HE1 := Lib.hid (OwnT.row ho)
              clear ho
              have HZy11 : Hid (y10.heap.size ≤ y11.heap.size) := Lib.hid hfi.size
              have HSy11 : Hid (Fx No y10 y11) := Lib.hid hfi
              refine hK.out _ _ (hS.trans hfi) (fun hS' => ?_)
              clear hK K hS hfi 
              have hS := hS'
              clear hS'
              try simp only [Act.put, List.getElem_toArray, List.getElem_cons_zero, List.getElem_cons_succ, List.setIfInBounds_toArray, List.set_cons_zero, List.set_cons_succ]
              refine wpH_one (i := 42) (by kernel_rfl) rfl (fun K hK => ?_)
              go_simp
              refine (CEd.out _ _ _ _ _ _ HE1.out (RowV.no HXr.out hS)).mono ?_
              rintro e y12 ⟨rfl, hfi⟩
              have HN1 := Lib.hid (IntsV.no HN1.out hfi)
              have HN2 := Lib.hid (IntsV.no HN2.out hfi)
              have HE1 := Lib.hid (RowV.no HE1.out hfi)
              have HZy12 : Hid (y11.heap.size ≤ y12.heap.size) := Lib.hid hfi.size
              have HSy12 : Hid (Fx No y11 y12) := Lib.hid hfi
              refine hK.out _ _ (hS.trans hfi) (fun hS' => ?_)
              clear hK K hS hfi 
              have hS := hS'
              clear hS'
              try simp only [Act.put, List.getElem_toArray, List.getElem_cons_zero, List.getElem_cons_succ, List.setIfInBounds_toArray, List.set_cons_zero, List.set_cons_succ]
              refine wpAnyH_take (i := 43) (v := ?_) rfl (by kernel_rfl) (by kernel_rfl) (by kernel_rfl) (fun _ _ _ h => h) (Or.inl ⟨by rfl, ?_⟩) hS ?_
              rotate_left
              · (intro W hs; go_simp; first | done | with_reducible rfl)
              try simp only [Act.put, List.getElem_toArray, List.getElem_cons_zero, List.getElem_cons_succ, List.setIfInBounds_toArray, List.set_cons_zero, List.set_cons_succ]
              refine wpAnyH_take (i := 44) (v := ?_) rfl (by kernel_rfl) (by kernel_rfl) (by kernel_rfl) (fun _ _ _ h => h) (Or.inl ⟨by rfl, ?_⟩) hS ?_
              rotate_left
              · (intro W hs; go_simp; first | done | with_reducible rfl)
              try simp only [Act.put, List.getElem_toArray, List.getElem_cons_zero, List.getElem_cons_succ, List.setIfInBounds_toArray, List.set_cons_zero, List.set_cons_succ]
              refine wpAnyH_take (i := 45) (v := ?_) rfl (by kernel_rfl) (by kernel_rfl) (by kernel_rfl) (fun _ _ _ h => h) (Or.inl ⟨by rfl, ?_⟩) hS ?_
              rotate_left
              · (intro W hs; go_simp; first | done | with_reducible rfl)
              try simp only [Act.put, List.getElem_toArray, List.getElem_cons_zero, List.getElem_cons_succ, List.setIfInBounds_toArray, List.set_cons_zero, List.set_cons_succ]
              refine wpAnyH_take (i := 47) (v := ?_) rfl (by kernel_rfl) (by kernel_rfl) (by kernel_rfl) (fun _ _ _ h => h) (Or.inl ⟨by rfl, ?_⟩) hS ?_
              rotate_left
              · (intro W hs; go_simp; first | done | with_reducible rfl)
              try simp only [Act.put, List.getElem_toArray, List.getElem_cons_zero, List.getElem_cons_succ, List.setIfInBounds_toArray, List.set_cons_zero, List.set_cons_succ]
              refine wpH_one (i := 46) (by kernel_rfl) rfl (fun K hK => ?_)
              go_simp
              refine (docGraph_any (HGe.out.no hS)).mono ?_
              rintro e y13 ⟨v1, rfl, hfi, ho⟩
              have HN1 := Lib.hid (IntsV.no HN1.out hfi)
              have HN2 := Lib.hid (IntsV.no HN2.out hfi)
              have HE1 := Lib.hid (RowV.no HE1.out hfi)
              obtain ⟨so1, sc1, rfl, _⟩ := EdsV.facts (OwnT.row ho)
              have HO1 := Lib.hid (OwnT.row ho)
              clear ho
              have HZy13 : Hid (y12.heap.size ≤ y13.heap.size) := Lib.hid hfi.size
              have HSy13 : Hid (Fx No y12 y13) := Lib.hid hfi
              refine hK.out _ _ (hS.trans hfi) (fun hS' => ?_)
              clear hK K hS hfi 
              have hS := hS'
              clear hS'
              try simp only [Act.put, List.getElem_toArray, List.getElem_cons_zero, List.getElem_cons_succ, List.setIfInBounds_toArray, List.set_cons_zero, List.set_cons_succ]
              refine wpH_one (i := 48) (by kernel_rfl) rfl (fun K hK => ?_)
              go_simp
              refine (CS.out _ _ _ hS HO1.out).mono ?_
              rintro e y14 ⟨rfl, hfi⟩
              have HN1 := Lib.hid (IntsV.no HN1.out hfi)
              have HN2 := Lib.hid (IntsV.no HN2.out hfi)
              have HE1 := Lib.hid (RowV.no HE1.out hfi)
              have HO1 := Lib.hid (RowV.no HO1.out hfi)
              have HZy14 : Hid (y13.heap.size ≤ y14.heap.size) := Lib.hid hfi.size
              have HSy14 : Hid (Fx No y13 y14) := Lib.hid hfi
              refine hK.out _ _ (hS.trans hfi) (fun hS' => ?_)
              clear hK K hS hfi 
              have hS := hS'
              clear hS'
              try simp only [Act.put, List.getElem_toArray, List.getElem_cons_zero, List.getElem_cons_succ, List.setIfInBounds_toArray, List.set_cons_zero, List.set_cons_succ]
              refine wpAnyH_take (i := 49) (v := ?_) rfl (by kernel_rfl) (by kernel_rfl) (by kernel_rfl) (fun _ _ _ h => h) (Or.inl ⟨by rfl, ?_⟩) hS ?_
              rotate_left
              · (intro W hs; go_simp; first | done | with_reducible rfl)
              try simp only [Act.put, List.getElem_toArray, List.getElem_cons_zero, List.getElem_cons_succ, List.setIfInBounds_toArray, List.set_cons_zero, List.set_cons_succ]
              refine wpAnyH_take (i := 50) (v := ?_) rfl (by kernel_rfl) (by kernel_rfl) (by kernel_rfl) (fun _ _ _ h => h) (Or.inl ⟨by rfl, ?_⟩) hS ?_
              rotate_left
              · (intro W hs; go_simp; first | done | with_reducible rfl)
              try simp only [Act.put, List.getElem_toArray, List.getElem_cons_zero, List.getElem_cons_succ, List.setIfInBounds_toArray, List.set_cons_zero, List.set_cons_succ]
              refine wpH_one (i := 51) (by kernel_rfl) rfl (fun K hK => ?_)
              go_simp
              refine (works_any _).mono ?_
              rintro e y15 ⟨rfl, hfi⟩
              have HN1 := Lib.hid (IntsV.no HN1.out hfi)
              have HN2 := Lib.hid (IntsV.no HN2.out hfi)
              have HE1 := Lib.hid (RowV.no HE1.out hfi)
              have HO1 := Lib.hid (RowV.no HO1.out hfi)
              have HZy15 : Hid (y14.heap.size ≤ y15.heap.size) := Lib.hid hfi.size
              have HSy15 : Hid (Fx No y14 y15) := Lib.hid hfi
              refine hK.out _ _ (hS.trans hfi) (fun hS' => ?_)
              clear hK K hS hfi 
              have hS := hS'
              clear hS'
              try simp only [Act.put, List.getElem_toArray, List.getElem_cons_zero, List.getElem_cons_succ, List.setIfInBounds_toArray, List.set_cons_zero, List.set_cons_succ]
              refine wpAnyH_take (i := 52) (v := ?_) rfl (by kernel_rfl) (by kernel_rfl) (by kernel_rfl) (fun _ _ _ h => h) (Or.inl ⟨by rfl, ?_⟩) hS ?_
              rotate_left
              · (intro W hs; go_simp; first | done | with_reducible rfl)
              try simp only [Act.put, List.getElem_toArray, List.getElem_cons_zero, List.getElem_cons_succ, List.setIfInBounds_toArray, List.set_cons_zero, List.set_cons_succ]
              refine wpAnyH_take (i := 53) (v := ?_) rfl (by kernel_rfl) (by kernel_rfl) (by kernel_rfl) (fun _ _ _ h => h) (Or.inl ⟨by rfl, ?_⟩) hS ?_
              rotate_left
              · (intro W hs; go_simp; first | done | with_reducible rfl)
              try simp only [Act.put, List.getElem_toArray, List.getElem_cons_zero, List.getElem_cons_succ, List.setIfInBounds_toArray, List.set_cons_zero, List.set_cons_succ]
              refine wpAnyH_done (by kernel_rfl) ?_ _
              have HZ := Lib.hid hS
              clear hS hS0
              go_wp2
              go_ret
              exact ⟨rfl, HFx.out.trans (HFe.out.trans HZ.out)⟩
            | true =>
              have HW : Hid (walkB (fun x => decide (x ∈ L)) X = tO) := Lib.hid (by unfold walkB; rw [hC]; rw [HTO.out]; simp)
              have HCl : Hid (closedB (fun x => decide (x ∈ L)) X = tO) := Lib.hid (by unfold closedB; rw [hR, HW.out]; simp)
              have CW : Hid (∀ W, Fx No we W → Calls Tryz.prog 14 #[.pointer (some ⟨gb, 0, none⟩), .slice vo X.length vc] W fun e w' => e = .returned (.bool tO) ∧ Fx No W w') := Lib.hid fun W hW => (walk_any (RowV.no HXw.out hW) (HasP.graph (HGe.out.no hW) HXok.out)).mono fun e w' ⟨h1, h2⟩ => ⟨by rw [h1, HW.out], h2⟩
              have CC : Hid (∀ W, Fx No we W → Calls Tryz.prog 17 #[.pointer (some ⟨gb, 0, none⟩), .slice vo X.length vc] W fun e w' => e = .returned (.bool tO) ∧ Fx No W w') := Lib.hid fun W hW => (closed_any (RowV.no HXw.out hW) (HasP.graph (HGe.out.no hW) HXok.out)).mono fun e w' ⟨h1, h2⟩ => ⟨by rw [h1, HCl.out], h2⟩
              have CRW : Hid (∀ W, Fx No we W → Calls Tryz.prog 15 #[.slice xo X.length xc] W fun e w' => e = .returned (.bool true) ∧ Fx No W w') := Lib.hid fun W hW => (refWalkE_any (RowV.no HXr.out hW)).mono fun e w' ⟨h1, h2⟩ => ⟨by rw [h1, hC], h2⟩
              have CRC : Hid (∀ W, Fx No we W → Calls Tryz.prog 18 #[.slice xo X.length xc] W fun e w' => e = .returned (.bool true) ∧ Fx No W w') := Lib.hid fun W hW => (refClosed_any (RowV.no HXr.out hW)).mono fun e w' ⟨h1, h2⟩ => ⟨by rw [h1, hR], h2⟩
              have CSi : Hid (∀ W, Fx No we W → Calls Tryz.prog 19 #[.slice vo X.length vc] W fun e w' => e = .returned (.bool (apartB X)) ∧ Fx No W w') := Lib.hid fun W hW => (simple_any (RowV.no HXw.out hW) (by omega)).mono fun e w' ⟨h1, h2⟩ => ⟨by rw [h1, hR]; simp, h2⟩
              have CRS : Hid (∀ W, Fx No we W → Calls Tryz.prog 20 #[.slice xo X.length xc] W fun e w' => e = .returned (.bool (apartB X)) ∧ Fx No W w') := Lib.hid fun W hW => (refSimple_any (RowV.no HXr.out hW) (by omega)).mono fun e w' ⟨h1, h2⟩ => ⟨by rw [h1, hR]; simp, h2⟩
              clear hC hR HW HCl
              go_wp2
              refine wp_region_H (fun W => Fx No we W) (by kernel_rfl) ((Fx.refl _ _).drew) ?_
              intro hS
              refine wpAnyH_hold (fun W' => Fx No we W') hS ?_
              clear hS
              rintro y0 hS
              have hS0 := hS
              refine wpAnyH_take (i := 0) (v := ?_) rfl (by kernel_rfl) (by kernel_rfl) (by kernel_rfl) (fun _ _ _ h => h) (Or.inl ⟨by rfl, ?_⟩) hS ?_
              rotate_left
              · (intro W hs; go_simp; first | done | with_reducible rfl)
              try simp only [Act.put, List.getElem_toArray, List.getElem_cons_zero, List.setIfInBounds_toArray, List.set_cons_zero, List.set_cons_succ]
              refine wpAnyH_take (i := 1) (v := ?_) rfl (by kernel_rfl) (by kernel_rfl) (by kernel_rfl) (fun _ _ _ h => h) (Or.inl ⟨by rfl, ?_⟩) hS ?_
              rotate_left
              · (intro W hs; go_simp; first | done | with_reducible rfl)
              try simp only [Act.put, List.getElem_toArray, List.getElem_cons_zero, List.getElem_cons_succ, List.setIfInBounds_toArray, List.set_cons_zero, List.set_cons_succ]
              refine wpAnyH_take (i := 3) (v := ?_) rfl (by kernel_rfl) (by kernel_rfl) (by kernel_rfl) (fun _ _ _ h => h) (Or.inl ⟨by rfl, ?_⟩) hS ?_
              rotate_left
              · (intro W hs; go_simp; first | done | with_reducible rfl)
              try simp only [Act.put, List.getElem_toArray, List.getElem_cons_zero, List.getElem_cons_succ, List.setIfInBounds_toArray, List.set_cons_zero, List.set_cons_succ]
              refine wpH_one (i := 2) (by kernel_rfl) rfl (fun K hK => ?_)
              go_simp
              refine (CW.out _ hS).mono ?_
              rintro e y1 ⟨rfl, hfi⟩
              have HZy1 : Hid (y0.heap.size ≤ y1.heap.size) := Lib.hid hfi.size
              have HSy1 : Hid (Fx No y0 y1) := Lib.hid hfi
              refine hK.out _ _ (hS.trans hfi) (fun hS' => ?_)
              clear hK K hS hfi 
              have hS := hS'
              clear hS'
              try simp only [Act.put, List.getElem_toArray, List.getElem_cons_zero, List.getElem_cons_succ, List.setIfInBounds_toArray, List.set_cons_zero, List.set_cons_succ]
              refine wpH_one (i := 4) (by kernel_rfl) rfl (fun K hK => ?_)
              go_simp
              refine (CRW.out _ hS).mono ?_
              rintro e y2 ⟨rfl, hfi⟩
              have HZy2 : Hid (y1.heap.size ≤ y2.heap.size) := Lib.hid hfi.size
              have HSy2 : Hid (Fx No y1 y2) := Lib.hid hfi
              refine hK.out _ _ (hS.trans hfi) (fun hS' => ?_)
              clear hK K hS hfi 
              have hS := hS'
              clear hS'
              try simp only [Act.put, List.getElem_toArray, List.getElem_cons_zero, List.getElem_cons_succ, List.setIfInBounds_toArray, List.set_cons_zero, List.set_cons_succ]
              refine wpAnyH_take (i := 5) (v := ?_) rfl (by kernel_rfl) (by kernel_rfl) (by kernel_rfl) (fun _ _ _ h => h) (Or.inl ⟨by rfl, ?_⟩) hS ?_
              rotate_left
              · (intro W hs; go_simp; first | done | with_reducible rfl)
              try simp only [Act.put, List.getElem_toArray, List.getElem_cons_zero, List.getElem_cons_succ, List.setIfInBounds_toArray, List.set_cons_zero, List.set_cons_succ]
              refine wpAnyH_take (i := 6) (v := ?_) rfl (by kernel_rfl) (by kernel_rfl) (by kernel_rfl) (fun _ _ _ h => h) (Or.inl ⟨by rfl, ?_⟩) hS ?_
              rotate_left
              · (intro W hs; go_simp; first | done | with_reducible rfl)
              try simp only [Act.put, List.getElem_toArray, List.getElem_cons_zero, List.getElem_cons_succ, List.setIfInBounds_toArray, List.set_cons_zero, List.set_cons_succ]
              refine wpAnyH_take (i := 7) (v := ?_) rfl (by kernel_rfl) (by kernel_rfl) (by kernel_rfl) (fun _ _ _ h => h) (Or.inl ⟨by rfl, ?_⟩) hS ?_
              rotate_left
              · (intro W hs; go_simp; first | done | with_reducible rfl)
              try simp only [Act.put, List.getElem_toArray, List.getElem_cons_zero, List.getElem_cons_succ, List.setIfInBounds_toArray, List.set_cons_zero, List.set_cons_succ]
              refine wpH_one (i := 8) (by kernel_rfl) rfl (fun K hK => ?_)
              go_simp
              refine (COf.out _ hS).mono ?_
              rintro e y3 ⟨rfl, hfi⟩
              have HZy3 : Hid (y2.heap.size ≤ y3.heap.size) := Lib.hid hfi.size
              have HSy3 : Hid (Fx No y2 y3) := Lib.hid hfi
              refine hK.out _ _ (hS.trans hfi) (fun hS' => ?_)
              clear hK K hS hfi 
              have hS := hS'
              clear hS'
              try simp only [Act.put, List.getElem_toArray, List.getElem_cons_zero, List.getElem_cons_succ, List.setIfInBounds_toArray, List.set_cons_zero, List.set_cons_succ]
              refine wpAnyH_take (i := 9) (v := ?_) rfl (by kernel_rfl) (by kernel_rfl) (by kernel_rfl) (fun _ _ _ h => h) (Or.inl ⟨by rfl, ?_⟩) hS ?_
              rotate_left
              · (intro W hs; go_simp; first | done | with_reducible rfl)
              try simp only [Act.put, List.getElem_toArray, List.getElem_cons_zero, List.getElem_cons_succ, List.setIfInBounds_toArray, List.set_cons_zero, List.set_cons_succ]
              refine wpAnyH_take (i := 10) (v := ?_) rfl (by kernel_rfl) (by kernel_rfl) (by kernel_rfl) (fun _ _ _ h => h) (Or.inl ⟨by rfl, ?_⟩) hS ?_
              rotate_left
              · (intro W hs; go_simp; first | done | with_reducible rfl)
              try simp only [Act.put, List.getElem_toArray, List.getElem_cons_zero, List.getElem_cons_succ, List.setIfInBounds_toArray, List.set_cons_zero, List.set_cons_succ]
              refine wpAnyH_take (i := 11) (v := ?_) rfl (by kernel_rfl) (by kernel_rfl) (by kernel_rfl) (fun _ _ _ h => h) (Or.inl ⟨by rfl, ?_⟩) hS ?_
              rotate_left
              · (intro W hs; go_simp; first | done | with_reducible rfl)
              try simp only [Act.put, List.getElem_toArray, List.getElem_cons_zero, List.getElem_cons_succ, List.setIfInBounds_toArray, List.set_cons_zero, List.set_cons_succ]
              refine wpAnyH_take (i := 12) (v := ?_) rfl (by kernel_rfl) (by kernel_rfl) (by kernel_rfl) (fun _ _ _ h => h) (Or.inl ⟨by rfl, ?_⟩) hS ?_
              rotate_left
              · (intro W hs; go_simp; first | done | with_reducible rfl)
              try simp only [Act.put, List.getElem_toArray, List.getElem_cons_zero, List.getElem_cons_succ, List.setIfInBounds_toArray, List.set_cons_zero, List.set_cons_succ]
              refine wpAnyH_take (i := 13) (v := ?_) rfl (by kernel_rfl) (by kernel_rfl) (by kernel_rfl) (fun _ _ _ h => h) (Or.inl ⟨by rfl, ?_⟩) hS ?_
              rotate_left
              · (intro W hs; go_simp; first | done | with_reducible rfl)
              try simp only [Act.put, List.getElem_toArray, List.getElem_cons_zero, List.getElem_cons_succ, List.setIfInBounds_toArray, List.set_cons_zero, List.set_cons_succ]
              refine wpAnyH_take (i := 15) (v := ?_) rfl (by kernel_rfl) (by kernel_rfl) (by kernel_rfl) (fun _ _ _ h => h) (Or.inl ⟨by rfl, ?_⟩) hS ?_
              rotate_left
              · (intro W hs; go_simp; first | done | with_reducible rfl)
              try simp only [Act.put, List.getElem_toArray, List.getElem_cons_zero, List.getElem_cons_succ, List.setIfInBounds_toArray, List.set_cons_zero, List.set_cons_succ]
              refine wpH_one (i := 14) (by kernel_rfl) rfl (fun K hK => ?_)
              go_simp
              refine (CC.out _ hS).mono ?_
              rintro e y4 ⟨rfl, hfi⟩
              have HZy4 : Hid (y3.heap.size ≤ y4.heap.size) := Lib.hid hfi.size
              have HSy4 : Hid (Fx No y3 y4) := Lib.hid hfi
              refine hK.out _ _ (hS.trans hfi) (fun hS' => ?_)
              clear hK K hS hfi 
              have hS := hS'
              clear hS'
              try simp only [Act.put, List.getElem_toArray, List.getElem_cons_zero, List.getElem_cons_succ, List.setIfInBounds_toArray, List.set_cons_zero, List.set_cons_succ]
              refine wpH_one (i := 16) (by kernel_rfl) rfl (fun K hK => ?_)
              go_simp
              refine (CRC.out _ hS).mono ?_
              rintro e y5 ⟨rfl, hfi⟩
              have HZy5 : Hid (y4.heap.size ≤ y5.heap.size) := Lib.hid hfi.size
              have HSy5 : Hid (Fx No y4 y5) := Lib.hid hfi
              refine hK.out _ _ (hS.trans hfi) (fun hS' => ?_)
              clear hK K hS hfi 
              have hS := hS'
              clear hS'
              try simp only [Act.put, List.getElem_toArray, List.getElem_cons_zero, List.getElem_cons_succ, List.setIfInBounds_toArray, List.set_cons_zero, List.set_cons_succ]
              refine wpAnyH_take (i := 17) (v := ?_) rfl (by kernel_rfl) (by kernel_rfl) (by kernel_rfl) (fun _ _ _ h => h) (Or.inl ⟨by rfl, ?_⟩) hS ?_
              rotate_left
              · (intro W hs; go_simp; first | done | with_reducible rfl)
              try simp only [Act.put, List.getElem_toArray, List.getElem_cons_zero, List.getElem_cons_succ, List.setIfInBounds_toArray, List.set_cons_zero, List.set_cons_succ]
              refine wpAnyH_take (i := 18) (v := ?_) rfl (by kernel_rfl) (by kernel_rfl) (by kernel_rfl) (fun _ _ _ h => h) (Or.inl ⟨by rfl, ?_⟩) hS ?_
              rotate_left
              · (intro W hs; go_simp; first | done | with_reducible rfl)
              try simp only [Act.put, List.getElem_toArray, List.getElem_cons_zero, List.getElem_cons_succ, List.setIfInBounds_toArray, List.set_cons_zero, List.set_cons_succ]
              refine wpAnyH_take (i := 19) (v := ?_) rfl (by kernel_rfl) (by kernel_rfl) (by kernel_rfl) (fun _ _ _ h => h) (Or.inl ⟨by rfl, ?_⟩) hS ?_
              rotate_left
              · (intro W hs; go_simp; first | done | with_reducible rfl)
              try simp only [Act.put, List.getElem_toArray, List.getElem_cons_zero, List.getElem_cons_succ, List.setIfInBounds_toArray, List.set_cons_zero, List.set_cons_succ]
              refine wpH_one (i := 20) (by kernel_rfl) rfl (fun K hK => ?_)
              go_simp
              refine (COf.out _ hS).mono ?_
              rintro e y6 ⟨rfl, hfi⟩
              have HZy6 : Hid (y5.heap.size ≤ y6.heap.size) := Lib.hid hfi.size
              have HSy6 : Hid (Fx No y5 y6) := Lib.hid hfi
              refine hK.out _ _ (hS.trans hfi) (fun hS' => ?_)
              clear hK K hS hfi 
              have hS := hS'
              clear hS'
              try simp only [Act.put, List.getElem_toArray, List.getElem_cons_zero, List.getElem_cons_succ, List.setIfInBounds_toArray, List.set_cons_zero, List.set_cons_succ]
              refine wpAnyH_take (i := 21) (v := ?_) rfl (by kernel_rfl) (by kernel_rfl) (by kernel_rfl) (fun _ _ _ h => h) (Or.inl ⟨by rfl, ?_⟩) hS ?_
              rotate_left
              · (intro W hs; go_simp; first | done | with_reducible rfl)
              try simp only [Act.put, List.getElem_toArray, List.getElem_cons_zero, List.getElem_cons_succ, List.setIfInBounds_toArray, List.set_cons_zero, List.set_cons_succ]
              refine wpAnyH_take (i := 22) (v := ?_) rfl (by kernel_rfl) (by kernel_rfl) (by kernel_rfl) (fun _ _ _ h => h) (Or.inl ⟨by rfl, ?_⟩) hS ?_
              rotate_left
              · (intro W hs; go_simp; first | done | with_reducible rfl)
              try simp only [Act.put, List.getElem_toArray, List.getElem_cons_zero, List.getElem_cons_succ, List.setIfInBounds_toArray, List.set_cons_zero, List.set_cons_succ]
              refine wpAnyH_take (i := 23) (v := ?_) rfl (by kernel_rfl) (by kernel_rfl) (by kernel_rfl) (fun _ _ _ h => h) (Or.inl ⟨by rfl, ?_⟩) hS ?_
              rotate_left
              · (intro W hs; go_simp; first | done | with_reducible rfl)
              try simp only [Act.put, List.getElem_toArray, List.getElem_cons_zero, List.getElem_cons_succ, List.setIfInBounds_toArray, List.set_cons_zero, List.set_cons_succ]
              refine wpAnyH_take (i := 24) (v := ?_) rfl (by kernel_rfl) (by kernel_rfl) (by kernel_rfl) (fun _ _ _ h => h) (Or.inl ⟨by rfl, ?_⟩) hS ?_
              rotate_left
              · (intro W hs; go_simp; first | done | with_reducible rfl)
              try simp only [Act.put, List.getElem_toArray, List.getElem_cons_zero, List.getElem_cons_succ, List.setIfInBounds_toArray, List.set_cons_zero, List.set_cons_succ]
              refine wpAnyH_take (i := 25) (v := ?_) rfl (by kernel_rfl) (by kernel_rfl) (by kernel_rfl) (fun _ _ _ h => h) (Or.inl ⟨by rfl, ?_⟩) hS ?_
              rotate_left
              · (intro W hs; go_simp; first | done | with_reducible rfl)
              try simp only [Act.put, List.getElem_toArray, List.getElem_cons_zero, List.getElem_cons_succ, List.setIfInBounds_toArray, List.set_cons_zero, List.set_cons_succ]
              refine wpAnyH_take (i := 27) (v := ?_) rfl (by kernel_rfl) (by kernel_rfl) (by kernel_rfl) (fun _ _ _ h => h) (Or.inl ⟨by rfl, ?_⟩) hS ?_
              rotate_left
              · (intro W hs; go_simp; first | done | with_reducible rfl)
              try simp only [Act.put, List.getElem_toArray, List.getElem_cons_zero, List.getElem_cons_succ, List.setIfInBounds_toArray, List.set_cons_zero, List.set_cons_succ]
              refine wpH_one (i := 26) (by kernel_rfl) rfl (fun K hK => ?_)
              go_simp
              refine (CSi.out _ hS).mono ?_
              rintro e y7 ⟨rfl, hfi⟩
              have HZy7 : Hid (y6.heap.size ≤ y7.heap.size) := Lib.hid hfi.size
              have HSy7 : Hid (Fx No y6 y7) := Lib.hid hfi
              refine hK.out _ _ (hS.trans hfi) (fun hS' => ?_)
              clear hK K hS hfi 
              have hS := hS'
              clear hS'
              try simp only [Act.put, List.getElem_toArray, List.getElem_cons_zero, List.getElem_cons_succ, List.setIfInBounds_toArray, List.set_cons_zero, List.set_cons_succ]
              refine wpH_one (i := 28) (by kernel_rfl) rfl (fun K hK => ?_)
              go_simp
              refine (CRS.out _ hS).mono ?_
              rintro e y8 ⟨rfl, hfi⟩
              have HZy8 : Hid (y7.heap.size ≤ y8.heap.size) := Lib.hid hfi.size
              have HSy8 : Hid (Fx No y7 y8) := Lib.hid hfi
              refine hK.out _ _ (hS.trans hfi) (fun hS' => ?_)
              clear hK K hS hfi 
              have hS := hS'
              clear hS'
              try simp only [Act.put, List.getElem_toArray, List.getElem_cons_zero, List.getElem_cons_succ, List.setIfInBounds_toArray, List.set_cons_zero, List.set_cons_succ]
              refine wpAnyH_take (i := 29) (v := ?_) rfl (by kernel_rfl) (by kernel_rfl) (by kernel_rfl) (fun _ _ _ h => h) (Or.inl ⟨by rfl, ?_⟩) hS ?_
              rotate_left
              · (intro W hs; go_simp; first | done | with_reducible rfl)
              try simp only [Act.put, List.getElem_toArray, List.getElem_cons_zero, List.getElem_cons_succ, List.setIfInBounds_toArray, List.set_cons_zero, List.set_cons_succ]
              refine wpAnyH_take (i := 30) (v := ?_) rfl (by kernel_rfl) (by kernel_rfl) (by kernel_rfl) (fun _ _ _ h => h) (Or.inl ⟨by rfl, ?_⟩) hS ?_
              rotate_left
              · (intro W hs; go_simp; first | done | with_reducible rfl)
              try simp only [Act.put, List.getElem_toArray, List.getElem_cons_zero, List.getElem_cons_succ, List.setIfInBounds_toArray, List.set_cons_zero, List.set_cons_succ]
              refine wpAnyH_take (i := 31) (v := ?_) rfl (by kernel_rfl) (by kernel_rfl) (by kernel_rfl) (fun _ _ _ h => h) (Or.inl ⟨by rfl, ?_⟩) hS ?_
              rotate_left
              · (intro W hs; go_simp; first | done | with_reducible rfl)
              try simp only [Act.put, List.getElem_toArray, List.getElem_cons_zero, List.getElem_cons_succ, List.setIfInBounds_toArray, List.set_cons_zero, List.set_cons_succ]
              refine wpAnyH_take (i := 32) (v := ?_) rfl (by kernel_rfl) (by kernel_rfl) (by kernel_rfl) (fun _ _ _ h => h) (Or.inl ⟨by rfl, ?_⟩) hS ?_
              rotate_left
              · (intro W hs; go_simp; first | done | with_reducible rfl)
              try simp only [Act.put, List.getElem_toArray, List.getElem_cons_zero, List.getElem_cons_succ, List.setIfInBounds_toArray, List.set_cons_zero, List.set_cons_succ]
              refine wpAnyH_take (i := 34) (v := ?_) rfl (by kernel_rfl) (by kernel_rfl) (by kernel_rfl) (fun _ _ _ h => h) (Or.inl ⟨by rfl, ?_⟩) hS ?_
              rotate_left
              · (intro W hs; go_simp; first | done | with_reducible rfl)
              try simp only [Act.put, List.getElem_toArray, List.getElem_cons_zero, List.getElem_cons_succ, List.setIfInBounds_toArray, List.set_cons_zero, List.set_cons_succ]
              refine wpH_one (i := 33) (by kernel_rfl) rfl (fun K hK => ?_)
              go_simp
              refine (nodes_any (RowV.no HXw.out hS) (by omega)).mono ?_
              rintro e y9 ⟨nv1, rfl, hfi, ho⟩
              have HN1 := Lib.hid (RowI.ofOwn ho).toInts
              clear ho
              have HZy9 : Hid (y8.heap.size ≤ y9.heap.size) := Lib.hid hfi.size
              have HSy9 : Hid (Fx No y8 y9) := Lib.hid hfi
              refine hK.out _ _ (hS.trans hfi) (fun hS' => ?_)
              clear hK K hS hfi 
              have hS := hS'
              clear hS'
              try simp only [Act.put, List.getElem_toArray, List.getElem_cons_zero, List.getElem_cons_succ, List.setIfInBounds_toArray, List.set_cons_zero, List.set_cons_succ]
              refine wpH_one (i := 35) (by kernel_rfl) rfl (fun K hK => ?_)
              go_simp
              refine (refNodes_any (RowV.no HXr.out hS) (by omega)).mono ?_
              rintro e y10 ⟨nv2, rfl, hfi, ho⟩
              have HN1 := Lib.hid (IntsV.no HN1.out hfi)
              have HN2 := Lib.hid (RowI.ofOwn ho).toInts
              clear ho
              have HZy10 : Hid (y9.heap.size ≤ y10.heap.size) := Lib.hid hfi.size
              have HSy10 : Hid (Fx No y9 y10) := Lib.hid hfi
              refine hK.out _ _ (hS.trans hfi) (fun hS' => ?_)
              clear hK K hS hfi 
              have hS := hS'
              clear hS'
              try simp only [Act.put, List.getElem_toArray, List.getElem_cons_zero, List.getElem_cons_succ, List.setIfInBounds_toArray, List.set_cons_zero, List.set_cons_succ]
              refine wpH_one (i := 36) (by kernel_rfl) rfl (fun K hK => ?_)
              go_simp
              refine (CI.out _ _ _ _ _ _ HN1.out HN2.out).mono ?_
              rintro e y11 ⟨rfl, hfi⟩
              have HN1 := Lib.hid (IntsV.no HN1.out hfi)
              have HN2 := Lib.hid (IntsV.no HN2.out hfi)
              have HZy11 : Hid (y10.heap.size ≤ y11.heap.size) := Lib.hid hfi.size
              have HSy11 : Hid (Fx No y10 y11) := Lib.hid hfi
              refine hK.out _ _ (hS.trans hfi) (fun hS' => ?_)
              clear hK K hS hfi 
              have hS := hS'
              clear hS'
              try simp only [Act.put, List.getElem_toArray, List.getElem_cons_zero, List.getElem_cons_succ, List.setIfInBounds_toArray, List.set_cons_zero, List.set_cons_succ]
              refine wpAnyH_take (i := 37) (v := ?_) rfl (by kernel_rfl) (by kernel_rfl) (by kernel_rfl) (fun _ _ _ h => h) (Or.inl ⟨by rfl, ?_⟩) hS ?_
              rotate_left
              · (intro W hs; go_simp; first | done | with_reducible rfl)
              try simp only [Act.put, List.getElem_toArray, List.getElem_cons_zero, List.getElem_cons_succ, List.setIfInBounds_toArray, List.set_cons_zero, List.set_cons_succ]
              refine wpAnyH_take (i := 38) (v := ?_) rfl (by kernel_rfl) (by kernel_rfl) (by kernel_rfl) (fun _ _ _ h => h) (Or.inl ⟨by rfl, ?_⟩) hS ?_
              rotate_left
              · (intro W hs; go_simp; first | done | with_reducible rfl)
              try simp only [Act.put, List.getElem_toArray, List.getElem_cons_zero, List.getElem_cons_succ, List.setIfInBounds_toArray, List.set_cons_zero, List.set_cons_succ]
              refine wpAnyH_take (i := 39) (v := ?_) rfl (by kernel_rfl) (by kernel_rfl) (by kernel_rfl) (fun _ _ _ h => h) (Or.inl ⟨by rfl, ?_⟩) hS ?_
              rotate_left
              · (intro W hs; go_simp; first | done | with_reducible rfl)
              try simp only [Act.put, List.getElem_toArray, List.getElem_cons_zero, List.getElem_cons_succ, List.setIfInBounds_toArray, List.set_cons_zero, List.set_cons_succ]
              refine wpAnyH_take (i := 41) (v := ?_) rfl (by kernel_rfl) (by kernel_rfl) (by kernel_rfl) (fun _ _ _ h => h) (Or.inl ⟨by rfl, ?_⟩) hS ?_
              rotate_left
              · (intro W hs; go_simp; first | done | with_reducible rfl)
              try simp only [Act.put, List.getElem_toArray, List.getElem_cons_zero, List.getElem_cons_succ, List.setIfInBounds_toArray, List.set_cons_zero, List.set_cons_succ]
              refine wpH_one (i := 40) (by kernel_rfl) rfl (fun K hK => ?_)
              go_simp
              refine (docEdges_any (RowV.no HXw.out hS) (by omega)).mono ?_
              rintro e y12 ⟨ev1, rfl, hfi, ho⟩
              have HN1 := Lib.hid (IntsV.no HN1.out hfi)
              have HN2 := Lib.hid (IntsV.no HN2.out hfi)
              have HE1 := Lib.hid (OwnT.row ho)
              clear ho
              have HZy12 : Hid (y11.heap.size ≤ y12.heap.size) := Lib.hid hfi.size
              have HSy12 : Hid (Fx No y11 y12) := Lib.hid hfi
              refine hK.out _ _ (hS.trans hfi) (fun hS' => ?_)
              clear hK K hS hfi 
              have hS := hS'
              clear hS'
              try simp only [Act.put, List.getElem_toArray, List.getElem_cons_zero, List.getElem_cons_succ, List.setIfInBounds_toArray, List.set_cons_zero, List.set_cons_succ]
              refine wpH_one (i := 42) (by kernel_rfl) rfl (fun K hK => ?_)
              go_simp
              refine (CEd.out _ _ _ _ _ _ HE1.out (RowV.no HXr.out hS)).mono ?_
              rintro e y13 ⟨rfl, hfi⟩
              have HN1 := Lib.hid (IntsV.no HN1.out hfi)
              have HN2 := Lib.hid (IntsV.no HN2.out hfi)
              have HE1 := Lib.hid (RowV.no HE1.out hfi)
              have HZy13 : Hid (y12.heap.size ≤ y13.heap.size) := Lib.hid hfi.size
              have HSy13 : Hid (Fx No y12 y13) := Lib.hid hfi
              refine hK.out _ _ (hS.trans hfi) (fun hS' => ?_)
              clear hK K hS hfi 
              have hS := hS'
              clear hS'
              try simp only [Act.put, List.getElem_toArray, List.getElem_cons_zero, List.getElem_cons_succ, List.setIfInBounds_toArray, List.set_cons_zero, List.set_cons_succ]
              refine wpAnyH_take (i := 43) (v := ?_) rfl (by kernel_rfl) (by kernel_rfl) (by kernel_rfl) (fun _ _ _ h => h) (Or.inl ⟨by rfl, ?_⟩) hS ?_
              rotate_left
              · (intro W hs; go_simp; first | done | with_reducible rfl)
              try simp only [Act.put, List.getElem_toArray, List.getElem_cons_zero, List.getElem_cons_succ, List.setIfInBounds_toArray, List.set_cons_zero, List.set_cons_succ]
              refine wpAnyH_take (i := 44) (v := ?_) rfl (by kernel_rfl) (by kernel_rfl) (by kernel_rfl) (fun _ _ _ h => h) (Or.inl ⟨by rfl, ?_⟩) hS ?_
              rotate_left
              · (intro W hs; go_simp; first | done | with_reducible rfl)
              try simp only [Act.put, List.getElem_toArray, List.getElem_cons_zero, List.getElem_cons_succ, List.setIfInBounds_toArray, List.set_cons_zero, List.set_cons_succ]
              refine wpAnyH_take (i := 45) (v := ?_) rfl (by kernel_rfl) (by kernel_rfl) (by kernel_rfl) (fun _ _ _ h => h) (Or.inl ⟨by rfl, ?_⟩) hS ?_
              rotate_left
              · (intro W hs; go_simp; first | done | with_reducible rfl)
              try simp only [Act.put, List.getElem_toArray, List.getElem_cons_zero, List.getElem_cons_succ, List.setIfInBounds_toArray, List.set_cons_zero, List.set_cons_succ]
              refine wpAnyH_take (i := 47) (v := ?_) rfl (by kernel_rfl) (by kernel_rfl) (by kernel_rfl) (fun _ _ _ h => h) (Or.inl ⟨by rfl, ?_⟩) hS ?_
              rotate_left
              · (intro W hs; go_simp; first | done | with_reducible rfl)
              try simp only [Act.put, List.getElem_toArray, List.getElem_cons_zero, List.getElem_cons_succ, List.setIfInBounds_toArray, List.set_cons_zero, List.set_cons_succ]
              refine wpH_one (i := 46) (by kernel_rfl) rfl (fun K hK => ?_)
              go_simp
              refine (docGraph_any (HGe.out.no hS)).mono ?_
              rintro e y14 ⟨v1, rfl, hfi, ho⟩
              have HN1 := Lib.hid (IntsV.no HN1.out hfi)
              have HN2 := Lib.hid (IntsV.no HN2.out hfi)
              have HE1 := Lib.hid (RowV.no HE1.out hfi)
              obtain ⟨so1, sc1, rfl, _⟩ := EdsV.facts (OwnT.row ho)
              have HO1 := Lib.hid (OwnT.row ho)
              clear ho
              have HZy14 : Hid (y13.heap.size ≤ y14.heap.size) := Lib.hid hfi.size
              have HSy14 : Hid (Fx No y13 y14) := Lib.hid hfi
              refine hK.out _ _ (hS.trans hfi) (fun hS' => ?_)
              clear hK K hS hfi 
              have hS := hS'
              clear hS'
              try simp only [Act.put, List.getElem_toArray, List.getElem_cons_zero, List.getElem_cons_succ, List.setIfInBounds_toArray, List.set_cons_zero, List.set_cons_succ]
              refine wpH_one (i := 48) (by kernel_rfl) rfl (fun K hK => ?_)
              go_simp
              refine (CS.out _ _ _ hS HO1.out).mono ?_
              rintro e y15 ⟨rfl, hfi⟩
              have HN1 := Lib.hid (IntsV.no HN1.out hfi)
              have HN2 := Lib.hid (IntsV.no HN2.out hfi)
              have HE1 := Lib.hid (RowV.no HE1.out hfi)
              have HO1 := Lib.hid (RowV.no HO1.out hfi)
              have HZy15 : Hid (y14.heap.size ≤ y15.heap.size) := Lib.hid hfi.size
              have HSy15 : Hid (Fx No y14 y15) := Lib.hid hfi
              refine hK.out _ _ (hS.trans hfi) (fun hS' => ?_)
              clear hK K hS hfi 
              have hS := hS'
              clear hS'
              try simp only [Act.put, List.getElem_toArray, List.getElem_cons_zero, List.getElem_cons_succ, List.setIfInBounds_toArray, List.set_cons_zero, List.set_cons_succ]
              refine wpAnyH_take (i := 49) (v := ?_) rfl (by kernel_rfl) (by kernel_rfl) (by kernel_rfl) (fun _ _ _ h => h) (Or.inl ⟨by rfl, ?_⟩) hS ?_
              rotate_left
              · (intro W hs; go_simp; first | done | with_reducible rfl)
              try simp only [Act.put, List.getElem_toArray, List.getElem_cons_zero, List.getElem_cons_succ, List.setIfInBounds_toArray, List.set_cons_zero, List.set_cons_succ]
              refine wpAnyH_take (i := 50) (v := ?_) rfl (by kernel_rfl) (by kernel_rfl) (by kernel_rfl) (fun _ _ _ h => h) (Or.inl ⟨by rfl, ?_⟩) hS ?_
              rotate_left
              · (intro W hs; go_simp; first | done | with_reducible rfl)
              try simp only [Act.put, List.getElem_toArray, List.getElem_cons_zero, List.getElem_cons_succ, List.setIfInBounds_toArray, List.set_cons_zero, List.set_cons_succ]
              refine wpH_one (i := 51) (by kernel_rfl) rfl (fun K hK => ?_)
              go_simp
              refine (works_any _).mono ?_
              rintro e y16 ⟨rfl, hfi⟩
              have HN1 := Lib.hid (IntsV.no HN1.out hfi)
              have HN2 := Lib.hid (IntsV.no HN2.out hfi)
              have HE1 := Lib.hid (RowV.no HE1.out hfi)
              have HO1 := Lib.hid (RowV.no HO1.out hfi)
              have HZy16 : Hid (y15.heap.size ≤ y16.heap.size) := Lib.hid hfi.size
              have HSy16 : Hid (Fx No y15 y16) := Lib.hid hfi
              refine hK.out _ _ (hS.trans hfi) (fun hS' => ?_)
              clear hK K hS hfi 
              have hS := hS'
              clear hS'
              try simp only [Act.put, List.getElem_toArray, List.getElem_cons_zero, List.getElem_cons_succ, List.setIfInBounds_toArray, List.set_cons_zero, List.set_cons_succ]
              refine wpAnyH_take (i := 52) (v := ?_) rfl (by kernel_rfl) (by kernel_rfl) (by kernel_rfl) (fun _ _ _ h => h) (Or.inl ⟨by rfl, ?_⟩) hS ?_
              rotate_left
              · (intro W hs; go_simp; first | done | with_reducible rfl)
              try simp only [Act.put, List.getElem_toArray, List.getElem_cons_zero, List.getElem_cons_succ, List.setIfInBounds_toArray, List.set_cons_zero, List.set_cons_succ]
              refine wpAnyH_take (i := 53) (v := ?_) rfl (by kernel_rfl) (by kernel_rfl) (by kernel_rfl) (fun _ _ _ h => h) (Or.inl ⟨by rfl, ?_⟩) hS ?_
              rotate_left
              · (intro W hs; go_simp; first | done | with_reducible rfl)
              try simp only [Act.put, List.getElem_toArray, List.getElem_cons_zero, List.getElem_cons_succ, List.setIfInBounds_toArray, List.set_cons_zero, List.set_cons_succ]
              refine wpAnyH_done (by kernel_rfl) ?_ _
              have HZ := Lib.hid hS
              clear hS hS0
              go_wp2
              go_ret
              exact ⟨rfl, HFx.out.trans (HFe.out.trans HZ.out)⟩
end
#print axioms walks_any
end Go.Proofs.YtgacknphjeiojaaGreat
