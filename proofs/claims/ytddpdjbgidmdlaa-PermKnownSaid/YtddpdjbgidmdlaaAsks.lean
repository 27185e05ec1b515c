/- The law PermAsks. -/
import Derived.Test.YtddpdjbgidmdlaaWorks
namespace Go.Proofs.Ytddpdjbgidmdlaa
open Go.RowKit
set_option linter.unusedVariables false

/-- an own row's cells, for stores into it -/
theorem spoil_start {w : World} {base : Nat} {ao : Option Addr} {n cap : Nat} {l : List Int} (h : OwnI w base (.slice ao n cap) l) (hn : n = l.length) : 0 < n → ∃ g, ao = some ⟨g, 0, none⟩ ∧ base ≤ g ∧ g < w.heap.size := fun h0 => by
  obtain ⟨g, c, hv, h1, h2, _⟩ := h.place (by omega)
  simp only [Value.slice.injEq] at hv
  exact ⟨g, hv.1, h1, h2⟩
theorem spoil_cells {w : World} {base : Nat} {ao : Option Addr} {n cap : Nat} {l : List Int} (h : OwnI w base (.slice ao n cap) l) (hn : n = l.length) : ∀ g, ao = some ⟨g, 0, none⟩ → ∃ A : Nat → Int, CellsF w g n A := fun g e => by
  subst e
  exact ⟨gi l, fun j hj => by
    have := h.cells j (by omega)
    rw [Nat.zero_add] at this
    exact this⟩
set_option maxHeartbeats 4000000 in
theorem asks_any {w : World} {D E : Nat → Prop} {v u : Value} {p : List Int} {ps : List (Int × Int)} (h : IntsV w D v p) (n : Int) (h' : PairsV w E u ps) :
    Calls Try.prog 5 #[v, .int .i64 n, u] w fun e w' => e = .returned (.bool true) ∧ Fx No w w' := by
  obtain ⟨ii, hi, hz, hs, hb⟩ := info_parts info_int
  have H := Lib.hid h
  have H' := Lib.hid h'
  obtain ⟨ao, cap, rfl, hl, _⟩ := h.facts
  obtain ⟨uo, ucap, rfl, hul, _⟩ := h'.facts
  clear h h'
  obtain ⟨len, hlen⟩ : ∃ k, k = p.length := ⟨_, rfl⟩
  obtain ⟨ul, hulen⟩ : ∃ k, k = ps.length := ⟨_, rfl⟩
  rw [← hlen] at hl H ⊢
  rw [← hulen] at hul H' ⊢
  have HLen := Lib.hid hlen
  have HUlen := Lib.hid hulen
  clear hlen hulen
  by_cases h1 : 40 < len
  · have d1 : decide ((40 : Int) < (len : Int)) = true := decide_eq_true (by omega)
    go_enter Try.func5, Try.ntmps5
    go_wp2_with fail
    refine (works_any _).mono ?_
    rintro e w1 ⟨rfl, hf⟩
    have HF := Lib.hid hf
    clear hf
    go_wp2
    go_ret
    exact ⟨rfl, (Fx.refl No _).trans HF.out⟩
  · have d1 : decide ((40 : Int) < (len : Int)) = false := decide_eq_false (by omega)
    have hlen40 : len ≤ 40 := by omega
    by_cases h2 : 40 < ul
    · have d2 : decide ((40 : Int) < (ul : Int)) = true := decide_eq_true (by omega)
      clear h1
      go_enter Try.func5, Try.ntmps5
      go_wp2_with fail
      refine (works_any _).mono ?_
      rintro e w1 ⟨rfl, hf⟩
      have HF := Lib.hid hf
      clear hf
      go_wp2
      go_ret
      exact ⟨rfl, (Fx.refl No _).trans HF.out⟩
    · have d2 : decide ((40 : Int) < (ul : Int)) = false := decide_eq_false (by omega)
      have hp6 : p.length ≤ 1000000 := by rw [← HLen.out]; omega
      have HP6 := Lib.hid hp6
      have H1 := ints_one p
      have HOne := Lib.hid H1
      have H2 : SlV w D (.slice ao len cap) 1 len (ints p) := by
        have := H.out
        unfold IntsV at this
        rw [← HLen.out] at this
        exact this
      have HSl := Lib.hid H2
      clear h1 h2 H1 H2 hp6
      go_enter Try.func5, Try.ntmps5
      go_wp2_with (at_builtin; refine wpList_append_sl rfl _ _ 29 rfl w.heap.size 3 Try.underlying29 hi hz hs hb rfl (by decide) rfl (World.ownsRow_nil w _ _ _) rfl HSl.out HOne.out (by unfold maxLen; omega) (by omega) (by simp) ?_)
      intro v' w1 hown hf1 hnil
      have hf1' : Fx No w w1 := (Fx.refl No w).trans' hf1 (by simp [Value.ownBlock])
      have ho1 : IntsV w1 (Up w) v' p := by
        have : OwnI w1 w.heap.size v' p := by
          unfold OwnI
          rw [← HLen.out]
          simpa using hown
        exact this.up
      obtain ⟨vo, vcap, hv', _⟩ := ho1.facts
      rw [← HLen.out] at hv'
      subst hv'
      have HF1 := Lib.hid hf1'
      have HO1 := Lib.hid ho1
      clear hown hf1 hf1' ho1 hnil
      go_wp2_with fail
      refine (refInverse_any HO1.out HP6.out).mono ?_
      rintro e w2 ⟨y, rfl, hf, hy⟩
      have HF2 : Hid (Fx No w w2) := HF1.out.trans hf
      have HO2 := Lib.hid (HO1.out.no hf)
      have HY2 := Lib.hid hy.ints
      obtain ⟨B, hB⟩ : ∃ B, B = okB p := ⟨_, rfl⟩
      rw [← hB]
      have HB := Lib.hid hB
      obtain ⟨yo, ycap, hyv, _⟩ := hy.ints.facts
      obtain ⟨yl, hyl⟩ : ∃ k, k = (invR p).length := ⟨_, rfl⟩
      rw [← hyl] at hyv
      subst hyv
      have hyl2 : yl ≤ 40 := by
        rw [hyl]
        unfold invR
        split
        · rw [invL_length, ← HLen.out]; exact hlen40
        · simp
      have HYl := Lib.hid hyl
      clear hf hy hB hyl HF1 HO1
      go_wp2
      go_loopw [10] (fun i wr => ∃ t : Nat, i = .int .i64 t ∧ t ≤ 2 ∧ Fx No w2 wr) (fun i _ => 2 - (intOf i).toNat)
      case atStart => exact ⟨0, rfl, Nat.zero_le _, Fx.refl _ _⟩
      case round =>
        obtain ⟨t, rfl, ht, hf⟩ := hrel
        have HFr := Lib.hid hf
        clear hf
        by_cases hlt : t < 2
        · go_wp2_with fail
          refine (inverse_any ((H.out.no HF2.out).no HFr.out) HP6.out).mono ?_
          rintro e w3 ⟨x, rfl, hf, hx⟩
          have HF3 : Hid (Fx No w2 w3) := HFr.out.trans hf
          rw [← HB.out]
          have HX := Lib.hid hx
          clear hf hx
          go_wp2_with fail
          refine (sameInts_any HX.out.ints (HY2.out.no HF3.out)).mono ?_
          rintro e w4 ⟨rfl, hf⟩
          have HF4 : Hid (Fx No w2 w4) := HF3.out.trans hf
          have hx := OwnI.fx HX.out hf fun _ _ h => h
          have hz2 := HFr.out.size
          have e1 : (invR p == invR p) = true := by simp
          rw [e1]
          obtain ⟨xo, xcap, hxv, _⟩ := hx.ints.facts
          rw [← HYl.out] at hxv
          subst hxv
          have HPl := Lib.hid (spoil_start hx HYl.out)
          have HCs := Lib.hid (spoil_cells hx HYl.out)
          clear hf hx e1 HX HF3
          go_wp2
          go_loopw [13] (fun i ws => ∃ j : Nat, i = .int .i64 j ∧ j ≤ yl ∧ Fx No w2 ws ∧ ∀ g, xo = some ⟨g, 0, none⟩ → ∃ A : Nat → Int, CellsF ws g yl A) (fun i _ => yl - (intOf i).toNat)
          case atStart => exact ⟨0, rfl, Nat.zero_le _, HF4.out, HCs.out⟩
          case round =>
            obtain ⟨j, rfl, hj, hf, hc⟩ := hrel
            have HF5 := Lib.hid hf
            have HC5 := Lib.hid hc
            clear hf hc
            by_cases hlt2 : j < yl
            · obtain ⟨g, rfl, hg, hg2⟩ := HPl.out (by omega)
              obtain ⟨A, hA⟩ := HC5.out g rfl
              obtain ⟨c1, c2⟩ := hA j hlt2
              have HN : Hid (∀ g', some (⟨g, 0, none⟩ : Addr) = some ⟨g', 0, none⟩ → ∃ A : Nat → Int, CellsF (wr.setCell ⟨g, j, none⟩ (.int .i64 77)) g' yl A) := fun g' e => by
                simp only [Option.some.injEq, Addr.mk.injEq, and_true] at e
                subst e
                exact ⟨_, hA.set hlt2 77⟩
              have HF6 : Hid (Fx No w2 (wr.setCell ⟨g, j, none⟩ (.int .i64 77))) := HF5.out.setCell (.inl (by simp only; omega)) _
              clear hA
              go_wp2
              go_roundw
              case rel => exact ⟨j + 1, by go_num, by omega, HF6.out, HN.out⟩
              case measure => simp [intOf]; omega
            · obtain rfl : j = yl := by omega
              go_wp2
              go_roundw
              case rel => exact ⟨t + 1, by go_num, by omega, HF5.out⟩
              case measure => simp [intOf]; omega
        · obtain rfl : t = 2 := by omega
          have HF3 : Hid (Fx No w wr) := HF2.out.trans HFr.out
          have HO3 := Lib.hid (HO2.out.no HFr.out)
          clear HY2 HO2 HF2 HFr
          go_wp2_with fail
          refine (right_any (H.out.no HF3.out) n HP6.out).mono ?_
          rintro e w5 ⟨rfl, hf⟩
          have HF5 : Hid (Fx No w w5) := HF3.out.trans hf
          have HO5 := Lib.hid (HO3.out.no hf)
          obtain ⟨R, hR⟩ : ∃ R, R = rightB p n := ⟨_, rfl⟩
          rw [← hR]
          have HR := Lib.hid hR
          clear hf HF3 HO3 hR
          go_wp2_with fail
          refine (refRight_any HO5.out n).mono ?_
          rintro e w6 ⟨rfl, rfl⟩
          rw [← HR.out]
          have hRR : (R == R) = true := by simp
          go_wp2_with fail
          refine (right_any (H.out.no HF5.out) (len : Int) HP6.out).mono ?_
          rintro e w6 ⟨rfl, hf⟩
          have HF6 : Hid (Fx No w w6) := HF5.out.trans hf
          have HO6 := Lib.hid (HO5.out.no hf)
          have eB : rightB p (len : Int) = B := by
            rw [HB.out]
            unfold rightB okB
            rw [HLen.out]
            simp
          rw [eB]
          have hBB : (B == B) = true := by simp
          clear hf HF5 HO5 eB
          go_wp2_with fail
          have HPsV : Hid (PairsV w E (.slice uo ul ucap) ps) := H'.out
          refine (respects_any (H.out.no HF6.out) (HPsV.out.no HF6.out) HP6.out).mono ?_
          rintro e w7 ⟨rfl, hf⟩
          have HF7 : Hid (Fx No w w7) := HF6.out.trans hf
          have HO7 := Lib.hid (HO6.out.no hf)
          obtain ⟨S, hS⟩ : ∃ S, S = respB p ps := ⟨_, rfl⟩
          rw [← hS]
          have HS := Lib.hid hS
          clear hf HF6 HO6 hS
          go_wp2_with fail
          refine (refRespects_any HO7.out (HPsV.out.no HF7.out) HP6.out).mono ?_
          rintro e w8 ⟨rfl, hf⟩
          have HF8 : Hid (Fx No w w8) := HF7.out.trans hf
          have HO8 := Lib.hid (HO7.out.no hf)
          rw [← HS.out]
          have hSS : (S == S) = true := by simp
          clear hf HF7 HO7
          go_wp2_with fail
          refine (sameInts_any (H.out.no HF8.out) HO8.out).mono ?_
          rintro e w9 ⟨rfl, hf⟩
          have HF9 : Hid (Fx No w w9) := HF8.out.trans hf
          have e1 : (p == p) = true := by simp
          rw [e1]
          clear hf HF8 HO8 e1
          go_wp2_with fail
          refine (works_any _).mono ?_
          rintro e w10 ⟨rfl, hf⟩
          have HF10 : Hid (Fx No w w10) := HF9.out.trans hf
          clear hf HF9
          go_wp2
          go_ret
          exact ⟨rfl, HF10.out⟩
#print axioms asks_any
end Go.Proofs.Ytddpdjbgidmdlaa
