/- The law PermWalks. -/
import Derived.Test.YtddpdjbgidmdlaaAllTop
import Derived.Test.YtddpdjbgidmdlaaLong
namespace Go.Proofs.Ytddpdjbgidmdlaa
open Go.RowKit
set_option linter.unusedVariables false

theorem info_pair : (Try.prog.info? 47).map (fun i => (i.zero, i.size, i.bytes)) = some (some (.agg #[.int .i64 0, .int .i64 0]), 2, 16) := by kernel_rfl
theorem pcells_one (ps : List (Int × Int)) : One (pcells ps) := by
  intro u hu
  obtain ⟨q, _, hq⟩ := List.mem_flatMap.1 hu
  rcases List.mem_cons.1 hq with e | e
  · subst e; rfl
  · rw [List.mem_singleton] at e; subst e; rfl
def CellsP (w : World) (g n : Nat) : Prop := ∀ k, k < n * 2 → ∃ z, w.cell? ⟨g, k, none⟩ = some (.int .i64 z) ∧ w.frozen? ⟨g, k, none⟩ = false
theorem CellsP.set {w : World} {g n x : Nat} (h : CellsP w g n) (hx : x < n * 2) (a : Int) : CellsP (w.setCell ⟨g, x, none⟩ (.int .i64 a)) g n := by
  intro k hk
  obtain ⟨z, h1, h2⟩ := h k hk
  obtain ⟨y, g1, _⟩ := h x hx
  by_cases e : k = x
  · subst e; exact ⟨a, World.cell?_setCell_same _ _ _ h1, by simpa using h2⟩
  · refine ⟨z, ?_, by simpa using h2⟩
    rw [World.cell?_setCell_other _ _ _ _ (by intro e2; injection e2; omega)]
    exact h1
theorem own_pairs {w w1 : World} {v' : Value} {n : Nat} {ps : List (Int × Int)} (hn : n = ps.length) (ho : w1.ownsRow w.heap.size 47 2 v' n (pcells ps)) :
    PairsV w1 (Up w) v' ps ∧ ∃ vo vc, v' = .slice vo n vc ∧ (0 < n → ∃ g, vo = some ⟨g, 0, none⟩ ∧ w.heap.size ≤ g ∧ g < w1.heap.size) ∧ ∀ g, vo = some ⟨g, 0, none⟩ → CellsP w1 g n := by
  subst hn
  have h1 : PairsV w1 (Up w) v' ps := (SlV.ofOwns ho).mono fun b hb => hb.1
  refine ⟨h1, ?_⟩
  obtain ⟨vo, vc, rfl, _, hc⟩ := h1.facts
  refine ⟨vo, vc, rfl, fun h0 => ?_, fun g hg k hk => ?_⟩
  · rcases ho.2 with ⟨_, h⟩ | ⟨g, cap, cur, hv, hb, hg, _⟩
    · omega
    · simp only [Value.slice.injEq] at hv
      exact ⟨g, hv.1, hb, (Array.getElem?_eq_some_iff.1 hg).1⟩
  · subst hg
    have hl : k < (pcells ps).length := by rw [pcells_length]; exact hk
    have c1 := ho.cellAt k hk
    have c2 := ho.frozenAt k
    obtain ⟨q, hq⟩ : ∃ q, q = k / 2 := ⟨_, rfl⟩
    obtain ⟨g1, g2⟩ := pcells_at (ps := ps) (k := q) (by omega)
    rcases Nat.mod_two_eq_zero_or_one k with h | h
    · have e : k = q * 2 := by omega
      subst e
      exact ⟨_, by rw [c1, g1], c2⟩
    · have e : k = q * 2 + 1 := by omega
      subst e
      exact ⟨_, by rw [c1, g2], c2⟩
/-- the row that comes next in a list -/
theorem drop_head {α : Type} {l : List (List α)} {i : Nat} {q : List α} {t : List (List α)} (h : l.drop i = q :: t) : l.getD i [] = q ∧ l.drop (i + 1) = t ∧ i < l.length := by
  have hl : i < l.length := by
    apply Classical.byContradiction
    intro hc
    rw [List.drop_eq_nil_of_le (by omega)] at h
    cases h
  rw [List.drop_eq_getElem_cons hl] at h
  injection h with h1 h2
  exact ⟨by simp [List.getD, hl, h1], h2, hl⟩
theorem SlV.nth {w : World} {D : Nat → Prop} {v : Value} {size n : Nat} {cs : List Value} (h : SlV w D v size n cs) {k : Nat} {x : Value} (hk : cs[k]? = some x) : ∃ b o cap, v = .slice (some ⟨b, o, none⟩) n cap ∧ D b ∧ w.cell? ⟨b, o + k, none⟩ = some x := by
  obtain ⟨ao, cap, h1, h2, h3, h4, h5, h6⟩ := h
  have hl : k < cs.length := (List.getElem?_eq_some_iff.1 hk).1
  obtain ⟨b, o, h7, h8, h9⟩ := h6.addr (by omega)
  have := h9 k hl
  exact ⟨b, o, cap, by rw [h1, h7], h8, by rw [this]; simp [List.getD, hk]⟩
theorem kp_step {w : World} {k : WK} {v v' : Value} (hv : ∀ g, v'.ownBlock = some g → v.ownBlock = some g ∨ w.heap.size ≤ g) {b : Nat} (hb : Kp w k v b) : b < w.heap.size ∧ ¬ Sx k v' b :=
  ⟨hb.1, fun hs => by
    rcases hs with e | e | e | e
    · exact hb.2 (.inl e)
    · exact hb.2 (.inr (.inl e))
    · exact hb.2 (.inr (.inr (.inl e)))
    · rcases hv b e with e | e
      · exact hb.2 (.inr (.inr (.inr e)))
      · have := hb.1; omega⟩
set_option maxRecDepth 100000 in
set_option maxHeartbeats 8000000 in
theorem walks_any {w : World} {E : Nat → Prop} {u : Value} {ps : List (Int × Int)} (n : Int) (h : PairsV w E u ps) :
    Calls Try.prog 6 #[.int .i64 n, u] w fun e w' => e = .returned (.bool true) ∧ Fx No w w' := by
  obtain ⟨ii, hi, hz, hs, hb⟩ := info_parts info_pair
  have HPv := Lib.hid h
  obtain ⟨uo, ucap, rfl, hul, _⟩ := h.facts
  clear h
  obtain ⟨ul, hulen⟩ : ∃ k, k = ps.length := ⟨_, rfl⟩
  rw [← hulen] at hul ⊢
  have HUlen := Lib.hid hulen
  have HPv : Hid (PairsV w E (.slice uo ul ucap) ps) := by have := HPv.out; rwa [← hulen] at this
  clear hulen
  by_cases h1 : 6 < n ∧ n ≤ 4096
  · have d1 : decide ((6 : Int) < n) = true := decide_eq_true h1.1
    have d2 : decide (n ≤ 4096) = true := decide_eq_true h1.2
    go_enter Try.func6, Try.ntmps6
    go_wp2_with fail
    refine (works_any _).mono ?_
    rintro e w1 ⟨rfl, hf⟩
    have HF := Lib.hid hf
    clear hf
    go_wp2
    go_ret
    exact ⟨rfl, (Fx.refl No _).trans HF.out⟩
  · have hbad : (6 < n ∧ 4096 < n) ∨ n ≤ 6 := by omega
    by_cases h2 : 12 < ul
    · have d3 : decide ((12 : Int) < (ul : Int)) = true := decide_eq_true (by omega)
      rcases hbad with ⟨h3, h4⟩ | h3
      · have d1 : decide ((6 : Int) < n) = true := decide_eq_true h3
        have d2 : decide (n ≤ 4096) = false := decide_eq_false (by omega)
        clear h1
        go_enter Try.func6, Try.ntmps6
        go_wp2_with fail
        refine (works_any _).mono ?_
        rintro e w1 ⟨rfl, hf⟩
        have HF := Lib.hid hf
        clear hf
        go_wp2
        go_ret
        exact ⟨rfl, (Fx.refl No _).trans HF.out⟩
      · have d1 : decide ((6 : Int) < n) = false := decide_eq_false (by omega)
        clear h1
        go_enter Try.func6, Try.ntmps6
        go_wp2_with fail
        refine (works_any _).mono ?_
        rintro e w1 ⟨rfl, hf⟩
        have HF := Lib.hid hf
        clear hf
        go_wp2
        go_ret
        exact ⟨rfl, (Fx.refl No _).trans HF.out⟩
    · have d3 : decide ((12 : Int) < (ul : Int)) = false := decide_eq_false (by omega)
      have hul12 : ul ≤ 12 := by omega
      have HOne := Lib.hid (pcells_one ps)
      have HSl : Hid (SlV w E (.slice uo ul ucap) 2 ul (pcells ps)) := by
        have := HPv.out
        unfold PairsV at this
        rw [← HUlen.out] at this
        exact this
      by_cases he : mayE n ps = 0
      · obtain ⟨q1, q2, q3⟩ := mayE_zero he
        obtain ⟨N, rfl⟩ := Int.eq_ofNat_of_zero_le q1
        have hok : PsOk ps N := fun q hq => by
          have := q3 q hq
          simp only [pOk, decide_eq_true_eq] at this
          omega
        have hN6 : N ≤ 6 := by omega
        have HOk := Lib.hid hok
        have HE := Lib.hid he
        have d1 : decide ((6 : Int) < (N : Int)) = false := decide_eq_false (by omega)
        clear q1 q2 q3 hok he h1 h2 hbad
        go_enter Try.func6, Try.ntmps6
        go_wp2_with (at_builtin; refine wpList_append_sl rfl _ _ 22 rfl w.heap.size 47 Try.underlying22 hi hz hs hb rfl (by decide) rfl (World.ownsRow_nil w _ _ _) rfl HSl.out HOne.out (by unfold maxLen; omega) (by omega) (by simp) ?_)
        intro v' w1 hown hf1 hnil
        have hF1 : Fx No w w1 := (Fx.refl No w).trans' hf1 (by simp [Value.ownBlock])
        obtain ⟨hO, vo, vc, rfl, hpl, hcp⟩ := own_pairs HUlen.out (by simpa using hown)
        have HF1 := Lib.hid hF1
        have HO1 := Lib.hid hO
        have HPl := Lib.hid hpl
        have HCp := Lib.hid hcp
        have hw1 := hF1.size
        clear hown hf1 hnil hF1 hO hpl hcp
        go_wp2_with fail
        refine (new_any HO1.out (N : Int) (by have := HUlen.out; omega)).mono ?_
        rintro e w2 ⟨hf, ⟨h, _⟩ | ⟨_, k, v, rfl, hn, hps, hlo, hW⟩⟩
        · exact absurd HE.out h
        rw [Int.toNat_natCast] at hn hW
        have HF2 := Lib.hid hf
        have HW2 := Lib.hid hW
        have HLo := Lib.hid hlo
        have HN := Lib.hid hn
        have HPs := Lib.hid hps
        clear hf hW hlo hn hps
        go_wp2_with fail
        refine (count_any (HO1.out.no HF2.out) (N : Int) (by have := HUlen.out; omega)).mono ?_
        rintro e w3 ⟨hf, hcase⟩
        obtain ⟨T, hT⟩ : ∃ T, T = (treeT ps N N []).length := ⟨_, rfl⟩
        obtain rfl : e = .returned (.tuple #[.int .u64 (T : Int), .int .i64 0]) := by
          rcases hcase with ⟨h, _⟩ | ⟨_, h, _⟩ | ⟨_, _, M, hM, h⟩
          · exact absurd HE.out h
          · omega
          · rw [Int.toNat_natCast] at hM h
            rw [h, cnt_tree HOk.out (by omega) hM, ← hT]
        have hT6 : T ≤ 46656 := by
          rw [hT, ← allL_tree HOk.out VRow.nil (by simp)]
          exact Nat.le_trans (allL_len ps N N []) (pow_bound hN6 hN6)
        have HT := Lib.hid hT
        have HF3 : Hid (Fx No w1 w3) := HF2.out.trans hf
        have HW3 := Lib.hid (HW2.out.no hf)
        obtain ⟨A, hA⟩ : ∃ A, A = decide ((fillP ps N []).length = N) := ⟨_, rfl⟩
        rw [← hA] at HW3
        have HA := Lib.hid hA
        have HC3 : Hid (∀ g, vo = some ⟨g, 0, none⟩ → CellsP w3 g ul) := fun g e k hk => by
          obtain ⟨q, c, f⟩ := HCp.out g e k hk
          exact ⟨q, HF3.out.cellF c f (fun h => h)⟩
        clear hf hcase hT hA
        go_wp2
        go_loopw [10] (fun i ws => ∃ j : Nat, i = .int .i64 j ∧ j ≤ ul ∧ Fx No w ws ∧ (∀ g, vo = some ⟨g, 0, none⟩ → CellsP ws g ul) ∧ WalkS ws k v (fillP ps N []) A false) (fun i _ => ul - (intOf i).toNat)
        case atStart => exact ⟨0, rfl, Nat.zero_le _, HF1.out.trans HF3.out, HC3.out, HW3.out⟩
        case round =>
          obtain ⟨j, rfl, hj, hf, hc, hW⟩ := hrel
          have HF4 := Lib.hid hf
          have HC4 := Lib.hid hc
          have HW4 := Lib.hid hW
          clear hf hc hW
          by_cases hlt : j < ul
          · skip
            obtain ⟨g, rfl, hg1, hg2⟩ := HPl.out (by omega)
            have hc := HC4.out g rfl
            obtain ⟨z0, c0, f0⟩ := hc (j * 2) (by omega)
            obtain ⟨z1, c1, f1⟩ := hc (j * 2 + 1) (by omega)
            have HC5 : Hid (∀ g', some (⟨g, 0, none⟩ : Addr) = some ⟨g', 0, none⟩ → CellsP ((wr.setCell ⟨g, j * 2, none⟩ (.int .i64 0)).setCell ⟨g, j * 2 + 1, none⟩ (.int .i64 0)) g' ul) := fun g' e => by
              simp only [Option.some.injEq, Addr.mk.injEq, and_true] at e
              subst e
              exact (hc.set (by omega) 0).set (by omega) 0
            have HF5 : Hid (Fx No w ((wr.setCell ⟨g, j * 2, none⟩ (.int .i64 0)).setCell ⟨g, j * 2 + 1, none⟩ (.int .i64 0))) := (HF4.out.setCell (.inl hg1) _).setCell (.inl hg1) _
            have HW5 : Hid (WalkS ((wr.setCell ⟨g, j * 2, none⟩ (.int .i64 0)).setCell ⟨g, j * 2 + 1, none⟩ (.int .i64 0)) k v (fillP ps N []) A false) :=
              WalkP.fx HW4.out ((Fx.put wr g _ _).trans (Fx.put _ g _ _)) fun b hb e => by have := HLo.out b hb; omega
            clear hc
            go_wp2
            go_roundw
            case rel => exact ⟨j + 1, by go_num, by omega, HF5.out, HC5.out, HW5.out⟩
            case measure => simp [intOf]; omega
          · obtain rfl : j = ul := by omega
            go_wp2_with fail
            refine (may_any' (HPv.out.no HF4.out) (N : Int)).mono ?_
            rintro e w5 ⟨rfl, hf⟩
            rw [HE.out]
            have HF5 : Hid (Fx No w w5) := HF4.out.trans hf
            have HW5 := Lib.hid (HW4.out.no hf)
            clear hf
            go_wp2_with fail
            refine (allTop_any hN6 (HPv.out.no HF5.out) HE.out HOk.out).mono ?_
            rintro e w6 ⟨lv, vals, rfl, hf, ho, hR⟩
            have HF6 : Hid (Fx No w w6) := HF5.out.trans hf
            have HW6 := Lib.hid (HW5.out.no hf)
            have hvl : vals.length = T := by rw [hR.length, ← HT.out]
            have hS : SlV w6 (Iv w5.heap.size w6.heap.size) lv 1 T vals := by have := SlV.ofOwns ho; rwa [hvl] at this
            obtain ⟨lo, lc, hlv, _⟩ := id hS
            subst hlv
            have hlt5 := HW5.out.lt
            have HS6 : Hid (SlV w6 (Kp w6 k v) (.slice lo T lc) 1 T vals) := hS.mono fun b hb => ⟨hb.2, fun hs => by have := hlt5 b (.inl hs); have := hb.1; omega⟩
            have HR6 : Hid (RowsOf w6 (Kp w6 k v) vals (treeT ps N N [])) := RowsOf.fx (Fx.refl No _) (fun _ _ h => h) (fun b hb => ⟨hb.2, fun hs => by have := hlt5 b (.inl hs); omega⟩) hR
            have HLo6 : Hid (∀ b, Sx k v b → w.heap.size ≤ b) := fun b hb => by have := HLo.out b (.inl hb); omega
            have hcv : IntKind.u64.wrap (T : Int) = (T : Int) := by rw [IntKind.wrap_u64]; omega
            clear hf ho hR hvl hS hlt5
            cases hcl : closedB ps N with
            | true =>
              obtain ⟨a1, a2⟩ := (any_iff HOk.out).2 hcl
              have HCl := Lib.hid hcl
              obtain rfl : T = 0 := by rw [HT.out, a2]; rfl
              obtain rfl : A = false := by rw [HA.out]; exact decide_eq_false a1
              clear a1 a2 hcl
              go_wp2_with fail
              refine (any_any HW6.out).mono ?_
              rintro e w7 ⟨rfl, rfl⟩
              go_wp2_with fail
              refine (closed_any (HPv.out.no HF6.out) (by omega) HOk.out).mono ?_
              rintro e w7 ⟨rfl, hf⟩
              have HF7 : Hid (Fx No w w7) := HF6.out.trans hf
              have HW7 := Lib.hid (HW6.out.no hf)
              rw [HCl.out]
              clear hf
              go_wp2
              go_loopw [14] (fun i ws => i = .int .i64 0 ∧ Fx No w ws ∧ WalkS ws k v (fillP ps N []) false false) (fun _ _ => 0)
              case atStart => exact ⟨rfl, HF7.out, HW7.out⟩
              case round =>
                obtain ⟨rfl, hf, hW⟩ := hrel
                have HF8 := Lib.hid hf
                have HW8 := Lib.hid hW
                clear hf hW
                go_wp2
                go_loopw [18] (fun i ws => ∃ c : Nat, i = .int .i64 c ∧ c ≤ 3 ∧ Fx No w ws ∧ WalkS ws k v (fillP ps N []) false false) (fun i _ => 3 - (intOf i).toNat)
                case atStart => exact ⟨0, rfl, by omega, HF8.out, HW8.out⟩
                case round =>
                  obtain ⟨c, rfl, hc3, hf, hW⟩ := hrel
                  have HFt := Lib.hid hf
                  have HWt := Lib.hid hW
                  clear hf hW
                  by_cases hlt : c < 3
                  · go_wp2_with fail
                    refine (next_no HWt.out).mono ?_
                    rintro e wu ⟨rfl, hf⟩
                    have HFu : Hid (Fx No w wu) := HFt.out.trans hf
                    have HWu := Lib.hid (HWt.out.no hf)
                    clear hf
                    go_wp2_with fail
                    refine (any_any HWu.out).mono ?_
                    rintro e wv ⟨rfl, rfl⟩
                    go_wp2
                    go_roundw
                    case rel => exact ⟨c + 1, by go_num, by omega, HFu.out, HWu.out⟩
                    case measure => simp [intOf]; omega
                  · obtain rfl : c = 3 := by omega
                    go_wp2_with fail
                    refine (works_any _).mono ?_
                    rintro e wv ⟨rfl, hf⟩
                    have HFv : Hid (Fx No w wv) := HFt.out.trans hf
                    clear hf
                    go_wp2
                    go_ret
                    exact ⟨rfl, HFv.out⟩
            | false =>
              obtain ⟨a1, a2, a3⟩ := (any_iff HOk.out).1 hcl
              have HCl := Lib.hid hcl
              obtain rfl : A = true := by rw [HA.out]; exact decide_eq_true a2
              obtain ⟨b1, b2, b3⟩ := first_rest a1
              have HFull := Lib.hid a1
              have HFi := Lib.hid b1
              have HFl := Lib.hid b2
              have HFv := Lib.hid b3
              have hTp : 0 < T := by rw [HT.out, b1]; simp
              have hTd : decide ((0 : Int) < (T : Int)) = true := decide_eq_true (by omega)
              have hTe : ((T : Int) == 0) = false := by simp; omega
              clear a1 a2 a3 hcl b1 b2 b3
              go_wp2_with fail
              refine (any_any HW6.out).mono ?_
              rintro e w7 ⟨rfl, rfl⟩
              go_wp2_with fail
              refine (closed_any (HPv.out.no HF6.out) (by omega) HOk.out).mono ?_
              rintro e w7 ⟨rfl, hf⟩
              have HF7 : Hid (Fx No w w7) := HF6.out.trans hf
              have HW7 := Lib.hid (HW6.out.no hf)
              have HS7 : Hid (SlV w7 (Kp w7 k v) (.slice lo T lc) 1 T vals) := (HS6.out.keep hf No.disj).mono fun b hb => ⟨Nat.lt_of_lt_of_le hb.1 hf.size, hb.2⟩
              have HR7 : Hid (RowsOf w7 (Kp w7 k v) vals (treeT ps N N [])) := RowsOf.fx hf (fun _ _ h => h) (fun b hb => ⟨Nat.lt_of_lt_of_le hb.1 hf.size, hb.2⟩) HR6.out
              rw [HCl.out]
              clear hf
              go_wp2
              go_loopw [14] (fun i ws => ∃ (c : Nat) (v' : Value), i = .int .i64 c ∧ c ≤ T ∧ Fx No w ws ∧ (∀ b, Sx k v' b → w.heap.size ≤ b) ∧ SlV ws (Kp ws k v') (.slice lo T lc) 1 T vals ∧ RowsOf ws (Kp ws k v') vals (treeT ps N N []) ∧ ((c = 0 ∧ WalkS ws k v' (fillP ps N []) true false) ∨ (0 < c ∧ ∃ q, WalkS ws k v' q true true ∧ VRow ps N q ∧ q.length = N ∧ (treeT ps N N []).drop c = rest ps N q))) (fun i _ => T - (intOf i).toNat)
              case atStart => exact ⟨0, v, rfl, Nat.zero_le _, HF7.out, HLo6.out, HS7.out, HR7.out, .inl ⟨rfl, HW7.out⟩⟩
              case round =>
                obtain ⟨c, v', rfl, hcT, hf, hlo, hS, hR, hcase⟩ := hrel
                have HF8 := Lib.hid hf
                have HLo8 := Lib.hid hlo
                have HS8 := Lib.hid hS
                have HR8 := Lib.hid hR
                have hz8 := hf.size
                clear hf hlo hS hR
                by_cases hlt : c < T
                · rcases hcase with ⟨rfl, hW⟩ | ⟨hc0, q, hW, hV, hQl, hDr⟩
                  · have HW8 := Lib.hid hW
                    clear hW
                    go_wp2_with fail
                    refine (next_first HW8.out).mono ?_
                    rintro e w9 ⟨uu, rfl, hf, hW, ho, hg⟩
                    have hv : ∀ g, v'.ownBlock = some g → v'.ownBlock = some g ∨ wr.heap.size ≤ g := fun g e => .inl e
                    have hdr : (treeT ps N N []).drop 0 = fillP ps N [] :: rest ps N (fillP ps N []) := HFi.out
                    obtain ⟨q, hq⟩ : ∃ q, q = fillP ps N [] := ⟨_, rfl⟩
                    rw [← hq] at hW ho hdr
                    have HV9 : Hid (VRow ps N q) := by rw [hq]; exact HFv.out
                    have hql9 : q.length = N := by rw [hq]; exact HFl.out
                    clear hq
                    have HF9 : Hid (Fx No w w9) := HF8.out.trans' hf fun j e hl => by have := HLo8.out j e; omega
                    have HLo9 := Lib.hid (sx_lo HLo8.out hz8 hv)
                    have hz9 := hf.size
                    have HS9 : Hid (SlV w9 (fun b => b < wr.heap.size ∧ ¬ Sx k v' b) (.slice lo T lc) 1 T vals) := (HS8.out.keep hf fun b hb => hb.2).mono fun b hb => kp_step hv hb
                    have HR9 : Hid (RowsOf w9 (fun b => b < wr.heap.size ∧ ¬ Sx k v' b) vals (treeT ps N N [])) := RowsOf.fx hf (fun b hb => hb.2) (fun b hb => kp_step hv hb) HR8.out
                    have hk := kept_new (fun b hb => HW8.out.lt b (.inl hb)) ho hg
                    obtain ⟨po, pc, hpv, _⟩ := hk.facts
                    rw [hql9] at hpv
                    subst hpv
                    have HK9 := Lib.hid hk
                    have HW9 := Lib.hid hW
                    have HG9 : Hid (∀ g, po = some ⟨g, 0, none⟩ → wr.heap.size ≤ g ∧ ∀ b, Sx k v' b ∨ k.D b → b ≠ g) := fun g e => by
                      obtain ⟨g1, g2⟩ := hg g (by rw [e]; rfl)
                      refine ⟨g1, fun b hb e2 => ?_⟩
                      have hl8 := HW8.out.lt
                      rcases hb with (h | h | h | h) | h
                      · have := hl8 b (.inl (.inl h)); omega
                      · have := hl8 b (.inl (.inr (.inl h))); omega
                      · have := hl8 b (.inl (.inr (.inr (.inl h)))); omega
                      · exact g2 (by rw [← e2]; exact h)
                      · have := hl8 b (.inr h); omega
                    have HPl9 := Lib.hid (spoil_start ho hql9.symm)
                    have HCs9 := Lib.hid (spoil_cells ho hql9.symm)
                    obtain ⟨e1, e2, e3⟩ := drop_head hdr
                    obtain ⟨x, hx, hxI⟩ := RowsOf.at HR9.out e3
                    rw [e1] at hxI
                    obtain ⟨lb, lof, lc', hlo', _, cl⟩ := SlV.nth HS9.out hx
                    simp only [Value.slice.injEq] at hlo'
                    obtain ⟨rfl, _, rfl⟩ := hlo'
                    have HX9 := Lib.hid hxI
                    have HDr9 := Lib.hid e2
                    have HQl9 := Lib.hid hql9
                    clear hf hv hk hW ho hg hdr hx hxI e1 e2 e3
                    rw [Nat.add_zero] at cl
                    go_wp2_with fail
                    refine (sameInts_any HK9.out HX9.out).mono ?_
                    rintro e wa ⟨rfl, hf⟩
                    have HFa : Hid (Fx No w9 wa) := hf
                    have eqq : (q == q) = true := by simp
                    rw [eqq]
                    clear hf eqq
                    go_wp2_with fail
                    refine (respects_any (HK9.out.no HFa.out) ((HPv.out.no HF9.out).no HFa.out) (by rw [HQl9.out]; omega)).mono ?_
                    rintro e wb ⟨rfl, hf⟩
                    have HFb : Hid (Fx No w9 wb) := HFa.out.trans hf
                    rw [HV9.out.resp HQl9.out HOk.out]
                    clear hf cl
                    go_wp2
                    go_loopw [17] (fun i ws => ∃ j : Nat, i = .int .i64 j ∧ j ≤ N ∧ Fx (fun b => po = some ⟨b, 0, none⟩) wb ws ∧ ∀ g, po = some ⟨g, 0, none⟩ → ∃ A : Nat → Int, CellsF ws g N A) (fun i _ => N - (intOf i).toNat)
                    case atStart => exact ⟨0, rfl, Nat.zero_le _, Fx.refl _ _, fun g e => by
                      obtain ⟨A, hA⟩ := HCs9.out g e
                      exact ⟨A, hA.fx HFb.out (fun h => h)⟩⟩
                    case round =>
                      obtain ⟨j, rfl, hj, hf, hc⟩ := hrel
                      have HFc := Lib.hid hf
                      have HCc := Lib.hid hc
                      clear hf hc
                      by_cases hltj : j < N
                      · obtain ⟨g, rfl, _, _⟩ := HPl9.out (by omega)
                        obtain ⟨A, hA⟩ := HCc.out g rfl
                        obtain ⟨c1, c2⟩ := hA j hltj
                        have HNc : Hid (∀ g', some (⟨g, 0, none⟩ : Addr) = some ⟨g', 0, none⟩ → ∃ A : Nat → Int, CellsF (wr.setCell ⟨g, j, none⟩ (.int .i64 77)) g' N A) := fun g' e => by
                          simp only [Option.some.injEq, Addr.mk.injEq, and_true] at e
                          subst e
                          exact ⟨_, hA.set hltj 77⟩
                        clear hA
                        go_wp2
                        go_roundw
                        case rel => exact ⟨j + 1, by go_num, by omega, HFc.out.setCell (.inr rfl) _, HNc.out⟩
                        case measure => simp [intOf]; omega
                      · obtain rfl : j = N := by omega
                        have hfc := HFc.out
                        have hsz := HFb.out.size
                        have hsz2 := hfc.size
                        have HFd := Lib.hid ((HF9.out.trans HFb.out).trans' hfc fun b e hl => by have := (HG9.out b e).1; omega)
                        have HWd := Lib.hid ((HW9.out.no HFb.out).fx hfc fun b hb e => (HG9.out b e).2 b hb rfl)
                        have HSd := Lib.hid ((((HS9.out.keep HFb.out No.disj).keep hfc fun b hb e => by have := (HG9.out b e).1; have := hb.1; omega)).mono (T := Kp wr k v') fun b hb => ⟨by have := hb.1; omega, hb.2⟩)
                        have HRd := Lib.hid (RowsOf.fx (E := Kp wr k v') hfc (fun b hb e => by have := (HG9.out b e).1; have := hb.1; omega) (fun b hb => ⟨by have := hb.1; omega, hb.2⟩) (RowsOf.fx HFb.out (fun _ _ h => h) (fun b hb => hb) HR9.out))
                        clear hfc hsz hsz2
                        go_wp2
                        go_roundw
                        case rel => exact ⟨0 + 1, v', by go_num, by omega, HFd.out, HLo9.out, HSd.out, HRd.out, .inr ⟨by omega, q, HWd.out, HV9.out, HQl9.out, HDr9.out⟩⟩
                        case measure => first | (simp [intOf]; omega) | simp [intOf]
                  · have HW8 := Lib.hid hW
                    have HV8 := Lib.hid hV
                    have HDr8 := Lib.hid hDr
                    clear hW hV hQl hDr
                    go_wp2_with fail
                    refine (next_begun HW8.out).mono ?_
                    rintro e w9 ⟨uu, v4, hf, hv, hres⟩
                    rw [HPs.out, HN.out] at hres
                    rcases next_rest HFull.out HV8.out with ⟨hn0, hr0⟩ | ⟨q', hn1, hr1, hv1, hl1⟩
                    · have := HDr8.out
                      rw [hr0, List.drop_eq_nil_iff, ← HT.out] at this
                      omega
                    · obtain ⟨rfl, hW, ho, hg⟩ : e = .returned (.tuple #[uu, .bool true]) ∧ WalkS w9 k v4 q' true true ∧ OwnI w9 0 uu q' ∧ (∀ g, uu.ownBlock = some g → wr.heap.size ≤ g ∧ v4.ownBlock ≠ some g) := by
                        rcases hres with ⟨q2, h, h2, h3, h4, h5⟩ | ⟨h, _⟩
                        · rw [hn1] at h
                          obtain rfl := Option.some.inj h
                          exact ⟨h2, h3, h4, h5⟩
                        · rw [hn1] at h; cases h
                      have hdr : (treeT ps N N []).drop c = q' :: rest ps N q' := by rw [HDr8.out, hr1]
                      have HV9 : Hid (VRow ps N q') := hv1
                      have hql9 : q'.length = N := hl1
                      clear hres hn1 hr1 hv1 hl1
                      have HF9 : Hid (Fx No w w9) := HF8.out.trans' hf fun j e hl => by have := HLo8.out j e; omega
                      have HLo9 := Lib.hid (sx_lo HLo8.out hz8 hv)
                      have hz9 := hf.size
                      have HS9 : Hid (SlV w9 (fun b => b < wr.heap.size ∧ ¬ Sx k v4 b) (.slice lo T lc) 1 T vals) := (HS8.out.keep hf fun b hb => hb.2).mono fun b hb => kp_step hv hb
                      have HR9 : Hid (RowsOf w9 (fun b => b < wr.heap.size ∧ ¬ Sx k v4 b) vals (treeT ps N N [])) := RowsOf.fx hf (fun b hb => hb.2) (fun b hb => kp_step hv hb) HR8.out
                      have hk := kept_new (fun b hb => HW8.out.lt b (.inl hb)) ho hg
                      obtain ⟨po, pc, hpv, _⟩ := hk.facts
                      rw [hql9] at hpv
                      subst hpv
                      have HK9 := Lib.hid hk
                      have HW9 := Lib.hid hW
                      have HG9 : Hid (∀ g, po = some ⟨g, 0, none⟩ → wr.heap.size ≤ g ∧ ∀ b, Sx k v4 b ∨ k.D b → b ≠ g) := fun g e => by
                        obtain ⟨g1, g2⟩ := hg g (by rw [e]; rfl)
                        refine ⟨g1, fun b hb e2 => ?_⟩
                        have hl8 := HW8.out.lt
                        rcases hb with (h | h | h | h) | h
                        · have := hl8 b (.inl (.inl h)); omega
                        · have := hl8 b (.inl (.inr (.inl h))); omega
                        · have := hl8 b (.inl (.inr (.inr (.inl h)))); omega
                        · exact g2 (by rw [← e2]; exact h)
                        · have := hl8 b (.inr h); omega
                      have HPl9 := Lib.hid (spoil_start ho hql9.symm)
                      have HCs9 := Lib.hid (spoil_cells ho hql9.symm)
                      obtain ⟨e1, e2, e3⟩ := drop_head hdr
                      obtain ⟨x, hx, hxI⟩ := RowsOf.at HR9.out e3
                      rw [e1] at hxI
                      obtain ⟨lb, lof, lc', hlo', _, cl⟩ := SlV.nth HS9.out hx
                      simp only [Value.slice.injEq] at hlo'
                      obtain ⟨rfl, _, rfl⟩ := hlo'
                      have HX9 := Lib.hid hxI
                      have HDr9 := Lib.hid e2
                      have HQl9 := Lib.hid hql9
                      clear hf hv hk hW ho hg hdr hx hxI e1 e2 e3
                      go_wp2_with fail
                      refine (sameInts_any HK9.out HX9.out).mono ?_
                      rintro e wa ⟨rfl, hf⟩
                      have HFa : Hid (Fx No w9 wa) := hf
                      have eqq : (q' == q') = true := by simp
                      rw [eqq]
                      clear hf eqq
                      go_wp2_with fail
                      refine (respects_any (HK9.out.no HFa.out) ((HPv.out.no HF9.out).no HFa.out) (by rw [HQl9.out]; omega)).mono ?_
                      rintro e wb ⟨rfl, hf⟩
                      have HFb : Hid (Fx No w9 wb) := HFa.out.trans hf
                      rw [HV9.out.resp HQl9.out HOk.out]
                      clear hf cl
                      go_wp2
                      go_loopw [17] (fun i ws => ∃ j : Nat, i = .int .i64 j ∧ j ≤ N ∧ Fx (fun b => po = some ⟨b, 0, none⟩) wb ws ∧ ∀ g, po = some ⟨g, 0, none⟩ → ∃ A : Nat → Int, CellsF ws g N A) (fun i _ => N - (intOf i).toNat)
                      case atStart => exact ⟨0, rfl, Nat.zero_le _, Fx.refl _ _, fun g e => by
                        obtain ⟨A, hA⟩ := HCs9.out g e
                        exact ⟨A, hA.fx HFb.out (fun h => h)⟩⟩
                      case round =>
                        obtain ⟨j, rfl, hj, hf, hc⟩ := hrel
                        have HFc := Lib.hid hf
                        have HCc := Lib.hid hc
                        clear hf hc
                        by_cases hltj : j < N
                        · obtain ⟨g, rfl, _, _⟩ := HPl9.out (by omega)
                          obtain ⟨A, hA⟩ := HCc.out g rfl
                          obtain ⟨c1, c2⟩ := hA j hltj
                          have HNc : Hid (∀ g', some (⟨g, 0, none⟩ : Addr) = some ⟨g', 0, none⟩ → ∃ A : Nat → Int, CellsF (wr.setCell ⟨g, j, none⟩ (.int .i64 77)) g' N A) := fun g' e => by
                            simp only [Option.some.injEq, Addr.mk.injEq, and_true] at e
                            subst e
                            exact ⟨_, hA.set hltj 77⟩
                          clear hA
                          go_wp2
                          go_roundw
                          case rel => exact ⟨j + 1, by go_num, by omega, HFc.out.setCell (.inr rfl) _, HNc.out⟩
                          case measure => simp [intOf]; omega
                        · obtain rfl : j = N := by omega
                          have hfc := HFc.out
                          have hsz := HFb.out.size
                          have hsz2 := hfc.size
                          have HFd := Lib.hid ((HF9.out.trans HFb.out).trans' hfc fun b e hl => by have := (HG9.out b e).1; omega)
                          have HWd := Lib.hid ((HW9.out.no HFb.out).fx hfc fun b hb e => (HG9.out b e).2 b hb rfl)
                          have HSd := Lib.hid ((((HS9.out.keep HFb.out No.disj).keep hfc fun b hb e => by have := (HG9.out b e).1; have := hb.1; omega)).mono (T := Kp wr k v4) fun b hb => ⟨by have := hb.1; omega, hb.2⟩)
                          have HRd := Lib.hid (RowsOf.fx (E := Kp wr k v4) hfc (fun b hb e => by have := (HG9.out b e).1; have := hb.1; omega) (fun b hb => ⟨by have := hb.1; omega, hb.2⟩) (RowsOf.fx HFb.out (fun _ _ h => h) (fun b hb => hb) HR9.out))
                          clear hfc hsz hsz2
                          go_wp2
                          go_roundw
                          case rel => exact ⟨c + 1, v4, by go_num, by omega, HFd.out, HLo9.out, HSd.out, HRd.out, .inr ⟨by omega, q', HWd.out, HV9.out, HQl9.out, HDr9.out⟩⟩
                          case measure => first | (simp [intOf]; omega) | simp [intOf]
                · obtain rfl : c = T := by omega
                  obtain ⟨q, hW, hnx⟩ : ∃ q, WalkS wr k v' q true true ∧ nextP ps N q = none := by
                    rcases hcase with ⟨h, _⟩ | ⟨_, q, hW, hV, _, hDr⟩
                    · omega
                    · refine ⟨q, hW, ?_⟩
                      rcases next_rest HFull.out hV with ⟨hn0, _⟩ | ⟨q', _, hr1, _⟩
                      · exact hn0
                      · rw [hr1, List.drop_eq_nil_of_le (by rw [← HT.out]; omega)] at hDr
                        cases hDr
                  have HW8 := Lib.hid hW
                  have HNx8 := Lib.hid hnx
                  clear hcase hW hnx
                  go_wp2
                  go_loopw [18] (fun i ws => ∃ c : Nat, i = .int .i64 c ∧ c ≤ 3 ∧ Fx No w ws ∧ ∃ (vv : Value) (row : List Int), (∀ b, Sx k vv b → w.heap.size ≤ b) ∧ nextP ps N row = none ∧ WalkS ws k vv row true true) (fun i _ => 3 - (intOf i).toNat)
                  case atStart => exact ⟨0, rfl, by omega, HF8.out, v', q, HLo8.out, HNx8.out, HW8.out⟩
                  case round =>
                    obtain ⟨c, rfl, hc3, hf, hW⟩ := hrel
                    have HFt := Lib.hid hf
                    have HWt := Lib.hid hW
                    clear hf hW
                    by_cases hlt : c < 3
                    · go_wp2_with fail
                      obtain ⟨vv, row, hlo, hnx, hW⟩ := HWt.out
                      have HLoT := Lib.hid hlo
                      have HWw := Lib.hid hW
                      have HNx := Lib.hid hnx
                      clear hlo hnx hW
                      refine (next_begun HWw.out).mono ?_
                      rintro e wu ⟨uu, v4, hf, hv, hres⟩
                      rw [HPs.out, HN.out] at hres
                      obtain ⟨rfl, hW⟩ : e = .returned (.tuple #[.slice none 0 0, .bool false]) ∧ WalkS wu k v4 [] true true := by
                        rcases hres with ⟨q', h, _⟩ | ⟨_, h1, h2⟩
                        · rw [HNx.out] at h; cases h
                        · exact ⟨h1, h2⟩
                      have HFu : Hid (Fx No w wu) := HFt.out.trans' hf fun j e hl => by have := HLoT.out j e; omega
                      have HLo4 := Lib.hid (sx_lo HLoT.out HFt.out.size hv)
                      have HWu := Lib.hid hW
                      clear hf hv hres hW
                      go_wp2_with fail
                      refine (any_any HWu.out).mono ?_
                      rintro e wv ⟨rfl, rfl⟩
                      go_wp2
                      go_roundw
                      case rel => exact ⟨c + 1, by go_num, by omega, HFu.out, v4, [], HLo4.out, rfl, HWu.out⟩
                      case measure => simp [intOf]; omega
                    · obtain rfl : c = 3 := by omega
                      go_wp2_with fail
                      refine (works_any _).mono ?_
                      rintro e wv ⟨rfl, hf⟩
                      have HFv : Hid (Fx No w wv) := HFt.out.trans hf
                      clear hf
                      go_wp2
                      go_ret
                      exact ⟨rfl, HFv.out⟩
      · have HE := Lib.hid he
        obtain ⟨z, hz'⟩ : ∃ z, z = mayE n ps := ⟨_, rfl⟩
        have hne : (z != 0) = true := by rw [hz']; simpa using he
        have HZ := Lib.hid hz'
        clear he hz' h1 h2
        rcases hbad with ⟨h3, h4⟩ | h3
        · have d1 : decide ((6 : Int) < n) = true := decide_eq_true h3
          have d2 : decide (n ≤ 4096) = false := decide_eq_false (by omega)
          go_enter Try.func6, Try.ntmps6
          go_wp2_with (at_builtin; refine wpList_append_sl rfl _ _ 22 rfl w.heap.size 47 Try.underlying22 hi hz hs hb rfl (by decide) rfl (World.ownsRow_nil w _ _ _) rfl HSl.out HOne.out (by unfold maxLen; omega) (by omega) (by simp) ?_)
          intro v' w1 hown hf1 hnil
          have hF1 : Fx No w w1 := (Fx.refl No w).trans' hf1 (by simp [Value.ownBlock])
          obtain ⟨hO, vo, vc, rfl, hpl, hcp⟩ := own_pairs HUlen.out (by simpa using hown)
          have HF1 := Lib.hid hF1
          have HO1 := Lib.hid hO
          have HPl := Lib.hid hpl
          have HCp := Lib.hid hcp
          have hw1 := hF1.size
          clear hown hf1 hnil hF1 hO hpl hcp
          go_wp2_with fail
          refine (new_any HO1.out n (by have := HUlen.out; omega)).mono ?_
          rintro e w2 ⟨hf, ⟨_, rfl⟩ | ⟨h, _⟩⟩
          case inr => exact absurd h HE.out
          rw [← HZ.out]
          have HF2 : Hid (Fx No w1 w2) := hf
          clear hf
          go_wp2_with fail
          refine (count_any (HO1.out.no HF2.out) n (by have := HUlen.out; omega)).mono ?_
          rintro e w3 ⟨hf, hcase⟩
          obtain rfl : e = .returned (.tuple #[.int .u64 0, .int .i64 z]) := by
            rcases hcase with ⟨_, h⟩ | ⟨h, _⟩ | ⟨h, _⟩
            · rw [HZ.out]; exact h
            · exact absurd h HE.out
            · exact absurd h HE.out
          have HF3 : Hid (Fx No w1 w3) := HF2.out.trans hf
          have HC3 : Hid (∀ g, vo = some ⟨g, 0, none⟩ → CellsP w3 g ul) := fun g e k hk => by
            obtain ⟨q, c, f⟩ := HCp.out g e k hk
            exact ⟨q, HF3.out.cellF c f (fun h => h)⟩
          clear hf hcase
          go_wp2
          go_loopw [10] (fun i ws => ∃ j : Nat, i = .int .i64 j ∧ j ≤ ul ∧ Fx No w ws ∧ ∀ g, vo = some ⟨g, 0, none⟩ → CellsP ws g ul) (fun i _ => ul - (intOf i).toNat)
          case atStart => exact ⟨0, rfl, Nat.zero_le _, HF1.out.trans HF3.out, HC3.out⟩
          case round =>
            obtain ⟨j, rfl, hj, hf, hc⟩ := hrel
            have HF4 := Lib.hid hf
            have HC4 := Lib.hid hc
            clear hf hc
            by_cases hlt : j < ul
            · skip
              obtain ⟨g, rfl, hg1, hg2⟩ := HPl.out (by omega)
              have hc := HC4.out g rfl
              obtain ⟨z0, c0, f0⟩ := hc (j * 2) (by omega)
              obtain ⟨z1, c1, f1⟩ := hc (j * 2 + 1) (by omega)
              have HC5 : Hid (∀ g', some (⟨g, 0, none⟩ : Addr) = some ⟨g', 0, none⟩ → CellsP ((wr.setCell ⟨g, j * 2, none⟩ (.int .i64 0)).setCell ⟨g, j * 2 + 1, none⟩ (.int .i64 0)) g' ul) := fun g' e => by
                simp only [Option.some.injEq, Addr.mk.injEq, and_true] at e
                subst e
                exact (hc.set (by omega) 0).set (by omega) 0
              have HF5 : Hid (Fx No w ((wr.setCell ⟨g, j * 2, none⟩ (.int .i64 0)).setCell ⟨g, j * 2 + 1, none⟩ (.int .i64 0))) := (HF4.out.setCell (.inl hg1) _).setCell (.inl hg1) _
              clear hc
              go_wp2
              go_roundw
              case rel => exact ⟨j + 1, by go_num, by omega, HF5.out, HC5.out⟩
              case measure => simp [intOf]; omega
            · obtain rfl : j = ul := by omega
              go_wp2_with fail
              refine (may_any' (HPv.out.no HF4.out) n).mono ?_
              rintro e w5 ⟨rfl, hf⟩
              rw [← HZ.out]
              have HF5 : Hid (Fx No w w5) := HF4.out.trans hf
              clear hf
              go_wp2_with fail
              refine (works_any _).mono ?_
              rintro e w6 ⟨rfl, hf⟩
              have HF6 : Hid (Fx No w w6) := HF5.out.trans hf
              clear hf
              go_wp2
              go_ret
              exact ⟨rfl, HF6.out⟩
        · have d1 : decide ((6 : Int) < n) = false := decide_eq_false (by omega)
          go_enter Try.func6, Try.ntmps6
          go_wp2_with (at_builtin; refine wpList_append_sl rfl _ _ 22 rfl w.heap.size 47 Try.underlying22 hi hz hs hb rfl (by decide) rfl (World.ownsRow_nil w _ _ _) rfl HSl.out HOne.out (by unfold maxLen; omega) (by omega) (by simp) ?_)
          intro v' w1 hown hf1 hnil
          have hF1 : Fx No w w1 := (Fx.refl No w).trans' hf1 (by simp [Value.ownBlock])
          obtain ⟨hO, vo, vc, rfl, hpl, hcp⟩ := own_pairs HUlen.out (by simpa using hown)
          have HF1 := Lib.hid hF1
          have HO1 := Lib.hid hO
          have HPl := Lib.hid hpl
          have HCp := Lib.hid hcp
          have hw1 := hF1.size
          clear hown hf1 hnil hF1 hO hpl hcp
          go_wp2_with fail
          refine (new_any HO1.out n (by have := HUlen.out; omega)).mono ?_
          rintro e w2 ⟨hf, ⟨_, rfl⟩ | ⟨h, _⟩⟩
          case inr => exact absurd h HE.out
          rw [← HZ.out]
          have HF2 : Hid (Fx No w1 w2) := hf
          clear hf
          go_wp2_with fail
          refine (count_any (HO1.out.no HF2.out) n (by have := HUlen.out; omega)).mono ?_
          rintro e w3 ⟨hf, hcase⟩
          obtain rfl : e = .returned (.tuple #[.int .u64 0, .int .i64 z]) := by
            rcases hcase with ⟨_, h⟩ | ⟨h, _⟩ | ⟨h, _⟩
            · rw [HZ.out]; exact h
            · exact absurd h HE.out
            · exact absurd h HE.out
          have HF3 : Hid (Fx No w1 w3) := HF2.out.trans hf
          have HC3 : Hid (∀ g, vo = some ⟨g, 0, none⟩ → CellsP w3 g ul) := fun g e k hk => by
            obtain ⟨q, c, f⟩ := HCp.out g e k hk
            exact ⟨q, HF3.out.cellF c f (fun h => h)⟩
          clear hf hcase
          go_wp2
          go_loopw [10] (fun i ws => ∃ j : Nat, i = .int .i64 j ∧ j ≤ ul ∧ Fx No w ws ∧ ∀ g, vo = some ⟨g, 0, none⟩ → CellsP ws g ul) (fun i _ => ul - (intOf i).toNat)
          case atStart => exact ⟨0, rfl, Nat.zero_le _, HF1.out.trans HF3.out, HC3.out⟩
          case round =>
            obtain ⟨j, rfl, hj, hf, hc⟩ := hrel
            have HF4 := Lib.hid hf
            have HC4 := Lib.hid hc
            clear hf hc
            by_cases hlt : j < ul
            · skip
              obtain ⟨g, rfl, hg1, hg2⟩ := HPl.out (by omega)
              have hc := HC4.out g rfl
              obtain ⟨z0, c0, f0⟩ := hc (j * 2) (by omega)
              obtain ⟨z1, c1, f1⟩ := hc (j * 2 + 1) (by omega)
              have HC5 : Hid (∀ g', some (⟨g, 0, none⟩ : Addr) = some ⟨g', 0, none⟩ → CellsP ((wr.setCell ⟨g, j * 2, none⟩ (.int .i64 0)).setCell ⟨g, j * 2 + 1, none⟩ (.int .i64 0)) g' ul) := fun g' e => by
                simp only [Option.some.injEq, Addr.mk.injEq, and_true] at e
                subst e
                exact (hc.set (by omega) 0).set (by omega) 0
              have HF5 : Hid (Fx No w ((wr.setCell ⟨g, j * 2, none⟩ (.int .i64 0)).setCell ⟨g, j * 2 + 1, none⟩ (.int .i64 0))) := (HF4.out.setCell (.inl hg1) _).setCell (.inl hg1) _
              clear hc
              go_wp2
              go_roundw
              case rel => exact ⟨j + 1, by go_num, by omega, HF5.out, HC5.out⟩
              case measure => simp [intOf]; omega
            · obtain rfl : j = ul := by omega
              go_wp2_with fail
              refine (may_any' (HPv.out.no HF4.out) n).mono ?_
              rintro e w5 ⟨rfl, hf⟩
              rw [← HZ.out]
              have HF5 : Hid (Fx No w w5) := HF4.out.trans hf
              clear hf
              go_wp2_with fail
              refine (works_any _).mono ?_
              rintro e w6 ⟨rfl, hf⟩
              have HF6 : Hid (Fx No w w6) := HF5.out.trans hf
              clear hf
              go_wp2
              go_ret
              exact ⟨rfl, HF6.out⟩
#print axioms walks_any
end Go.Proofs.Ytddpdjbgidmdlaa
