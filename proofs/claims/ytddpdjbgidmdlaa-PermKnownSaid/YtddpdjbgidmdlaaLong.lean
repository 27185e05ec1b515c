/- The law PermLong. -/
import Derived.Test.YtddpdjbgidmdlaaClosed
namespace Go.Proofs.Ytddpdjbgidmdlaa
open Go.RowKit
set_option linter.unusedVariables false

theorem fillF_pre (ps : List (Int × Int)) (n : Nat) : ∀ m row, ∃ t, fillF ps n m row = row ++ t
  | 0, row => ⟨[], by simp [fillF]⟩
  | m + 1, row => by
    show ∃ t, (match cand ps n row 0 with
      | none => row
      | some i => fillF ps n m (row ++ [(i : Int)])) = row ++ t
    cases cand ps n row 0 with
    | none => exact ⟨[], by simp⟩
    | some i =>
      obtain ⟨t, ht⟩ := fillF_pre ps n m (row ++ [(i : Int)])
      exact ⟨(i : Int) :: t, by show fillF ps n m (row ++ [(i : Int)]) = _; rw [ht]; simp⟩
/-- the next row is behind -/
theorem next_ahead {ps : List (Int × Int)} {n : Nat} {q q' : List Int} (hF : Full ps n) (hv : VRow ps n q) (h : nextP ps n q = some q') : ∃ (r : List Int) (x y : Nat) (s s' : List Int), q = r ++ (x : Int) :: s ∧ q' = r ++ (y : Int) :: s' ∧ x < y := by
  induction hv with
  | nil => cases h
  | @snoc row i hv hi hm ih =>
    rw [nextP_snoc] at h
    cases hc : cand ps n row (i + 1) with
    | none =>
      rw [hc] at h
      obtain ⟨r, x, y, s, s', e1, e2, e3⟩ := ih h
      exact ⟨r, x, y, s ++ [(i : Int)], s', by rw [e1]; simp, e2, e3⟩
    | some j =>
      rw [hc] at h
      obtain ⟨h1, h2, _⟩ := cand_spec hc
      have e := (Option.some.inj h).symm
      obtain ⟨t, ht⟩ := fillF_pre ps n (n - (row ++ [(j : Int)]).length + 1) (row ++ [(j : Int)])
      refine ⟨row, i, j, [], t, rfl, ?_, by omega⟩
      rw [e]
      unfold fillP
      rw [ht]; simp
theorem ahead_of {q q' r s s' : List Int} {x y : Nat} (e1 : q = r ++ (x : Int) :: s) (e2 : q' = r ++ (y : Int) :: s') (h : x < y) : aheadB q q' = true := by
  subst e1 e2
  induction r with
  | nil =>
    show (if (x : Int) = (y : Int) then _ else decide ((x : Int) < (y : Int))) = true
    rw [if_neg (by omega)]
    exact decide_eq_true (by omega)
  | cons a r ih =>
    show (if a = a then aheadB (r ++ (x : Int) :: s) (r ++ (y : Int) :: s') else _) = true
    rw [if_pos rfl]; exact ih
theorem sx_lo {w0 w : World} {k : WK} {v v' : Value} (h : ∀ b, Sx k v b → w0.heap.size ≤ b) (hz : w0.heap.size ≤ w.heap.size) (hv : ∀ g, v'.ownBlock = some g → v.ownBlock = some g ∨ w.heap.size ≤ g) : ∀ b, Sx k v' b → w0.heap.size ≤ b := fun b hb => by
  rcases hb with e | e | e | e
  · exact h b (.inl e)
  · exact h b (.inr (.inl e))
  · exact h b (.inr (.inr (.inl e)))
  · rcases hv b e with e | e
    · exact h b (.inr (.inr (.inr e)))
    · omega
set_option maxRecDepth 100000 in
set_option maxHeartbeats 4000000 in
theorem long_any {w : World} {E : Nat → Prop} {u : Value} {ps : List (Int × Int)} (n : Int) (h : PairsV w E u ps) :
    Calls Try.prog 3 #[.int .i64 n, u] w fun e w' => e = .returned (.bool true) ∧ Fx No w w' := by
  have HPv := Lib.hid h
  obtain ⟨uo, ucap, rfl, hul, _⟩ := h.facts
  clear h
  obtain ⟨ul, hulen⟩ : ∃ k, k = ps.length := ⟨_, rfl⟩
  rw [← hulen] at hul ⊢
  have HUlen := Lib.hid hulen
  have HPv : Hid (PairsV w E (.slice uo ul ucap) ps) := by have := HPv.out; rwa [← hulen] at this
  clear hulen
  by_cases h1 : 40 < n
  · have d1 : decide ((40 : Int) < n) = true := decide_eq_true h1
    go_enter Try.func3, Try.ntmps3
    go_wp2_with fail
    refine (works_any _).mono ?_
    rintro e w1 ⟨rfl, hf⟩
    have HF := Lib.hid hf
    clear hf
    go_wp2
    go_ret
    exact ⟨rfl, (Fx.refl No _).trans HF.out⟩
  · have d1 : decide ((40 : Int) < n) = false := decide_eq_false h1
    by_cases h2 : 60 < ul
    · have d2 : decide ((60 : Int) < (ul : Int)) = true := decide_eq_true (by omega)
      clear h1
      go_enter Try.func3, Try.ntmps3
      go_wp2_with fail
      refine (works_any _).mono ?_
      rintro e w1 ⟨rfl, hf⟩
      have HF := Lib.hid hf
      clear hf
      go_wp2
      go_ret
      exact ⟨rfl, (Fx.refl No _).trans HF.out⟩
    · have d2 : decide ((60 : Int) < (ul : Int)) = false := decide_eq_false (by omega)
      have HUl : Hid (ps.length ≤ 60) := by show _ ≤ _; rw [← HUlen.out]; omega
      clear h2
      by_cases he : mayE n ps = 0
      · obtain ⟨q1, q2, q3⟩ := mayE_zero he
        obtain ⟨N, rfl⟩ := Int.eq_ofNat_of_zero_le q1
        have hok : PsOk ps N := fun q hq => by
          have := q3 q hq
          simp only [pOk, decide_eq_true_eq] at this
          omega
        have HOk := Lib.hid hok
        have HE := Lib.hid he
        have hN40 : N ≤ 40 := by omega
        clear q1 q2 q3 hok he h1
        go_enter Try.func3, Try.ntmps3
        go_wp2_with fail
        refine (new_any HPv.out (N : Int) (by have := HUl.out; omega)).mono ?_
        rintro e w1 ⟨hf, ⟨h, _⟩ | ⟨_, k, v, rfl, hn, hps, hlo, hW⟩⟩
        · exact absurd HE.out h
        rw [Int.toNat_natCast] at hn hW
        have HF1 := Lib.hid hf
        have HW1 := Lib.hid hW
        have HLo : Hid (∀ b, Sx k v b → w.heap.size ≤ b) := fun b hb => hlo b (.inl hb)
        have HN := Lib.hid hn
        have HPs := Lib.hid hps
        clear hf hW hlo hn hps
        go_wp2_with fail
        refine (may_any' (HPv.out.no HF1.out) (N : Int)).mono ?_
        rintro e w2 ⟨rfl, hf⟩
        have HF2 : Hid (Fx No w w2) := HF1.out.trans hf
        have HW2 := Lib.hid (HW1.out.no hf)
        rw [HE.out]
        clear hf HF1 HW1
        cases hcl : closedB ps N with
        | true =>
          obtain ⟨a1, a2⟩ := (any_iff HOk.out).2 hcl
          have HCl := Lib.hid hcl
          have e1 : decide ((fillP ps N []).length = N) = false := decide_eq_false a1
          rw [e1] at HW2
          have HT : Hid (0 ≤ (treeT ps N N []).length ∧ ((0 : Nat) = 8 ∨ (treeT ps N N []).length = 0)) := by
            rw [a2]; exact ⟨Nat.le_refl _, .inr rfl⟩
          clear a1 a2 e1 hcl
          go_wp2
          go_loopw [7, 8, 9] (fun l m i ws => l = .slice none 0 0 ∧ m = .int .u64 0 ∧ i = .int .i64 0 ∧ Fx No w ws ∧ WalkS ws k v (fillP ps N []) false false) (fun _ _ _ _ => 0)
          case atStart => exact ⟨rfl, rfl, rfl, HF2.out, HW2.out⟩
          case round =>
            obtain ⟨rfl, rfl, rfl, hf, hW⟩ := hrel
            have HF3 := Lib.hid hf
            have HW3 := Lib.hid hW
            clear hf hW
            go_wp2_with fail
            refine (next_no HW3.out).mono ?_
            rintro e w4 ⟨rfl, hf⟩
            have HF4 : Hid (Fx No w w4) := HF3.out.trans hf
            have HW4 := Lib.hid (HW3.out.no hf)
            clear hf
            go_wp2_with fail
            refine (closed_any (HPv.out.no HF4.out) (by omega) HOk.out).mono ?_
            rintro e w5 ⟨rfl, hf⟩
            have HF5 : Hid (Fx No w w5) := HF4.out.trans hf
            have HW5 := Lib.hid (HW4.out.no hf)
            rw [HCl.out]
            clear hf
            go_wp2_with fail
            refine (any_any HW5.out).mono ?_
            rintro e w6 ⟨rfl, rfl⟩
            have HFX := Lib.hid HF5.out
            go_wp2_with fail
            refine (count_any (HPv.out.no HFX.out) (N : Int) (by have := HUl.out; omega)).mono ?_
            intro e wC hc
            obtain ⟨hf, hcase⟩ := hc
            have HFC : Hid (Fx No w wC) := HFX.out.trans hf
            by_cases h16 : 16 < N
            · obtain rfl : e = .returned (.tuple #[.int .u64 0, .int .i64 3]) := by
                rcases hcase with ⟨h, _⟩ | ⟨_, _, h⟩ | ⟨_, h, _⟩
                · exact absurd HE.out h
                · exact h
                · omega
              have d16 : decide ((16 : Int) < (N : Int)) = true := decide_eq_true (by omega)
              clear hcase hf h16
              go_wp2_with fail
              refine (works_any _).mono ?_
              rintro e wD ⟨rfl, hf⟩
              have HFD : Hid (Fx No w wD) := HFC.out.trans hf
              clear hf
              go_wp2
              go_ret
              exact ⟨rfl, HFD.out⟩
            · obtain ⟨T, hT⟩ : ∃ T, T = (treeT ps N N []).length := ⟨_, rfl⟩
              obtain rfl : e = .returned (.tuple #[.int .u64 (T : Int), .int .i64 0]) := by
                rcases hcase with ⟨h, _⟩ | ⟨_, h, _⟩ | ⟨_, _, M, hM, h⟩
                · exact absurd HE.out h
                · omega
                · rw [Int.toNat_natCast] at hM h
                  rw [h, cnt_tree HOk.out (by omega) hM, ← hT]
              have hm := HT.out
              rw [← hT] at hm
              have d16 : decide ((16 : Int) < (N : Int)) = false := decide_eq_false (by omega)
              have dge : decide ((0 : Int) ≤ (T : Int)) = true := decide_eq_true (by omega)
              clear hcase hf h16 hT
              obtain rfl : T = 0 := by omega
              go_wp2_with fail
              refine (works_any _).mono ?_
              rintro e wD ⟨rfl, hf⟩
              have HFD : Hid (Fx No w wD) := HFC.out.trans hf
              clear hf
              go_wp2
              go_ret
              exact ⟨rfl, HFD.out⟩
        | false =>
          obtain ⟨a1, a2, a3⟩ := (any_iff HOk.out).1 hcl
          have e1 : decide ((fillP ps N []).length = N) = true := decide_eq_true a2
          rw [e1] at HW2
          obtain ⟨b1, b2, b3⟩ := first_rest a1
          have HFull := Lib.hid a1
          have HFi := Lib.hid b1
          have HFl := Lib.hid b2
          have HFv := Lib.hid b3
          clear a1 a2 a3 e1 hcl b1 b2 b3
          go_wp2
          go_loopw [7, 8, 9] (fun l m i ws => ∃ (c : Nat) (v' : Value), i = .int .i64 c ∧ m = .int .u64 (c : Int) ∧ c ≤ 8 ∧ Fx No w ws ∧ (∀ b, Sx k v' b → w.heap.size ≤ b) ∧ ((c = 0 ∧ l = .slice none 0 0 ∧ WalkS ws k v' (fillP ps N []) true false) ∨ (0 < c ∧ ∃ q, WalkS ws k v' q true true ∧ IntsV ws (Kp ws k v') l q ∧ VRow ps N q ∧ q.length = N ∧ (treeT ps N N []).length = c + (rest ps N q).length))) (fun _ _ i _ => 8 - (intOf i).toNat)
          case atStart => exact ⟨0, v, rfl, rfl, Nat.zero_le _, HF2.out, HLo.out, .inl ⟨rfl, rfl, HW2.out⟩⟩
          case round =>
            obtain ⟨c, v', rfl, rfl, hc8, hf, hlo, hcase⟩ := hrel
            have HF3 := Lib.hid hf
            have HLo3 := Lib.hid hlo
            clear hf hlo
            by_cases hlt : c < 8
            · rcases hcase with ⟨rfl, rfl, hW⟩ | ⟨hc0, q, hW, hI, hV, hQl, hTr⟩
              · have HW3 := Lib.hid hW
                clear hW
                go_wp2_with fail
                refine (next_first HW3.out).mono ?_
                rintro e w4 ⟨uu, rfl, hf, hW, ho, hg⟩
                have HF4 : Hid (Fx No w w4) := HF3.out.trans' hf fun j e hl => by have := HLo3.out j e; omega
                have hk := kept_new (fun b hb => HW3.out.lt b (.inl hb)) ho hg
                obtain ⟨po, pc, hpv, _⟩ := hk.facts
                rw [HFl.out] at hpv
                subst hpv
                have HK4 := Lib.hid hk
                have HW4 := Lib.hid hW
                obtain ⟨q, hq⟩ : ∃ q, q = fillP ps N [] := ⟨_, rfl⟩
                rw [← hq] at HK4 HW4 HFi HFl HFv
                have HTr : Hid ((treeT ps N N []).length = 0 + 1 + (rest ps N q).length) := by show _ = _; rw [HFi.out, List.length_cons]; omega
                have HAh : Hid (∀ (W : World), True) := fun _ => trivial
                clear hf hk hW ho hg hq
                go_wp2_with fail
                refine (refRespects_any HK4.out (HPv.out.no HF4.out) (by rw [HFl.out]; omega)).mono ?_
                rintro e w5 ⟨rfl, hf⟩
                have HF5 : Hid (Fx No w w5) := HF4.out.trans hf
                have HW5 := Lib.hid (HW4.out.no hf)
                have HK5 := Lib.hid (kept_no HK4.out hf)
                rw [HFv.out.resp HFl.out HOk.out]
                clear hf
                go_wp2_with fail
                refine (refRight_any HK5.out (N : Int)).mono ?_
                rintro e w6 ⟨rfl, rfl⟩
                have er : rightB q (N : Int) = true := (rightB_iff _ _).2 ⟨by rw [HFl.out], HFv.out.ok HFl.out⟩
                rw [er]
                clear er
                go_wp2_with fail
                have HF6 := Lib.hid HF5.out
                have HW6 := Lib.hid HW5.out
                have HK6 := Lib.hid HK5.out
                refine (any_any HW6.out).mono ?_
                rintro e w8 ⟨rfl, rfl⟩
                go_wp2
                go_roundw
                case rel => exact ⟨0 + 1, v', by go_num, by go_num, by omega, HF6.out, HLo3.out, .inr ⟨by omega, _, HW6.out, HK6.out, HFv.out, HFl.out, HTr.out⟩⟩
                case measure => first | (simp [intOf]; omega) | simp [intOf]
              · obtain ⟨lo, lc, hlv, _⟩ := hI.facts
                rw [hQl] at hlv
                subst hlv
                have HW3 := Lib.hid hW
                have HI3 := Lib.hid hI
                have HV3 := Lib.hid hV
                have HQl := Lib.hid hQl
                have HTr3 := Lib.hid hTr
                clear hW hI hV hQl hTr
                go_wp2_with fail
                refine (next_begun HW3.out).mono ?_
                rintro e w4 ⟨uu, v4, hf, hv, hres⟩
                rw [HPs.out, HN.out] at hres
                have HF4 : Hid (Fx No w w4) := HF3.out.trans' hf fun j e hl => by have := HLo3.out j e; omega
                have HLo4 := Lib.hid (sx_lo HLo3.out HF3.out.size hv)
                have HKl := Lib.hid (kept_fx HI3.out hf hv)
                rcases next_rest HFull.out HV3.out with ⟨hn0, hr0⟩ | ⟨q', hn1, hr1, hv1, hl1⟩
                · obtain ⟨rfl, hW⟩ : e = .returned (.tuple #[.slice none 0 0, .bool false]) ∧ WalkS w4 k v4 [] true true := by
                    rcases hres with ⟨q', h, _⟩ | ⟨_, h1, h2⟩
                    · rw [hn0] at h; cases h
                    · exact ⟨h1, h2⟩
                  have HT : Hid (c ≤ (treeT ps N N []).length ∧ (c = 8 ∨ (treeT ps N N []).length = c)) := by
                    rw [HTr3.out, hr0]; exact ⟨by simp, .inr rfl⟩
                  have HFX := Lib.hid HF4.out
                  have hne0 : ((c : Int) == 0) = false := by simp; omega
                  clear hf hv hres hn0 hr0 hW
                  go_wp2_with fail
                  refine (count_any (HPv.out.no HFX.out) (N : Int) (by have := HUl.out; omega)).mono ?_
                  intro e wC hc
                  obtain ⟨hf, hcase⟩ := hc
                  have HFC : Hid (Fx No w wC) := HFX.out.trans hf
                  by_cases h16 : 16 < N
                  · obtain rfl : e = .returned (.tuple #[.int .u64 0, .int .i64 3]) := by
                      rcases hcase with ⟨h, _⟩ | ⟨_, _, h⟩ | ⟨_, h, _⟩
                      · exact absurd HE.out h
                      · exact h
                      · omega
                    have d16 : decide ((16 : Int) < (N : Int)) = true := decide_eq_true (by omega)
                    clear hcase hf h16
                    go_wp2_with fail
                    refine (works_any _).mono ?_
                    rintro e wD ⟨rfl, hf⟩
                    have HFD : Hid (Fx No w wD) := HFC.out.trans hf
                    clear hf
                    go_wp2
                    go_ret
                    exact ⟨rfl, HFD.out⟩
                  · obtain ⟨T, hT⟩ : ∃ T, T = (treeT ps N N []).length := ⟨_, rfl⟩
                    obtain rfl : e = .returned (.tuple #[.int .u64 (T : Int), .int .i64 0]) := by
                      rcases hcase with ⟨h, _⟩ | ⟨_, h, _⟩ | ⟨_, _, M, hM, h⟩
                      · exact absurd HE.out h
                      · omega
                      · rw [Int.toNat_natCast] at hM h
                        rw [h, cnt_tree HOk.out (by omega) hM, ← hT]
                    have hm := HT.out
                    rw [← hT] at hm
                    have d16 : decide ((16 : Int) < (N : Int)) = false := decide_eq_false (by omega)
                    have dge : decide (((c : Nat) : Int) ≤ (T : Int)) = true := decide_eq_true (by omega)
                    clear hcase hf h16 hT
                    obtain rfl : T = c := by omega
                    have hne8 : ((T : Int) == 8) = false := by simp; omega
                    go_wp2_with fail
                    refine (works_any _).mono ?_
                    rintro e wD ⟨rfl, hf⟩
                    have HFD : Hid (Fx No w wD) := HFC.out.trans hf
                    clear hf
                    go_wp2
                    go_ret
                    exact ⟨rfl, HFD.out⟩
                · obtain ⟨rfl, hW, ho, hg⟩ : e = .returned (.tuple #[uu, .bool true]) ∧ WalkS w4 k v4 q' true true ∧ OwnI w4 0 uu q' ∧ (∀ g, uu.ownBlock = some g → wr.heap.size ≤ g ∧ v4.ownBlock ≠ some g) := by
                    rcases hres with ⟨q2, h, h2, h3, h4, h5⟩ | ⟨h, _⟩
                    · rw [hn1] at h
                      obtain rfl := Option.some.inj h
                      exact ⟨h2, h3, h4, h5⟩
                    · rw [hn1] at h; cases h
                  obtain ⟨r, x, y, s, s', e1, e2, e3⟩ := next_ahead HFull.out HV3.out hn1
                  have HAh := Lib.hid (ahead_of e1 e2 e3)
                  have hk := kept_new (fun b hb => HW3.out.lt b (.inl hb)) ho hg
                  obtain ⟨po, pc, hpv, _⟩ := hk.facts
                  rw [hl1] at hpv
                  subst hpv
                  have HK4 := Lib.hid hk
                  have HW4 := Lib.hid hW
                  have HTr : Hid ((treeT ps N N []).length = c + 1 + (rest ps N q').length) := by show _ = _; rw [HTr3.out, hr1, List.length_cons]; omega
                  have HFl := Lib.hid hl1
                  have HFv := Lib.hid hv1
                  have hd0 : decide ((0 : Int) < (c : Int)) = true := decide_eq_true (by omega)
                  have hw : IntKind.u64.wrap ((c : Int) + 1) = (c : Int) + 1 := by rw [IntKind.wrap_u64]; omega
                  clear hf hv hres hk hW ho hg hn1 hr1 hv1 hl1 e1 e2 e3
                  go_wp2_with fail
                  refine (refRespects_any HK4.out (HPv.out.no HF4.out) (by rw [HFl.out]; omega)).mono ?_
                  rintro e w5 ⟨rfl, hf⟩
                  have HF5 : Hid (Fx No w w5) := HF4.out.trans hf
                  have HW5 := Lib.hid (HW4.out.no hf)
                  have HK5 := Lib.hid (kept_no HK4.out hf)
                  have HL5 := Lib.hid (kept_no HKl.out hf)
                  rw [HFv.out.resp HFl.out HOk.out]
                  clear hf
                  go_wp2_with fail
                  refine (refRight_any HK5.out (N : Int)).mono ?_
                  rintro e w6 ⟨rfl, rfl⟩
                  have er : rightB q' (N : Int) = true := (rightB_iff _ _).2 ⟨by rw [HFl.out], HFv.out.ok HFl.out⟩
                  rw [er]
                  clear er
                  go_wp2_with fail
                  refine (ahead_any HL5.out HK5.out (by rw [HQl.out, HFl.out])).mono ?_
                  rintro e w7 ⟨rfl, hf⟩
                  have HF6 : Hid (Fx No w w7) := HF5.out.trans hf
                  have HW6 := Lib.hid (HW5.out.no hf)
                  have HK6 := Lib.hid (kept_no HK5.out hf)
                  rw [HAh.out]
                  clear hf
                  go_wp2_with fail
                  refine (any_any HW6.out).mono ?_
                  rintro e w8 ⟨rfl, rfl⟩
                  go_wp2
                  go_roundw
                  case rel => exact ⟨c + 1, v4, by go_num, by go_num, by omega, HF6.out, HLo4.out, .inr ⟨by omega, _, HW6.out, HK6.out, HFv.out, HFl.out, HTr.out⟩⟩
                  case measure => first | (simp [intOf]; omega) | simp [intOf]
            · obtain rfl : c = 8 := by omega
              have HT : Hid (8 ≤ (treeT ps N N []).length ∧ ((8 : Nat) = 8 ∨ (treeT ps N N []).length = 8)) := by
                rcases hcase with ⟨h, _⟩ | ⟨_, q, _, _, _, _, hTr⟩
                · omega
                · rw [hTr]; exact ⟨by omega, .inl rfl⟩
              have HFX := Lib.hid HF3.out
              clear hcase
              go_wp2_with fail
              refine (count_any (HPv.out.no HFX.out) (N : Int) (by have := HUl.out; omega)).mono ?_
              intro e wC hc
              obtain ⟨hf, hcase⟩ := hc
              have HFC : Hid (Fx No w wC) := HFX.out.trans hf
              by_cases h16 : 16 < N
              · obtain rfl : e = .returned (.tuple #[.int .u64 0, .int .i64 3]) := by
                  rcases hcase with ⟨h, _⟩ | ⟨_, _, h⟩ | ⟨_, h, _⟩
                  · exact absurd HE.out h
                  · exact h
                  · omega
                have d16 : decide ((16 : Int) < (N : Int)) = true := decide_eq_true (by omega)
                clear hcase hf h16
                go_wp2_with fail
                refine (works_any _).mono ?_
                rintro e wD ⟨rfl, hf⟩
                have HFD : Hid (Fx No w wD) := HFC.out.trans hf
                clear hf
                go_wp2
                go_ret
                exact ⟨rfl, HFD.out⟩
              · obtain ⟨T, hT⟩ : ∃ T, T = (treeT ps N N []).length := ⟨_, rfl⟩
                obtain rfl : e = .returned (.tuple #[.int .u64 (T : Int), .int .i64 0]) := by
                  rcases hcase with ⟨h, _⟩ | ⟨_, h, _⟩ | ⟨_, _, M, hM, h⟩
                  · exact absurd HE.out h
                  · omega
                  · rw [Int.toNat_natCast] at hM h
                    rw [h, cnt_tree HOk.out (by omega) hM, ← hT]
                have hm := HT.out
                rw [← hT] at hm
                have d16 : decide ((16 : Int) < (N : Int)) = false := decide_eq_false (by omega)
                have dge : decide ((8 : Int) ≤ (T : Int)) = true := decide_eq_true (by omega)
                clear hcase hf h16 hT
                go_wp2_with fail
                refine (works_any _).mono ?_
                rintro e wD ⟨rfl, hf⟩
                have HFD : Hid (Fx No w wD) := HFC.out.trans hf
                clear hf
                go_wp2
                go_ret
                exact ⟨rfl, HFD.out⟩
      · have HE := Lib.hid he
        obtain ⟨z, hz⟩ : ∃ z, z = mayE n ps := ⟨_, rfl⟩
        have hne : (z != 0) = true := by rw [hz]; simpa using he
        have HZ := Lib.hid hz
        clear he hz h1
        go_enter Try.func3, Try.ntmps3
        go_wp2_with fail
        refine (new_any HPv.out n (by have := HUl.out; omega)).mono ?_
        rintro e w1 ⟨hf, ⟨_, rfl⟩ | ⟨h, _⟩⟩
        case inr => exact absurd h HE.out
        rw [← HZ.out]
        have HF1 := Lib.hid hf
        clear hf
        go_wp2_with fail
        refine (may_any' (HPv.out.no HF1.out) n).mono ?_
        rintro e w2 ⟨rfl, hf⟩
        rw [← HZ.out]
        have HF2 : Hid (Fx No w w2) := HF1.out.trans hf
        clear hf
        go_wp2_with fail
        refine (works_any _).mono ?_
        rintro e wD ⟨rfl, hf⟩
        have HFD : Hid (Fx No w wD) := HF2.out.trans hf
        clear hf
        go_wp2
        go_ret
        exact ⟨rfl, HFD.out⟩
#print axioms long_any
end Go.Proofs.Ytddpdjbgidmdlaa
