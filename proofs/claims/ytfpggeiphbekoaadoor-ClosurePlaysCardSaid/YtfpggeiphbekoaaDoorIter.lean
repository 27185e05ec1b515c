/- The iterator of package bits, (*Set).from: what it tells, whatever the loop's body does outside the set. -/
import Derived.Test.YtfpggeiphbekoaaDoorBitsD
import Derived.Test.YtfpggeiphbekoaaDoorRange
import Derived.Test.YtfpggeiphbekoaaDoorIterMath
namespace Go.Proofs.YtfpggeiphbekoaaDoor
open Go.RowKit Go.Shelf
set_option linter.unusedVariables false
attribute [local go_sem] Oper.semAt_some

/-- a number, as an iterator hands it on -/
def encN (k : Nat) : Array Value := #[.int .i64 (k : Int)]

set_option maxRecDepth 100000 in
set_option maxHeartbeats 1000000 in
theorem from1_iter {n l bi bs N X : Nat} {i0 : Int} {p : Option Addr} {D Bd : Nat → Prop} {J Jx : List Nat → World → Prop} {W : World} (hi0 : i0 ≤ 9223372036854775807)
    (hci : W.cell? ⟨bi, 0, none⟩ = some (.int .i64 i0)) (hzi : W.frozen? ⟨bi, 0, none⟩ = false) (hcs : W.cell? ⟨bs, 0, none⟩ = some (.pointer p)) (hP : SetP W D p N X) (hT : TabOk W)
    (hne : bi ≠ bs) (hDi : ¬ D bi) (hti : bi ≠ 0)
    (hbi : ¬ Bd bi ∧ bi ≠ l) (hbs : ¬ Bd bs ∧ bs ≠ l) (hbD : ∀ k, D k → ¬ Bd k ∧ k ≠ l) (hbT : ¬ Bd 0 ∧ 0 ≠ l)
    (hJ : Kept (fun k => k = bi) J) (hY : RoundAt (n - 1) Tryd.prog l encN (fun pre _ => pre.length ≤ 100000) Bd J Jx) (h0 : J [] W) :
    CallsIn Fence.wide n Tryd.prog 88 #[.func (.yield l) #[] #[], .pointer (some ⟨bi, 0, none⟩), .pointer (some ⟨bs, 0, none⟩)] W fun e W' => (∃ v, e = .returned v) ∧
      ((∃ xs, xs = preX i0 X N ∧ J xs W') ∨ (∃ pre, (pre <+: preX i0 X N ∧ pre ≠ []) ∧ Jx pre W')) := by
  refine callsIn_of_wp Tryd.func88 rfl trivial ?_ rfl
  simp only [Tryd.ntmps88, List.size_toArray, List.length_cons, List.length_nil, Nat.reduceAdd, Nat.reduceSub, Array.replicate_succ, Array.replicate_zero, List.push_toArray, List.append_toArray, List.nil_append, List.cons_append]
  obtain ⟨c0, hc0⟩ : ∃ c0 : Nat, (c0 : Int) = max 0 i0 := ⟨(max 0 i0).toNat, by omega⟩
  have hle := hP.le
  have hN := hle.1
  have hX := Lib.hid hle.2
  have HC0 := Lib.hid hc0
  have HY := Lib.hid hY
  have HP := Lib.hid hP
  have HT := Lib.hid hT
  have HJ := Lib.hid hJ
  have HbD := Lib.hid hbD
  have HbT := Lib.hid hbT
  have Hbi := Lib.hid hbi
  have Hbs := Lib.hid hbs
  have HDi := Lib.hid hDi
  have Hne := Lib.hid hne
  have Hti := Lib.hid hti
  have HJ0 := Lib.hid h0
  have hc0' : c0 ≤ 9223372036854775807 := by omega
  clear hY hP hT hJ hbD h0 hle hc0 hbT hbi hbs hDi hne hti
  gi_wp2
  all_goals
    gi_loopw [4, 5] (fun i _ wr => ∃ k : Nat, i = .int .i64 k ∧ k ≤ 144115188075855871 ∧ c0 / 64 ≤ k ∧ wr.cell? ⟨bi, 0, none⟩ = some (.int .i64 c0) ∧ wr.cell? ⟨bs, 0, none⟩ = some (.pointer p) ∧ SetP wr D p N X ∧ TabOk wr ∧ J (preX i0 X (64 * k)) wr)
      (fun i _ _ => 144115188075855871 - (intOf i).toNat)
    case atStart =>
      have hc := HC0.out
      refine ⟨c0 / 64, ?_, by omega, Nat.le_refl _, ?_, ?_, ?_, ?_, ?_⟩
      · congr 1; omega
      · rw [World.cell?_setCell_same _ _ _ hci]; congr 2; omega
      · rw [World.cell?_setCell_other _ _ _ _ (by intro e; have := congrArg Addr.block e; exact Hne.out this)]; exact hcs
      · exact HP.out.keep (Fx.put _ _ _ _) (by rintro j hj rfl; exact HDi.out hj)
      · exact HT.out.keep (Fx.put _ _ _ _) (fun e => Hti.out e.symm)
      · rw [preX_nil (fun j hj hh => by omega)]
        exact HJ.out _ _ _ HJ0.out (Fx.put _ _ _ _)
    case round =>
      obtain ⟨k, rfl, hk, hck, hc1, hc2, hP1, hT1, hJ1⟩ := hrel
      have HP1 := Lib.hid hP1
      have HT1 := Lib.hid hT1
      have HJ1 := Lib.hid hJ1
      clear hP1 hT1 hJ1
      by_cases hlt : 64 * k < N
      · have hb1 : c0 / 64 = k → restU i0 X k (64 * k) (wd X k &&& (18446744073709551616 - 2 ^ (c0 % 64))) := fun e => restU_mask e.symm HC0.out
        have hb2 : c0 / 64 ≠ k → restU i0 X k (64 * k) (wd X k) := fun e => restU_full (by have := HC0.out; omega)
        have HB1 := Lib.hid hb1
        have HB2 := Lib.hid hb2
        clear hb1 hb2
        gi_wp2_with fail
        refine ⟨trivial, (fun h => by cases h), (callsIn_wide.2 (size_any HP1.out)).mono ?_⟩
        rintro e w' ⟨rfl, rfl⟩
        gi_wp2_with fail
        refine ⟨trivial, (fun h => by cases h), (callsIn_wide.2 (at_any HP1.out k)).mono ?_⟩
        rintro e w' ⟨rfl, rfl⟩
        by_cases he : c0 / 64 = k
        · have hgm := go_mask (wd X k) c0 (wd_lt X k)
          have HB := Lib.hid (HB1.out he)
          have hq : ((k : Int) == (c0 : Int) / 64) = true := by rw [beq_iff_eq]; omega
          clear he
          gi_wp2
          gi_loopw [5] (fun v wq => ∃ u m : Nat, v = .int .u64 u ∧ 64 * k ≤ m ∧ m ≤ 64 * (k + 1) ∧ restU i0 X k m u ∧ wq.cell? ⟨bi, 0, none⟩ = some (.int .i64 c0) ∧ wq.cell? ⟨bs, 0, none⟩ = some (.pointer p) ∧ SetP wq D p N X ∧ TabOk wq ∧ J (preX i0 X m) wq)
            (fun v _ => (intOf v).toNat)
          case atStart => exact ⟨_, 64 * k, by rw [← hgm], Nat.le_refl _, by omega, HB.out, hc1, hc2, HP1.out, HT1.out, HJ1.out⟩
          case round =>
            clear hgm
            obtain ⟨u, m, rfl, hm1, hm2, hr, hd1, hd2, hP2, hT2, hJ2⟩ := hrel
            have HR := Lib.hid hr
            have HP2 := Lib.hid hP2
            have HT2 := Lib.hid hT2
            have HJ2 := Lib.hid hJ2
            clear hr hP2 hT2 hJ2
            by_cases h0 : u = 0
            · subst h0
              have HE := Lib.hid (restU_zero HR.out hm2 hm1)
              gi_wp2
              go_roundw
              case rel => exact ⟨k + 1, by go_num, by omega, by omega, hd1, hd2, HP2.out, HT2.out, by rw [HE.out]; exact HJ2.out⟩
              case measure => simp [intOf]; omega
            · obtain ⟨hn1, hn2, hn3, hn4, hn5, hn6⟩ := restU_next HR.out h0 hm1
              obtain ⟨fn, tmps, assign, body, hy, hRd⟩ := HY.out _ (64 * k + Lib.ctz 64 u) _ (by have := preX_length_le i0 X m; omega) HJ2.out
              have e1 : encN (64 * k + Lib.ctz 64 u) = #[.int .i64 ((k : Int) * 64 + (Lib.ctz 64 u : Int))] := by
                unfold encN; congr 3; omega
              rw [e1] at hy
              have hup : (0 : Int) < (u : Int) := by omega
              have hgp := go_pred u HR.out.1 h0
              have HN1 := Lib.hid hn1
              have HN4 := Lib.hid hn4
              have HRd := Lib.hid hRd
              have HU := Lib.hid HR.out.1
              have H0 := Lib.hid h0
              clear hn1 hn4 hRd e1 h0
              gi_wp2_with fail
              refine ⟨trivial, (fun h => by cases h), (callsIn_wide.2 (tz_any u _ HU.out H0.out HT2.out)).mono ?_⟩
              rintro e w' ⟨rfl, rfl⟩
              gi_wp2_with fail
              refine ⟨(fun h => by cases h), HRd.out.mono ?_⟩
              rintro e W3 (⟨rfl, hJ3, hk3⟩ | ⟨rfl, hJx3⟩)
              · have hd3 := hk3.cell' hd1 (by rintro (h | h); exact Hbi.out.1 h; exact Hbi.out.2 h)
                have hd4 := hk3.cell' hd2 (by rintro (h | h); exact Hbs.out.1 h; exact Hbs.out.2 h)
                have HP3 := Lib.hid (HP2.out.keep hk3 (by rintro j hj (h | h); exact (HbD.out j hj).1 h; exact (HbD.out j hj).2 h))
                have HT3 := Lib.hid (HT2.out.keep hk3 (by rintro (h | h); exact HbT.out.1 h; exact HbT.out.2 h))
                have HJ3 := Lib.hid hJ3
                clear hk3 hJ3
                gi_wp2
                go_roundw
                case rel => exact ⟨u &&& (u - 1), 64 * k + Lib.ctz 64 u + 1, by first | rfl | rw [hgp], by omega, by omega, HN4.out, hd3, hd4, HP3.out, HT3.out, by rw [HN1.out]; exact HJ3.out⟩
                case measure => simp [intOf]; omega
              · have HJx3 := Lib.hid hJx3
                clear hJx3
                gi_wp2
                refine bodyPost_ret (results_none rfl _ _ _) rfl ⟨⟨_, rfl⟩, .inr ⟨_, ⟨?_, ?_⟩, HJx3.out⟩⟩
                · rw [← HN1.out]
                  exact preX_prefix _ _ (testBit_lt hX.out hn6)
                · simp
        · have HB := Lib.hid (HB2.out he)
          have hq : ((k : Int) == (c0 : Int) / 64) = false := by rw [beq_eq_false_iff_ne]; omega
          clear he
          gi_wp2
          gi_loopw [5] (fun v wq => ∃ u m : Nat, v = .int .u64 u ∧ 64 * k ≤ m ∧ m ≤ 64 * (k + 1) ∧ restU i0 X k m u ∧ wq.cell? ⟨bi, 0, none⟩ = some (.int .i64 c0) ∧ wq.cell? ⟨bs, 0, none⟩ = some (.pointer p) ∧ SetP wq D p N X ∧ TabOk wq ∧ J (preX i0 X m) wq)
            (fun v _ => (intOf v).toNat)
          case atStart => exact ⟨_, 64 * k, rfl, Nat.le_refl _, by omega, HB.out, hc1, hc2, HP1.out, HT1.out, HJ1.out⟩
          case round =>
            obtain ⟨u, m, rfl, hm1, hm2, hr, hd1, hd2, hP2, hT2, hJ2⟩ := hrel
            have HR := Lib.hid hr
            have HP2 := Lib.hid hP2
            have HT2 := Lib.hid hT2
            have HJ2 := Lib.hid hJ2
            clear hr hP2 hT2 hJ2
            by_cases h0 : u = 0
            · subst h0
              have HE := Lib.hid (restU_zero HR.out hm2 hm1)
              gi_wp2
              go_roundw
              case rel => exact ⟨k + 1, by go_num, by omega, by omega, hd1, hd2, HP2.out, HT2.out, by rw [HE.out]; exact HJ2.out⟩
              case measure => simp [intOf]; omega
            · obtain ⟨hn1, hn2, hn3, hn4, hn5, hn6⟩ := restU_next HR.out h0 hm1
              obtain ⟨fn, tmps, assign, body, hy, hRd⟩ := HY.out _ (64 * k + Lib.ctz 64 u) _ (by have := preX_length_le i0 X m; omega) HJ2.out
              have e1 : encN (64 * k + Lib.ctz 64 u) = #[.int .i64 ((k : Int) * 64 + (Lib.ctz 64 u : Int))] := by
                unfold encN; congr 3; omega
              rw [e1] at hy
              have hup : (0 : Int) < (u : Int) := by omega
              have hgp := go_pred u HR.out.1 h0
              have HN1 := Lib.hid hn1
              have HN4 := Lib.hid hn4
              have HRd := Lib.hid hRd
              have HU := Lib.hid HR.out.1
              have H0 := Lib.hid h0
              clear hn1 hn4 hRd e1 h0
              gi_wp2_with fail
              refine ⟨trivial, (fun h => by cases h), (callsIn_wide.2 (tz_any u _ HU.out H0.out HT2.out)).mono ?_⟩
              rintro e w' ⟨rfl, rfl⟩
              gi_wp2_with fail
              refine ⟨(fun h => by cases h), HRd.out.mono ?_⟩
              rintro e W3 (⟨rfl, hJ3, hk3⟩ | ⟨rfl, hJx3⟩)
              · have hd3 := hk3.cell' hd1 (by rintro (h | h); exact Hbi.out.1 h; exact Hbi.out.2 h)
                have hd4 := hk3.cell' hd2 (by rintro (h | h); exact Hbs.out.1 h; exact Hbs.out.2 h)
                have HP3 := Lib.hid (HP2.out.keep hk3 (by rintro j hj (h | h); exact (HbD.out j hj).1 h; exact (HbD.out j hj).2 h))
                have HT3 := Lib.hid (HT2.out.keep hk3 (by rintro (h | h); exact HbT.out.1 h; exact HbT.out.2 h))
                have HJ3 := Lib.hid hJ3
                clear hk3 hJ3
                gi_wp2
                go_roundw
                case rel => exact ⟨u &&& (u - 1), 64 * k + Lib.ctz 64 u + 1, by first | rfl | rw [hgp], by omega, by omega, HN4.out, hd3, hd4, HP3.out, HT3.out, by rw [HN1.out]; exact HJ3.out⟩
                case measure => simp [intOf]; omega
              · have HJx3 := Lib.hid hJx3
                clear hJx3
                gi_wp2
                refine bodyPost_ret (results_none rfl _ _ _) rfl ⟨⟨_, rfl⟩, .inr ⟨_, ⟨?_, ?_⟩, HJx3.out⟩⟩
                · rw [← HN1.out]
                  exact preX_prefix _ _ (testBit_lt hX.out hn6)
                · simp
      · gi_wp2_with fail
        refine ⟨trivial, (fun h => by cases h), (callsIn_wide.2 (size_any HP1.out)).mono ?_⟩
        rintro e w' ⟨rfl, rfl⟩
        gi_wp2
        go_end0
        refine ⟨⟨_, rfl⟩, .inl ⟨_, rfl, ?_⟩⟩
        rw [← preX_over hX.out (show N ≤ 64 * k by omega)]
        exact HJ1.out
#print axioms from1_iter
end Go.Proofs.YtfpggeiphbekoaaDoor
