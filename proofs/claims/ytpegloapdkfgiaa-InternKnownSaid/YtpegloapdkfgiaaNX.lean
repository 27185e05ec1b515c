/- The law InternKnown: its walk. -/
import Derived.Test.YtpegloapdkfgiaaNW
namespace Go.Proofs.Ytpegloapdkfgiaa
open Go.RowKit
set_option linter.unusedVariables false

set_option maxRecDepth 100000 in
set_option maxHeartbeats 8000000 in
theorem known_any (w : World) : Calls Try.prog 7 #[] w fun e w' => e = .returned (.bool true) ∧ Fx No w w' := by
  obtain ⟨ii, hi, hz, hs, hb⟩ := info_parts info_u64
  obtain ⟨ij, hi2, hz2, hs2, hb2⟩ := info_parts info_pair
  obtain ⟨ik, hi3, hz3, hs3, hb3⟩ := info_parts (show (Try.prog.info? 27).map (fun i => (i.zero, i.size, i.bytes)) = some (some (.slice none 0 0), 1, 24) from by kernel_rfl)
  go_enter Try.func7, Try.ntmps7
  go_wp2
  go_loopw [1, 2, 3, 4, 5, 6, 7] (fun kk ii _ _ _ _ _ ws => ∃ κ i : Nat, kk = .int .i64 κ ∧ κ < 100003 ∧ ii = .int .i64 i ∧ i ≤ 60 ∧ Fx No w ws) (fun _ ii _ _ _ _ _ _ => 60 - (intOf ii).toNat)
  case atStart => exact ⟨1, 0, rfl, by omega, rfl, by omega, Fx.refl _ _⟩
  case round =>
    obtain ⟨κ, i, rfl, hκ, rfl, hi60, hf⟩ := hrel
    have HF := Lib.hid hf
    obtain ⟨wa, hwa⟩ : ∃ x, x = wr := ⟨_, rfl⟩
    subst hwa
    clear hf
    by_cases hil : i < 60
    · have di : decide ((i : Int) < 60) = true := decide_eq_true (by omega)
      have HI := Lib.hid hil
      clear hil
      obtain ⟨q6, hq6⟩ : ∃ q, q = i % 6 := ⟨_, rfl⟩
      have a1 : (i : Int).tmod 6 = (q6 : Int) := by rw [hq6]; rfl
      have a2 : (i : Int) % 6 = (q6 : Int) := by omega
      have hq65 : q6 ≤ 5 := by omega
      clear hq6
      go_wp2
      go_loopw [1, 3, 4, 5, 6, 7] (fun kk lv pv nn _ _ ws => ∃ (κ n : Nat) (vs : Nat → Value) (rs : Nat → List Int) (ps : List (Int × Int)) (E : Nat → Prop), kk = .int .i64 κ ∧ κ < 100003 ∧ nn = .int .i64 n ∧ n ≤ q6 ∧ KnI wa ws n lv pv (.slice none 0 0) vs rs ps [] E ∧ ps.length ≤ 8 * n) (fun _ _ _ nn _ _ _ => q6 - (intOf nn).toNat)
      case atStart => exact ⟨κ, 0, _, _, [], _, rfl, hκ, rfl, by omega, KnI.start wa, by simp⟩
      case round =>
        clear hκ
        obtain ⟨κ, n, vs, rs, ps, E, rfl, hκ, rfl, hn, hK, hpl⟩ := hrel
        have HK := Lib.hid hK
        obtain ⟨wb, hwb⟩ : ∃ x, x = wr := ⟨_, rfl⟩
        subst hwb
        clear hK
        by_cases hnl : n < q6
        · have dn : decide ((n : Int) < (q6 : Int)) = true := decide_eq_true (by omega)
          have dn2 : decide (n < q6) = true := decide_eq_true hnl
          go_wp2
          go_loopw [1, 4, 6, 7] (fun kk pv rv mm ws => ∃ (κ m : Nat) (ps : List (Int × Int)) (xs : List Int), kk = .int .i64 κ ∧ κ < 100003 ∧ mm = .int .i64 m ∧ m ≤ 8 ∧ xs.length = m ∧ ps.length ≤ 8 * n + m ∧ KnI wa ws n u3 pv rv vs rs ps xs E) (fun _ _ _ mm _ => 8 - (intOf mm).toNat)
          case atStart => exact ⟨κ, 0, ps, [], rfl, hκ, rfl, by omega, rfl, by omega, HK.out⟩
          case round =>
            clear hκ hpl HK
            obtain ⟨κ, m, ps, xs, rfl, hκ, rfl, hm, hxl, hpl, hK⟩ := hrel
            have HK := Lib.hid hK
            obtain ⟨wm, hwm⟩ : ∃ x, x = wr := ⟨_, rfl⟩
            subst hwm
            have hzw := hK.fx.size
            have HXl := Lib.hid hxl
            have hxl8 : xs.length ≤ 8 := by omega
            clear hK hxl
            obtain ⟨q9, hq9⟩ : ∃ q, q = κ % 9 := ⟨_, rfl⟩
            have b1 : (κ : Int).tmod 9 = (q9 : Int) := by rw [hq9]; rfl
            have b2 : (κ : Int) % 9 = (q9 : Int) := by omega
            have hq98 : q9 ≤ 8 := by omega
            clear hq9
            by_cases hml : m < q9
            · have dm : decide ((m : Int) < (q9 : Int)) = true := decide_eq_true (by omega)
              have dm2 : decide (m < q9) = true := decide_eq_true hml
              obtain ⟨q13, hq13⟩ : ∃ q, q = κ % 13 := ⟨_, rfl⟩
              have c1 : (κ : Int).tmod 13 = (q13 : Int) := by rw [hq13]; rfl
              have c2 : (κ : Int) % 13 = (q13 : Int) := by omega
              obtain ⟨q3, hq3⟩ : ∃ q, q = κ % 3 := ⟨_, rfl⟩
              have e1 : (κ : Int).tmod 3 = (q3 : Int) := by rw [hq3]; rfl
              have e2 : (κ : Int) % 3 = (q3 : Int) := by omega
              have e3 : IntKind.i64.wrap ((q3 : Int) * 30) = (q3 : Int) * 30 := IntWalk.i64_in _ (by omega)
              have e4 : (0 : Int) ≤ (q3 : Int) * 30 := by omega
              have e5 : (q3 : Int) * 30 ≤ 64 := by omega
              obtain ⟨q4, hq4⟩ : ∃ q, q = κ % 4 := ⟨_, rfl⟩
              have f1 : (κ : Int).tmod 4 = (q4 : Int) := by rw [hq4]; rfl
              have f2 : (κ : Int) % 4 = (q4 : Int) := by omega
              obtain ⟨q7, hq7⟩ : ∃ q, q = κ % 7 := ⟨_, rfl⟩
              have g1 : (κ : Int).tmod 7 = (q7 : Int) := by rw [hq7]; rfl
              have g2 : (κ : Int) % 7 = (q7 : Int) := by omega
              obtain ⟨κ', hκ'⟩ : ∃ q, q = (κ * 31 + 7 * m + 11) % 100003 := ⟨_, rfl⟩
              have h1 : ((κ : Int) * 31 + 7 * (m : Int) + 11).tmod 100003 = (κ' : Int) := by rw [hκ']; rfl
              have h2 : ((κ : Int) * 31 + 7 * (m : Int) + 11) % 100003 = (κ' : Int) := by omega
              have hκl : κ' < 100003 := by omega
              have hb13 : q13 ≤ 13 := by omega
              have hb3 : q3 ≤ 2 := by omega
              have hb4 : q4 ≤ 4 := by omega
              have hb7 : q7 ≤ 7 := by omega
              have t3 : xs.length + 1 ≤ maxLen := by unfold maxLen; omega
              have t4 : (xs.length + 1) * 8 ≤ 140737488355328 := by omega
              have T1 : Hid (wa.heap.size ≤ wm.heap.size + 1) := Lib.hid (by omega)
              clear hq13 hq3 hq4 hq7 hκ'
              go_wp2_with (at_builtin; refine wpList_append_kept rfl _ _ 27 rfl wa.heap.size 23 Try.underlying27 hi hz hs hb rfl (by decide) rfl (World.ownsRow.alloc HK.out.r _) rfl (SlV.lit _ _ _ 1 1 rfl (by unfold maxLen; omega)) (by intro u hu; simp at hu; rw [hu]; rfl) (by omega) t3 t4 (by have := T1.out; simp; omega) ?_)
              intro rv' w6 ho hf _ hbk
              obtain ⟨x, hx, ho'⟩ : ∃ x, OkU x ∧ w6.ownsRow wa.heap.size 23 1 rv' (xs.length + 1) (ncells kU xs ++ [.int .u64 x]) := by
                refine ⟨_, ?_, ho⟩
                first | exact okU_wrap _ | (unfold OkU; omega)
              have HK2 := Lib.hid (HK.out.pushR ((Fx.refl No wm).alloc _) hf hx ho' (fun g e => (hbk g e).imp_right fun h => by first | exact h | simpa using h))
              have hz6 := HK2.out.fx.size
              clear ho hf hbk ho'
              have t5 : ps.length + 1 ≤ maxLen := by unfold maxLen; omega
              have t6 : (ps.length + 1) * 16 ≤ 140737488355328 := by omega
              have T2 : Hid (wa.heap.size ≤ w6.heap.size + 1) := Lib.hid (by omega)
              go_wp2_with (at_builtin; refine wpList_append_kept rfl _ _ 59 rfl wa.heap.size 60 Try.underlying59 hi2 hz2 hs2 hb2 rfl (by decide) rfl (World.ownsRow.alloc HK2.out.p _) rfl (SlV.lit _ _ _ 2 1 rfl (by unfold maxLen; omega)) (by intro u hu; simp at hu; rcases hu with rfl | rfl <;> rfl) (by omega) t5 t6 (by have := T2.out; simp; omega) ?_)
              intro pv' w7 ho hf _ hbk
              obtain ⟨y, hy, ho'⟩ : ∃ y : Int × Int, kP.ok y ∧ w7.ownsRow wa.heap.size 60 2 pv' (ps.length + 1) (ncells kP ps ++ [.int .u64 y.1, .int .u64 y.2]) := by
                refine ⟨(_, _), ⟨?_, ?_⟩, ho⟩
                · first | exact okU_wrap _ | exact (⟨by omega, by omega⟩ : OkU (q4 : Int))
                · first | exact okU_wrap _ | exact (⟨by omega, by omega⟩ : OkU (q7 : Int))
              have HK3 := Lib.hid (HK2.out.pushP ((Fx.refl No w6).alloc _) hf hy ho' (fun g e => (hbk g e).imp_right fun h => by first | exact h | simpa using h))
              clear ho hf hbk ho'
              go_wp2
              go_roundw
              case rel => exact ⟨κ', m + 1, ps ++ [y], xs ++ [x], by first | rfl | go_num, hκl, by go_num, by omega, by have := HXl.out; simp; omega, by simp; omega, HK3.out⟩
              case measure => simp [intOf]; omega
            · have dm : decide ((m : Int) < (q9 : Int)) = false := decide_eq_false (by omega)
              have dm2 : decide (m < q9) = false := decide_eq_false hml
              have t3 : n + 1 ≤ maxLen := by unfold maxLen; omega
              have t4 : (n + 1) * 24 ≤ 140737488355328 := by omega
              have T1 : Hid (wa.heap.size ≤ wm.heap.size + 1) := Lib.hid (by omega)
              obtain ⟨ro, rc, rfl, _⟩ := SlV.ofOwns HK.out.r
              go_wp2_with (at_builtin; refine wpList_append_kept rfl _ _ 22 rfl wa.heap.size 27 Try.underlying22 hi3 hz3 hs3 hb3 rfl (by decide) rfl (World.ownsRow.alloc HK.out.l _) rfl (SlV.lit _ _ _ 1 1 rfl (by unfold maxLen; omega)) (by intro u hu; simp at hu; rw [hu]; rfl) (by omega) t3 t4 (by have := T1.out; simp; omega) ?_)
              intro lv' w6 ho hf _ hbk
              have HK2 := Lib.hid (HK.out.pushL ((Fx.refl No wm).alloc _) hf ho (fun g e => (hbk g e).imp_right fun h => by first | exact h | simpa using h))
              clear ho hf hbk
              go_wp2
              go_roundw
              case rel => exact ⟨κ, n + 1, _, _, ps, _, by first | rfl | go_num, hκ, by go_num, by omega, HK2.out, by omega⟩
              case measure => simp [intOf]; omega
        · obtain rfl : n = q6 := by omega
          have dn : decide ((n : Int) < (n : Int)) = false := decide_eq_false (by omega)
          have dn2 : decide (n < n) = false := decide_eq_false (by omega)
          obtain ⟨po, pc, hpv, _⟩ := SlV.ofOwns HK.out.p
          subst hpv
          obtain ⟨_, hpc, hpc2⟩ := HK.out.part rfl (Nat.le_refl _)
          obtain ⟨lo, lc, hlv, _⟩ := SlV.ofOwns HK.out.l
          subst hlv
          obtain ⟨r, hr⟩ : ∃ r, r = min ps.length 30 := ⟨_, rfl⟩
          have hrl : r ≤ ps.length := by omega
          have hr30 : r ≤ 30 := by omega
          have hPr := (HK.out.part rfl hrl).1
          have HPr := Lib.hid hPr
          obtain ⟨r2, hr2⟩ : ∃ r2, r2 = r / 2 := ⟨_, rfl⟩
          have hr2l : r2 ≤ ps.length := by omega
          have HPr2 := Lib.hid (HK.out.part rfl hr2l).1
          have HRo := Lib.hid HK.out.rows
          have HPok := Lib.hid HK.out.pok
          have HWb := Lib.hid (HF.out.trans HK.out.fx)
          have p1 : min (ps.length : Int) 30 = (r : Int) := by omega
          have p2 : (r : Int).tdiv 2 = (r2 : Int) := by rw [hr2]; rfl
          have p3 : (r : Int) / 2 = (r2 : Int) := by omega
          have p4 : r ≤ pc := by omega
          have p5 : (r : Int) ≤ (pc : Int) := by omega
          have p6 : r2 ≤ pc := by omega
          have p7 : (r2 : Int) ≤ (pc : Int) := by omega
          have p8 : (0 : Int) ≤ (r : Int) := by omega
          have p9 : (0 : Int) ≤ (r2 : Int) := by omega
          obtain ⟨q20, hq20⟩ : ∃ q, q = i % 20 := ⟨_, rfl⟩
          have c1 : (i : Int).tmod 20 = (q20 : Int) := by rw [hq20]; rfl
          have c2 : (i : Int) % 20 = (q20 : Int) := by omega
          obtain ⟨q4, hq4⟩ : ∃ q, q = i % 4 := ⟨_, rfl⟩
          have e1 : (i : Int).tmod 4 = (q4 : Int) := by rw [hq4]; rfl
          have e2 : (i : Int) % 4 = (q4 : Int) := by omega
          have hi59 := HI.out
          have hq4b : q4 ≤ 4 := by omega
          clear hq20 hq4 hr hr2 hPr
          go_wp2_with fail
          refine Calls.mono (plays_any HRo.out _ (by first | exact okU_wrap _ | exact (⟨by omega, by omega⟩ : OkU (i : Int))) _) ?_
          rintro e w1 ⟨rfl, hf⟩
          have HF1 : Hid (Fx No wb w1) := Lib.hid hf
          clear hf
          go_wp2_with fail
          refine Calls.mono (back_ok (HRo.out.keep HF1.out No.disj |> fun q => q.wide HF1.out) _ (by first | exact okU_wrap _ | (unfold OkU; omega)) _ (by first | exact okU_wrap _ | (unfold OkU; omega))) ?_
          rintro e w2 ⟨rfl, hf⟩
          have HF2 : Hid (Fx No wb w2) := Lib.hid (HF1.out.trans hf)
          clear hf
          have HT1 : Hid (∀ x ∈ ps.take r, kP.ok x) := Lib.hid fun x hx => HPok.out x (List.mem_of_mem_take hx)
          have HT2 : Hid (∀ x ∈ ps.take r2, kP.ok x) := Lib.hid fun x hx => HPok.out x (List.mem_of_mem_take hx)
          have HLt : Hid (∀ j, j < wb.heap.size → j < w2.heap.size) := Lib.hid fun j e => Nat.lt_of_lt_of_le e HF2.out.size
          go_wp2_with fail
          refine Calls.mono (pairsLaw_any (NamV.no HPr.out HF2.out) HT1.out HLt.out (NamV.no HPr2.out HF2.out) HT2.out HLt.out (_, _) (And.intro (by first | exact okU_wrap _ | exact (⟨by omega, by omega⟩ : OkU (q4 : Int))) (⟨by omega, by omega⟩ : OkU (2 : Int))) _) ?_
          rintro e w3 ⟨rfl, hf⟩
          have HF3 : Hid (Fx No wb w3) := Lib.hid (HF2.out.trans hf)
          clear hf
          go_wp2_with fail
          refine Calls.mono (none_any _ _ _ _ _) ?_
          rintro e w4 ⟨rfl, hf⟩
          have HF4 : Hid (Fx No w w4) := Lib.hid (HWb.out.trans (HF3.out.trans hf))
          clear hf
          go_wp2
          go_roundw
          case rel => exact ⟨κ, i + 1, by first | rfl | go_num, hκ, by go_num, by omega, HF4.out⟩
          case measure => simp [intOf]; omega
    · have di : decide ((i : Int) < 60) = false := decide_eq_false (by omega)
      have HR : Hid (RowsU (((wa.alloc (.cells #[.int .u64 0] 23)).alloc (.cells #[.int .u64 0, .int .u64 18446744073709551615] 23)).alloc (.cells #[.slice none 0 0, .slice (some ⟨wa.heap.size, 0, none⟩) 1 1, .slice (some ⟨wa.heap.size + 1, 0, none⟩) 2 2] 27)) (fun j => j < wa.heap.size + 3) (.slice (some ⟨wa.heap.size + 1 + 1, 0, none⟩) 3 3) [[], [0], [0, 18446744073709551615]]) := Lib.hid (by
        refine ⟨some ⟨wa.heap.size + 1 + 1, 0, none⟩, 3, rfl, by omega, Nat.le_refl _, fun k l hk => ?_⟩
        have n1 := NumV.lit (w := wa) (t := 23) [0] (by simp)
        have n2 := NumV.lit (w := wa.alloc (.cells #[.int .u64 0] 23)) (t := 23) [0, 18446744073709551615] (by simp)
        match k, hk with
        | 0, hk =>
          obtain rfl : [] = l := by simpa using hk
          exact ⟨_, 0, _, rfl, by omega, by go_simp, SlV.nil _ _ _, by simp⟩
        | 1, hk =>
          obtain rfl : [0] = l := by simpa using hk
          refine ⟨_, 0, .slice (some ⟨wa.heap.size, 0, none⟩) 1 1, rfl, by omega, by go_simp, ?_, by intro x hx; simp at hx; subst hx; unfold OkU; omega⟩
          exact ((NamV.no n1 (((Fx.refl No _).alloc _).alloc _)).mono fun j e => by have h : j = wa.heap.size := e; omega)
        | 2, hk =>
          obtain rfl : [0, 18446744073709551615] = l := by simpa using hk
          refine ⟨_, 0, .slice (some ⟨wa.heap.size + 1, 0, none⟩) 2 2, rfl, by omega, by go_simp, ?_, by intro x hx; simp at hx; rcases hx with rfl | rfl <;> (unfold OkU; omega)⟩
          have n3 := (NamV.no n2 ((Fx.refl No _).alloc (.cells #[.slice none 0 0, .slice (some ⟨wa.heap.size, 0, none⟩) 1 1, .slice (some ⟨wa.heap.size + 1, 0, none⟩) 2 2] 27))).mono (T := fun j => j < wa.heap.size + 3) fun j e => by have h : j = (wa.alloc (.cells #[.int .u64 0] 23)).heap.size := e; simp at h; omega
          rw [show (wa.alloc (.cells #[.int .u64 0] 23)).heap.size = wa.heap.size + 1 from by simp] at n3
          exact n3
        | k + 3, hk => simp at hk)
      have HRw := Lib.hid (by have := HR.out; exact (show RowsU _ (fun j => j < (((wa.alloc (.cells #[.int .u64 0] 23)).alloc (.cells #[.int .u64 0, .int .u64 18446744073709551615] 23)).alloc (.cells #[.slice none 0 0, .slice (some ⟨wa.heap.size, 0, none⟩) 1 1, .slice (some ⟨wa.heap.size + 1, 0, none⟩) 2 2] 27)).heap.size) _ _ from by simpa using this))
      go_wp2_with fail
      refine Calls.mono (plays_any HRw.out _ (by unfold OkU; omega) _) ?_
      rintro e w1 ⟨rfl, hf⟩
      have HF1 := Lib.hid (HF.out.trans (((((Fx.refl No wa).alloc _).alloc _).alloc _).trans hf))
      clear hf
      go_wp2_with fail
      refine (works_any _).mono ?_
      rintro e w2 ⟨rfl, hf⟩
      have HF2 := Lib.hid (HF1.out.trans hf)
      clear hf
      go_wp2
      go_ret
      exact ⟨rfl, HF2.out⟩
#print axioms known_any
end Go.Proofs.Ytpegloapdkfgiaa
