/- Contract: the reference's Unrank. -/
import Derived.Test.YtddpdjbgidmdlaaUnrank
namespace Go.Proofs.Ytddpdjbgidmdlaa
open Go.RowKit
set_option linter.unusedVariables false

set_option maxHeartbeats 4000000 in
theorem refUnrank_any (n : Int) (k : Nat) (w : World) (hk : k < 18446744073709551616) :
    Calls Try.prog 21 #[.int .i64 n, .int .u64 (k : Int)] w (UnrR n k w) := by
  by_cases h0 : 0 ≤ n
  · by_cases h20 : n ≤ 20
    · obtain ⟨N, rfl⟩ := Int.eq_ofNat_of_zero_le h0
      have hN20 : N ≤ 20 := by omega
      have hd0 : decide ((N : Int) < 0) = false := decide_eq_false (by omega)
      have hd20 : decide ((20 : Int) < (N : Int)) = false := decide_eq_false (by omega)
      obtain ⟨F, hF⟩ : ∃ F, F = fact N := ⟨_, rfl⟩
      have HFa := Lib.hid hF
      by_cases hkf : k < F
      · have HB : Hid (unrOk (N : Int) k = true) := by
          show unrOk (N : Int) k = true
          unfold unrOk
          rw [decide_eq_true_iff]
          exact ⟨h0, h20, by rw [Int.toNat_natCast, ← hF]; exact hkf⟩
        have HL : Hid (unrL (N : Int) k = unr N (upTo N) k) := by show unrL _ _ = _; unfold unrL; rw [if_pos HB.out]; rfl
        have hdk : decide (F ≤ k) = false := decide_eq_false (by omega)
        have HK := Lib.hid hkf
        obtain ⟨ii, hi, hz, hs, hb⟩ := info_parts info_int
        clear hF h0 h20 hkf
        go_enter Try.func21, Try.ntmps21
        go_wp2_with fail
        refine (refFactor_any (N : Int) _ (by omega)).mono ?_
        rintro e w1 ⟨rfl, rfl⟩
        rw [Int.toNat_natCast, ← HFa.out]
        go_wp2
        go_loopw [6, 8] (fun l i wr => ∃ j : Nat, i = .int .i64 j ∧ j ≤ N ∧ OwnI wr w.heap.size l ((upTo N).take j) ∧ Fx No w wr) (fun _ i _ => N - (intOf i).toNat)
        case atStart => exact ⟨0, rfl, Nat.zero_le _, OwnI.nil _ _, Fx.refl _ _⟩
        case round =>
          obtain ⟨j, rfl, hj, ho, hf⟩ := hrel
          have hlj : ((upTo N).take j).length = j := by rw [List.length_take, upTo_length]; omega
          have HO := Lib.hid ho
          have HF := Lib.hid hf
          have hwz := hf.size
          clear ho hf
          by_cases hlt : j < N
          · have HS := Lib.hid (upTo_take_succ hlt)
            have HLj := Lib.hid hlj
            have HO' : Hid (wr.ownsRow w.heap.size 3 1 u6 j (ints ((upTo N).take j))) := by have := HO.out; unfold OwnI at this; rw [hlj] at this; exact this
            clear hlj
            go_wp2_with (at_builtin; refine wpList_append_kept rfl _ _ 29 rfl w.heap.size 3 Try.underlying29 hi hz hs hb rfl (by decide) rfl (World.ownsRow.alloc HO'.out _) rfl (SlV.lit _ 3 #[.int .i64 _] 1 1 rfl (by unfold maxLen; omega)) (ints_one [_]) (by omega) (by unfold maxLen; omega) (by omega) (by simp; omega) ?_)
            intro v' w2 ho hfx hk2 hb2
            have HO2 : Hid (OwnI w2 w.heap.size v' ((upTo N).take (j + 1))) := by
              show OwnI _ _ _ _
              rw [HS.out]
              unfold OwnI
              rw [List.length_append, HLj.out]
              simpa [ints] using ho
            have HF2 : Hid (Fx No w w2) := (HF.out.alloc _).trans' hfx (fun g e hl => by have := (World.ownsRow.lt HO'.out g e).1; omega)
            clear ho hfx hk2 hb2
            go_wp2
            go_roundw
            case rel => first | exact ⟨j + 1, by go_num, by omega, HO2.out, HF2.out⟩ | ((repeat apply Exists.intro); exact ⟨⟨j + 1, by go_num, by omega, HO2.out, HF2.out⟩, rfl⟩)
            case measure => simp [intOf]; omega
          · obtain rfl : j = N := by omega
            have hall : (upTo j).take j = upTo j := by have := List.take_length (l := upTo j); rw [upTo_length] at this; exact this
            have HO1 : Hid (OwnI wr w.heap.size u6 (upTo j)) := by have := HO.out; rw [hall] at this; exact this
            clear hall hlj
            go_wp2
            go_loopw [1, 6, 7] (fun kv l o ws => ∃ (m κ : Nat) (L O : List Int), kv = .int .u64 (κ : Int) ∧ m ≤ j ∧ κ < fact m ∧ L.length = m ∧ OwnI ws w.heap.size l L ∧ OwnI ws w.heap.size o O ∧ O ++ unr m L κ = unr j (upTo j) k ∧
              (∀ g, l.ownBlock = some g → o.ownBlock ≠ some g) ∧ O.length + m = j ∧ Fx No w ws) (fun _ l _ _ => lenOf l)
            case atStart =>
              exact ⟨j, k, upTo j, [], rfl, Nat.le_refl _, by rw [← HFa.out]; exact HK.out, upTo_length _, HO1.out, OwnI.nil _ _, by simp, by simp [Value.ownBlock], by simp, HF.out⟩
            case round =>
              obtain ⟨m, κ, L, O, rfl, hm, hκ, hLm, hol, hoo, hE, hne, hOm, hf⟩ := hrel
              have HLm := Lib.hid hLm
              have HOo := Lib.hid hoo
              have HOl := Lib.hid hol
              have HNe := Lib.hid hne
              have HE := Lib.hid hE
              have HOm := Lib.hid hOm
              have HFs := Lib.hid hf
              have Hκ := Lib.hid hκ
              have hws := hf.size
              clear hLm hol hoo hE hne hOm hf hκ
              cases m with
              | zero =>
                obtain ⟨lo, lcap, hlv, _⟩ := HOl.out.ints.facts
                rw [HLm.out] at hlv
                subst hlv
                go_wp2
                go_ret2
                have h8 := HE.out
                rw [show unr 0 L κ = [] from rfl, List.append_nil] at h8
                exact ⟨_, by rw [HB.out]; rfl, HFs.out, by rw [HL.out, ← h8]; exact HOo.out.up⟩
              | succ m =>
                obtain ⟨g, cap, hlv, hg1, hg2, hmc1, hmc2⟩ := HOl.out.place (by rw [HLm.out]; exact Nat.succ_pos m)
                rw [HLm.out] at hlv hmc1
                subst hlv
                have hNeg := HNe.out g rfl
                have HNg := Lib.hid hNeg
                obtain ⟨G, hG⟩ : ∃ G, G = fact m := ⟨_, rfl⟩
                have HG := Lib.hid hG
                obtain ⟨at_, hat⟩ : ∃ a, a = κ / G := ⟨_, rfl⟩
                obtain ⟨re, hre⟩ : ∃ a, a = κ % G := ⟨_, rfl⟩
                have hat1 : at_ < m + 1 := by rw [hat, hG]; exact Nat.div_lt_of_lt_mul Hκ.out
                have hre1 : re < G := by rw [hre, hG]; exact Nat.mod_lt _ (fact_pos m)
                have hGp : 0 < G := by rw [hG]; exact fact_pos m
                have hG0 : ((G : Int) == 0) = false := by simp; omega
                have t1 : (κ : Int).tdiv (G : Int) = (at_ : Int) := by rw [hat]; rfl
                have t2 : (κ : Int).tmod (G : Int) = (re : Int) := by rw [hre]; rfl
                have t3 : IntKind.i64.wrap (at_ : Int) = (at_ : Int) := IntWalk.i64_in _ (by omega)
                have t4 : IntKind.u64.wrap (at_ : Int) = (at_ : Int) := u64_in (by omega) (by omega)
                have t5 : IntKind.u64.wrap (re : Int) = (re : Int) := by
                  have : G ≤ 2432902008176640000 := by rw [hG]; exact fact_le (by omega)
                  exact u64_in (by omega) (by omega)
                have hm20 : m ≤ 20 := by omega
                have HAt := Lib.hid hat
                have HRe := Lib.hid hre
                clear hG hat hre hNeg
                go_wp2_with fail
                refine (refFactor_any (m : Int) _ (by omega)).mono ?_
                rintro e w1 ⟨rfl, rfl⟩
                rw [Int.toNat_natCast, ← HG.out]
                have q1 : wr.cell? ⟨g, at_, none⟩ = some (.int .i64 (gi L at_)) := by
                  have := ((HOl.out.ints.part).2.2.2 (Nat.succ_pos m)).2 at_ hat1
                  rwa [Nat.zero_add] at this
                have hOl : O.length ≤ 20 := by have := HOm.out; omega
                go_wp2_with (at_builtin; refine wpList_append_sl rfl _ _ 29 rfl w.heap.size 3 Try.underlying29 hi hz hs hb rfl (by decide) rfl (World.ownsRow.alloc HOo.out _) rfl (SlV.lit _ 3 #[.int .i64 _] 1 1 rfl (by unfold maxLen; omega)) (ints_one [_]) (by unfold maxLen; omega) (by omega) (by simp; omega) ?_)
                intro v' w2 ho hfx _
                have hz2 := hfx.size
                simp only [World.size_alloc] at hz2
                have HO2 : Hid (OwnI w2 w.heap.size v' (O ++ [gi L at_])) := by
                  show OwnI _ _ _ _
                  unfold OwnI
                  rw [List.length_append]
                  simpa [ints] using ho
                have HF2 : Hid (Fx No w w2) := (HFs.out.alloc _).trans' hfx (fun g e hl => by have := (World.ownsRow.lt HOo.out g e).1; omega)
                have HL2 : Hid (IntsV w2 (fun _ => True) (.slice (some ⟨g, 0, none⟩) (m + 1) cap) L) := by
                  have := ((OwnI.fx HOl.out ((Fx.refl No _).alloc (.cells #[.int .i64 (gi L at_)] 3)) (fun _ _ h => h)).fx hfx (fun k h1 h2 => by simp only [Value.ownBlock, Option.some.injEq] at h1; subst h1; exact HNg.out h2)).ints
                  exact this.mono fun _ _ => trivial
                clear ho hfx q1
                have hat0 : at_ ≤ cap := by omega
                have hat2 : at_ + 1 ≤ cap := by omega
                have hat3 : (at_ : Int) + 1 ≤ (m : Int) + 1 := by omega
                obtain ⟨A, hA, hr⟩ := HL2.out.from (k := at_ + 1) (by omega)
                rw [Nat.zero_add] at hA
                have HR2 := Lib.hid hr
                have HT2 := Lib.hid (HL2.out.upTo (k := at_) (by omega))
                have hlt : (L.take at_).length = at_ := by rw [List.length_take, HLm.out]; omega
                have hld : (L.drop (at_ + 1)).length = m - at_ := by rw [List.length_drop, HLm.out]; omega
                have HLt := Lib.hid hlt
                have HLd := Lib.hid hld
                have HT3 : Hid (SlV w2 (fun _ => True) (.slice (some ⟨g, 0, none⟩) at_ cap) 1 at_ (ints (L.take at_))) := by
                  have := HT2.out
                  unfold IntsV at this
                  rw [hlt] at this
                  exact this
                have hms : m + 1 - (at_ + 1) = m - at_ := by omega
                have HR3 : Hid (SlV w2 (fun _ => True) (.slice (some A) (m - at_) (cap - (at_ + 1))) 1 (m - at_) (ints (L.drop (at_ + 1)))) := by
                  have := HR2.out
                  unfold IntsV at this
                  rw [hld, hms] at this
                  exact this
                clear hr hlt hld hms HR2 HT2
                go_wp2_with (at_builtin; refine wpList_append_sl rfl _ _ 29 rfl w2.heap.size 3 Try.underlying29 hi hz hs hb rfl (by decide) rfl (World.ownsRow_nil _ _ _ _) rfl HT3.out (ints_one _) (by unfold maxLen; omega) (by omega) (Nat.le_refl _) ?_)
                intro r1 w3 ho3 hfx3 _
                have HF3 := Lib.hid (HF2.out.trans' hfx3 (fun g e hl => by simp [Value.ownBlock] at e))
                have HO3 := Lib.hid ho3
                have hz3 := hfx3.size
                have HR4 := Lib.hid (HR3.out.keep (S := No) (hfx3.mono fun k _ e => by simp [Value.ownBlock] at e) (fun _ _ h => h))
                have HO4 : Hid (OwnI w3 w.heap.size v' (O ++ [gi L at_])) := ownsRow_fx HO2.out hfx3 (fun k _ h2 => by simp [Value.ownBlock] at h2)
                clear ho3 hfx3
                go_wp2_with (at_builtin; refine wpList_append_sl rfl _ _ 29 rfl w2.heap.size 3 Try.underlying29 hi hz hs hb rfl (by decide) rfl HO3.out rfl HR4.out (ints_one _) (by unfold maxLen; omega) (by omega) (by omega) ?_)
                intro r2 w4 ho4 hfx4 _
                have HF4 := Lib.hid (HF3.out.trans' hfx4 (fun g e hl => by have := (World.ownsRow.lt HO3.out g e).1; omega))
                have HO5 : Hid (OwnI w4 w2.heap.size r2 (L.eraseIdx at_)) := by
                  show OwnI _ _ _ _
                  unfold OwnI
                  have hL := HLm.out
                  have e1 : (L.eraseIdx at_).length = at_ + (m - at_) := by rw [List.length_eraseIdx_of_lt (by omega)]; omega
                  have e2 : ints (L.eraseIdx at_) = ints (L.take at_) ++ ints (L.drop (at_ + 1)) := by rw [List.eraseIdx_eq_take_drop_succ]; simp [ints]
                  rw [e1, e2]
                  exact ho4
                have HO6 : Hid (OwnI w4 w.heap.size v' (O ++ [gi L at_])) := ownsRow_fx HO4.out hfx4 (fun k h1 h2 => by
                  have h3 := (World.ownsRow.lt HO3.out k h2).1
                  have h4 := (OwnI.lt HO2.out h1).2
                  omega)
                have HN6 : Hid (∀ g, r2.ownBlock = some g → v'.ownBlock ≠ some g) := fun g' h1 h2 => by
                  have h3 := (OwnI.lt HO5.out h1).1
                  have h4 := (OwnI.lt HO2.out h2).2
                  omega
                have hwz2 : w.heap.size ≤ w2.heap.size := by omega
                clear ho4 hfx4
                have HE3 : Hid ((O ++ [gi L at_]) ++ unr m (L.eraseIdx at_) re = unr j (upTo j) k) := by
                  show _ = _
                  rw [← HE.out, unr_step, ← HG.out, ← HAt.out, ← HRe.out]
                  simp
                have HL9 : Hid ((L.eraseIdx at_).length = m) := by
                  show _ = _
                  rw [List.length_eraseIdx_of_lt (by rw [HLm.out]; exact hat1), HLm.out]; rfl
                have HM9 : Hid (lenOf r2 = m) := by show lenOf r2 = m; rw [HO5.out.lenOf]; exact HL9.out
                go_wp2
                go_roundw
                case rel => first
                  | exact ⟨m, re, L.eraseIdx at_, O ++ [gi L at_], rfl, by omega, by rw [← HG.out]; exact hre1, HL9.out, ownsRow_base HO5.out hwz2, HO6.out, HE3.out, HN6.out, by have := HOm.out; simp; omega, HF4.out⟩
                  | ((repeat apply Exists.intro); exact ⟨⟨m, re, L.eraseIdx at_, O ++ [gi L at_], rfl, by omega, by rw [← HG.out]; exact hre1, HL9.out, ownsRow_base HO5.out hwz2, HO6.out, HE3.out, HN6.out, by have := HOm.out; simp; omega, HF4.out⟩, rfl⟩)
                case measure => rw [HM9.out]; exact Nat.lt_succ_self m
      · have HB : Hid (unrOk (N : Int) k = false) := by
          show unrOk (N : Int) k = false
          unfold unrOk
          rw [decide_eq_false_iff_not, Int.toNat_natCast, ← hF]
          exact fun h => hkf h.2.2
        have HL : Hid (unrL (N : Int) k = []) := by show unrL _ _ = _; unfold unrL; rw [HB.out]; rfl
        have hdk : decide (F ≤ k) = true := decide_eq_true (by omega)
        clear hF h0 h20 hkf
        go_enter Try.func21, Try.ntmps21
        go_wp2_with fail
        refine (refFactor_any (N : Int) _ (by omega)).mono ?_
        rintro e w1 ⟨rfl, rfl⟩
        rw [Int.toNat_natCast, ← HFa.out]
        go_wp2
        go_ret2
        exact ⟨_, by rw [HB.out]; rfl, Fx.refl _ _, by rw [HL.out]; exact SlV.nil _ _ _⟩
    · have HB : Hid (unrOk n k = false) := by
        show unrOk n k = false
        unfold unrOk
        rw [decide_eq_false_iff_not]
        exact fun h => h20 h.2.1
      have HL : Hid (unrL n k = []) := by show unrL _ _ = _; unfold unrL; rw [HB.out]; rfl
      have hd0 : decide (n < 0) = false := decide_eq_false (by omega)
      have hd20 : decide ((20 : Int) < n) = true := decide_eq_true (by omega)
      clear h0 h20
      go_enter Try.func21, Try.ntmps21
      go_wp2
      go_ret2
      exact ⟨_, by rw [HB.out]; rfl, Fx.refl _ _, by rw [HL.out]; exact SlV.nil _ _ _⟩
  · have HB : Hid (unrOk n k = false) := by
      show unrOk n k = false
      unfold unrOk
      rw [decide_eq_false_iff_not]
      exact fun h => h0 h.1
    have HL : Hid (unrL n k = []) := by show unrL _ _ = _; unfold unrL; rw [HB.out]; rfl
    have hd0 : decide (n < 0) = true := decide_eq_true (by omega)
    clear h0
    go_enter Try.func21, Try.ntmps21
    go_wp2
    go_ret2
    exact ⟨_, by rw [HB.out]; rfl, Fx.refl _ _, by rw [HL.out]; exact SlV.nil _ _ _⟩
#print axioms refUnrank_any
end Go.Proofs.Ytddpdjbgidmdlaa
