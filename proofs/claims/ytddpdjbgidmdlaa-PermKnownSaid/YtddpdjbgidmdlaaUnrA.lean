/- Contracts: the reference's Rank; slices.Clone of ints; falling. -/
import Derived.Test.YtddpdjbgidmdlaaRankB
import Derived.Test.YtddpdjbgidmdlaaUnrMath
import Derived.Test.YtddpdjbgidmdlaaRev
namespace Go.Proofs.Ytddpdjbgidmdlaa
open Go.RowKit
set_option linter.unusedVariables false

/-- of those behind a place, up to another one -/
def lessJ (p : List Int) (k j : Nat) : Nat := lessM p k (j - (k + 1))
theorem lessJ_start (p : List Int) (k : Nat) : lessJ p k (k + 1) = 0 := by unfold lessJ; rw [Nat.sub_self]; exact lessM_zero _ _
theorem lessJ_succ {p : List Int} {k j : Nat} (h : k + 1 ≤ j) (hj : j < p.length) : lessJ p k (j + 1) = lessJ p k j + if gi p j < gi p k then 1 else 0 := by
  unfold lessJ
  have e : j + 1 - (k + 1) = (j - (k + 1)) + 1 := by omega
  have e2 : k + 1 + (j - (k + 1)) = j := by omega
  rw [e, lessM_succ (by omega), e2]
theorem lessJ_end {p : List Int} {k : Nat} : lessJ p k p.length = lessN p k := by unfold lessJ; exact lessM_all (by omega)
theorem lessJ_le (p : List Int) (k j : Nat) : lessJ p k j ≤ lessN p k := by
  unfold lessJ lessM lessN
  exact List.Sublist.countP_le (List.take_sublist _ _)
set_option maxHeartbeats 1000000 in
theorem refRank_any {w : World} {D : Nat → Prop} {v : Value} {p : List Int} (h : IntsV w D v p) :
    Calls Try.prog 19 #[v] w (RankR p w) := by
  obtain ⟨ao, cap, rfl, hl, hc⟩ := h.facts
  have H := Lib.hid h
  have HC := Lib.hid hc
  obtain ⟨len, hlen⟩ : ∃ k, k = p.length := ⟨_, rfl⟩
  rw [← hlen] at hl ⊢
  have HLen := Lib.hid hlen
  have H : Hid (IntsV w D (.slice ao len cap) p) := by rw [hlen]; exact H
  have HRS : Hid (rightB p (len : Int) = okB p) := by rw [hlen]; exact Lib.hid (rightB_self p)
  clear hc h hlen
  by_cases h20 : len ≤ 20
  · have hd20 : decide ((20 : Int) < (len : Int)) = false := decide_eq_false (by omega)
    rcases hok : okB p with _ | _
    · have HB : Hid (rankOk p = false) := by show rankOk p = false; unfold rankOk; rw [hok]; simp
      have HN : Hid (rankN p = 0) := by show rankN p = 0; unfold rankN; rw [HB.out]; rfl
      have HOk := Lib.hid hok
      clear hok
      go_enter Try.func19, Try.ntmps19
      go_wp2_with fail
      refine (refRight_any H.out _).mono ?_
      rintro e w1 ⟨rfl, rfl⟩
      rw [HRS.out, HOk.out]
      go_wp2
      go_ret2
      exact ⟨by rw [HB.out, HN.out]; rfl, Fx.refl _ _⟩
    · have HB : Hid (rankOk p = true) := by show rankOk p = true; unfold rankOk; rw [hok, ← HLen.out]; simpa using h20
      have HN : Hid (rankN p = rk p) := by show rankN p = rk p; unfold rankN; rw [HB.out]; rfl
      have HOk := Lib.hid hok
      have HBd : Hid (rk p < 2432902008176640000) := rk_bound (by rw [← HLen.out]; exact h20)
      clear hok
      go_enter Try.func19, Try.ntmps19
      go_wp2_with fail
      refine (refRight_any H.out _).mono ?_
      rintro e w1 ⟨rfl, rfl⟩
      rw [HRS.out, HOk.out]
      go_wp2
      go_loopw [4, 5] (fun s i wr => ∃ k S : Nat, i = .int .i64 k ∧ k ≤ len ∧ s = .int .u64 (S : Int) ∧ S + rk (p.drop k) = rk p ∧ Fx No w wr) (fun _ i _ => len - (intOf i).toNat)
      case atStart => exact ⟨0, 0, rfl, Nat.zero_le _, rfl, by simp, Fx.refl _ _⟩
      case round =>
        obtain ⟨k, S, rfl, hk, rfl, hS, hf⟩ := hrel
        have HS := Lib.hid hS
        have HF := Lib.hid hf
        clear hS hf
        by_cases hlt : k < len
        · have hkp : Hid (k < p.length) := by rw [← HLen.out]; exact hlt
          obtain ⟨b, o, rfl, _, hcell⟩ := HC.out k hkp.out
          have HCk := Lib.hid hcell
          obtain ⟨d, hd⟩ : ∃ d, len = k + 1 + d := ⟨len - 1 - k, by omega⟩
          have hcast : ((len : Int) - 1 - (k : Int)) = (d : Int) := by omega
          have hd20 : d ≤ 20 := by omega
          obtain ⟨F, hF⟩ : ∃ F, F = fact d := ⟨_, rfl⟩
          have HFa := Lib.hid hF
          have HRk : Hid (rk (p.drop k) = lessN p k * F + rk (p.drop (k + 1))) := by
            have := rk_drop hkp.out
            rw [show p.length - 1 - k = d by rw [← HLen.out]; omega] at this
            rw [hF]; exact Lib.hid this
          have hk1 : k + 1 ≤ len := by omega
          clear hd hcell hF
          go_wp2
          go_loopw [4, 6] (fun s j ws => ∃ n S' : Nat, j = .int .i64 n ∧ k + 1 ≤ n ∧ n ≤ len ∧ s = .int .u64 (S' : Int) ∧ S' = S + lessJ p k n * F ∧ Fx No w ws) (fun _ j _ => len - (intOf j).toNat)
          case atStart => exact ⟨k + 1, S, by go_num, Nat.le_refl _, hk1, rfl, by rw [lessJ_start]; omega, HF.out⟩
          case round =>
            obtain ⟨n, S', rfl, hn1, hn2, rfl, hS', hf⟩ := hrel
            have HS' := Lib.hid hS'
            have HFi := Lib.hid hf
            have hbound : S' + F < 4865804016353280001 ∧ (n < p.length → gi p n < gi p k → S' + F < 2432902008176640000) := by
              have h1 := HRk.out
              have h2 := HS.out
              have h3 := HBd.out
              have h4 : lessJ p k n * F ≤ lessN p k * F := Nat.mul_le_mul_right _ (lessJ_le _ _ _)
              have h5 : F ≤ 2432902008176640000 := by rw [HFa.out]; exact fact_le hd20
              refine ⟨by omega, fun h6 h7 => ?_⟩
              have h8 : lessJ p k (n + 1) * F ≤ lessN p k * F := Nat.mul_le_mul_right _ (lessJ_le _ _ _)
              rw [lessJ_succ hn1 h6, if_pos h7, Nat.add_mul, Nat.one_mul] at h8
              omega
            have hb1 := hbound.1
            clear hS' hf hbound
            by_cases hnl : n < len
            · have hnp : Hid (n < p.length) := by rw [← HLen.out]; exact hnl
              obtain ⟨b', o', e2, _, hcn⟩ := HC.out n hnp.out
              obtain ⟨rfl, rfl⟩ : b = b' ∧ o = o' := by simp at e2; exact e2
              have q1 := HFi.out.cell' hcn (fun h => h)
              have q2 := HFi.out.cell' HCk.out (fun h => h)
              have HSu := Lib.hid (lessJ_succ hn1 hnp.out)
              clear hcn e2
              by_cases hx : gi p n < gi p k
              · have HX := Lib.hid hx
                have hd : decide (gi p n < gi p k) = true := decide_eq_true hx
                have W : IntKind.u64.wrap ((S' : Int) + (F : Int)) = (S' : Int) + (F : Int) := u64_in (by omega) (by omega)
                clear hx
                go_wp2
                go_quiet (fail)
                go_wp2_with fail
                refine (refFactor_any (d : Int) _ (by omega)).mono ?_
                rintro e w' ⟨rfl, rfl⟩
                rw [Int.toNat_natCast, ← HFa.out]
                go_wp2
                go_roundw
                case rel => exact ⟨n + 1, S' + F, by go_num, by omega, by omega, by go_num, by rw [HSu.out, if_pos HX.out, Nat.add_mul, Nat.one_mul]; have := HS'.out; omega, HFi.out.drewN _⟩
                case measure => simp [intOf]; omega
              · have HX := Lib.hid hx
                have hd : decide (gi p n < gi p k) = false := decide_eq_false hx
                clear hx
                go_wp2
                go_quiet (fail)
                go_wp2
                go_roundw
                case rel => exact ⟨n + 1, S', by go_num, by omega, by omega, rfl, by rw [HSu.out, if_neg (by have := HX.out; omega), Nat.add_zero]; exact HS'.out, HFi.out.drewN _⟩
                case measure => simp [intOf]; omega
            · obtain rfl : n = len := by omega
              have HE : Hid (S' + rk (p.drop (k + 1)) = rk p) := by
                show _ = _
                have h1 := HRk.out
                have h2 := HS.out
                have h3 := HS'.out
                rw [HLen.out, lessJ_end] at h3
                omega
              go_wp2
              go_roundw
              case rel => exact ⟨k + 1, S', by go_num, by omega, rfl, HE.out, HFi.out⟩
              case measure => simp [intOf]; omega
        · obtain rfl : k = len := by omega
          have HE : Hid (rk p = S) := by
            have := HS.out
            rw [HLen.out, List.drop_length] at this
            exact Lib.hid (this.symm)
          go_wp2
          go_ret2
          exact ⟨by rw [HB.out, HN.out, HE.out]; rfl, HF.out⟩
  · have HB : Hid (rankOk p = false) := by show rankOk p = false; unfold rankOk; rw [← HLen.out]; simp [h20]
    have HN : Hid (rankN p = 0) := by show rankN p = 0; unfold rankN; rw [HB.out]; rfl
    have hd20 : decide ((20 : Int) < (len : Int)) = true := decide_eq_true (by omega)
    go_enter Try.func19, Try.ntmps19
    go_wp2
    go_ret2
    exact ⟨by rw [HB.out, HN.out]; rfl, Fx.refl _ _⟩

/-- no number is below the next one -/
def noRise (p : List Int) : Prop := ∀ i, i + 1 < p.length → ¬ gi p i < gi p (i + 1)
instance (p : List Int) : Decidable (noRise p) := decidable_of_iff (∀ i, i < p.length - 1 → ¬ gi p i < gi p (i + 1)) ⟨fun h i hi => h i (by omega), fun h i hi => h i (by omega)⟩
def fallB (p : List Int) : Bool := decide (noRise p)
theorem falling_any {w : World} {D : Nat → Prop} {v : Value} {p : List Int} (h : IntsV w D v p) :
    Calls Try.prog 25 #[v] w fun e w' => e = .returned (.bool (fallB p)) ∧ Fx No w w' := by
  obtain ⟨ao, cap, rfl, hl, hc⟩ := h.facts
  have HC := Lib.hid hc
  obtain ⟨len, hlen⟩ : ∃ k, k = p.length := ⟨_, rfl⟩
  rw [← hlen] at hl ⊢
  have HLen := Lib.hid hlen
  clear hc h hlen
  go_enter Try.func25, Try.ntmps25
  go_wp2
  go_loopw [3] (fun i wr => ∃ k : Nat, i = .int .i64 ((k : Int) + 1) ∧ (k + 1 ≤ len ∨ k = 0) ∧ (∀ j, j < k → ¬ gi p j < gi p (j + 1)) ∧ Fx No w wr) (fun i _ => len - (intOf i).toNat)
  case atStart => exact ⟨0, rfl, .inr rfl, fun j hj => by omega, Fx.refl _ _⟩
  case round =>
    obtain ⟨k, rfl, hk, hq, hf⟩ := hrel
    have HQ := Lib.hid hq
    have HF := Lib.hid hf
    clear hq hf
    by_cases hlt : k + 1 < len
    · have hlt' : (k : Int) + 1 < (len : Int) := by omega
      obtain ⟨b, o, rfl, _, h1⟩ := HC.out k (by rw [← HLen.out]; omega)
      obtain ⟨b', o', e2, _, h2⟩ := HC.out (k + 1) (by rw [← HLen.out]; omega)
      obtain ⟨rfl, rfl⟩ : b = b' ∧ o = o' := by simp at e2; exact e2
      have q1 := HF.out.cell' h1 (fun h => h)
      have q2 := HF.out.cell' h2 (fun h => h)
      clear h1 h2 e2 hk
      by_cases hx : gi p k < gi p (k + 1)
      · have HB : Hid (fallB p = false) := by
          show fallB p = false
          unfold fallB
          rw [decide_eq_false_iff_not]
          intro h
          exact h k (by rw [← HLen.out]; exact hlt) hx
        have hd : decide (gi p k < gi p (k + 1)) = true := decide_eq_true hx
        clear hx
        go_wp2
        go_quiet (fail)
        go_wp2
        go_ret
        exact ⟨by rw [HB.out]; rfl, HF.out.drewN _⟩
      · have HX := Lib.hid hx
        have hd : decide (gi p k < gi p (k + 1)) = false := decide_eq_false hx
        clear hx
        go_wp2
        go_quiet (fail)
        go_wp2
        go_roundw
        case rel => exact ⟨k + 1, by go_num, .inl (by omega), fun j hj => by
          by_cases e : j = k
          · subst e; have := HX.out; omega
          · have := HQ.out j (by omega); omega, HF.out.drewN _⟩
        case measure => simp [intOf]; omega
    · have hlt' : ¬ (k : Int) + 1 < (len : Int) := by omega
      have HB : Hid (fallB p = true) := by
        show fallB p = true
        unfold fallB
        rw [decide_eq_true_iff]
        intro i hi
        rw [← HLen.out] at hi
        exact HQ.out i (by omega)
      go_wp2
      go_ret
      exact ⟨by rw [HB.out]; rfl, HF.out⟩
/-- slices.Clone of ints -/
theorem cloneI_any {w : World} {D : Nat → Prop} {l : List Int} {a : Addr} {n cap : Nat} (h : IntsV w D (.slice (some a) n cap) l) (hm : l.length ≤ 1000000) :
    Calls Try.prog 34 #[.slice (some a) n cap] w fun e w' => ∃ v', e = .returned v' ∧ Fx No w w' ∧ OwnI w' w.heap.size v' l := by
  obtain ⟨i0, hi, hz, hs, hb⟩ := info_parts info_int
  have H := Lib.hid h
  have H1 := Lib.hid (ints_one l)
  have hcap : l.length ≤ cap ∧ cap ≤ 9223372036854775807 := by
    obtain ⟨_, c, h1, h2, h3, _⟩ := h
    simp only [Value.slice.injEq] at h1
    obtain ⟨_, _, rfl⟩ := h1
    unfold maxLen at h3
    exact ⟨h2, by omega⟩
  obtain ⟨hc1, hc2⟩ := hcap
  have hlen : n = l.length := by
    obtain ⟨_, c, h1, _⟩ := h
    simp only [Value.slice.injEq] at h1
    exact h1.2.1
  obtain ⟨len, rfl⟩ : ∃ k, k = n := ⟨_, rfl⟩
  rw [← hlen] at hm hc1
  have HLen := Lib.hid hlen
  have H : Hid (SlV w D (.slice (some a) len cap) 1 len (ints l)) := by
    have h8 := H.out
    unfold IntsV at h8
    rw [← hlen] at h8
    exact h8
  clear h hlen
  have heq := fun w : World => Lib.run_eql_slice_nil (P := Try.prog) w 29 3 (some a) len cap 0 0 Try.underlying29
  go_enter Try.func34, Try.ntmps34
  go_wp2_with (at_builtin; refine wpList_append_sl rfl _ _ 29 rfl w.heap.size 3 Try.underlying29 hi hz hs hb rfl (by decide) rfl (World.ownsRow_lit w #[] 0 (Nat.le_refl _) (by unfold maxLen; omega) rfl) rfl (H.out.keep (S := No) ((Fx.refl _ _).alloc _) No.disj) H1.out (by unfold maxLen; omega) (by omega) (by simp) ?_)
  intro v' w1 hown1 hf1 hnil1
  have HO := Lib.hid hown1
  have HF := Lib.hid (((Fx.refl No w).alloc (.cells #[] 3)).trans' hf1 (by simp [Value.ownBlock]))
  clear hown1 hf1 hnil1
  go_wp2
  go_ret
  exact ⟨_, rfl, HF.out, by unfold OwnI; rw [← HLen.out]; simpa using HO.out⟩
#print axioms refRank_any
#print axioms falling_any
#print axioms cloneI_any
end Go.Proofs.Ytddpdjbgidmdlaa
