/- Contracts: both Ranks. -/
import Derived.Test.YtddpdjbgidmdlaaRankA
namespace Go.Proofs.Ytddpdjbgidmdlaa
open Go.RowKit
set_option linter.unusedVariables false

def rankOk (p : List Int) : Bool := decide (p.length ≤ 20) && okB p
def rankN (p : List Int) : Nat := if rankOk p then rk p else 0
def RankR (p : List Int) (w : World) (e : Ending) (w' : World) : Prop := e = .returned (.tuple #[.int .u64 (rankN p : Nat), .bool (rankOk p)]) ∧ Fx No w w'
theorem rk_bound {p : List Int} (h : p.length ≤ 20) : rk p < 2432902008176640000 := Nat.lt_of_lt_of_le (rk_lt p) (fact_le h)
theorem mul_bound {a f b r s : Nat} (h : s = a * f + r) (hs : s ≤ b) : a * f ≤ b := by omega

set_option maxHeartbeats 1000000 in
theorem rank_any {w : World} {D : Nat → Prop} {v : Value} {p : List Int} (h : IntsV w D v p) (hp : p.length ≤ 1000000) :
    Calls Try.prog 18 #[v] w (RankR p w) := by
  obtain ⟨ao, cap, rfl, hl, hc⟩ := h.facts
  have hcap : p.length ≤ cap ∧ cap ≤ 9223372036854775807 := by
    obtain ⟨a, c, h1, h2, h3, _⟩ := h
    simp only [Value.slice.injEq] at h1
    obtain ⟨_, _, rfl⟩ := h1
    unfold maxLen at h3
    exact ⟨h2, by omega⟩
  have H := Lib.hid h
  have HC := Lib.hid hc
  have HPp := Lib.hid hp
  obtain ⟨len, hlen⟩ : ∃ k, k = p.length := ⟨_, rfl⟩
  rw [← hlen] at hl hp hcap ⊢
  obtain ⟨hc1, hc2⟩ := hcap
  have HLen := Lib.hid hlen
  have H : Hid (IntsV w D (.slice ao len cap) p) := by rw [hlen]; exact H
  have HRS : Hid (rightB p (len : Int) = okB p) := by rw [hlen]; exact Lib.hid (rightB_self p)
  clear hc h hlen
  by_cases h20 : len ≤ 20
  · have hd20 : decide ((20 : Int) < (len : Int)) = false := decide_eq_false (by omega)
    rcases hok : okB p with _ | _
    · have HB : Hid (rankOk p = false) := by show rankOk p = false; unfold rankOk; rw [hok]; simp
      have HN : Hid (rankN p = 0) := by show rankN p = 0; unfold rankN; rw [HB.out]; rfl
      have HOk := Lib.hid hok
      clear hok
      go_enter Try.func18, Try.ntmps18
      go_wp2_with fail
      refine (right_any H.out _ HPp.out).mono ?_
      rintro e w1 ⟨rfl, hf⟩
      rw [HRS.out, HOk.out]
      have HF := Lib.hid hf
      clear hf
      go_wp2
      go_ret2
      exact ⟨by rw [HB.out, HN.out]; rfl, HF.out⟩
    · have HB : Hid (rankOk p = true) := by show rankOk p = true; unfold rankOk; rw [hok, ← HLen.out]; simpa using h20
      have HN : Hid (rankN p = rk p) := by show rankN p = rk p; unfold rankN; rw [HB.out]; rfl
      have HOk := Lib.hid hok
      have HBd : Hid (rk p < 2432902008176640000) := rk_bound (by rw [← HLen.out]; exact h20)
      clear hok
      go_enter Try.func18, Try.ntmps18
      go_wp2_with fail
      refine (right_any H.out _ HPp.out).mono ?_
      rintro e w1 ⟨rfl, hf⟩
      rw [HRS.out, HOk.out]
      have HF := Lib.hid hf
      clear hf
      go_wp2
      go_loop [5, 23] (fun s i => ∃ k S : Nat, i = .int .i64 k ∧ k ≤ len ∧ s = .int .u64 (S : Int) ∧ S + rk (p.drop k) = rk p) (fun _ i => len - (intOf i).toNat)
      case atStart => exact ⟨0, 0, rfl, Nat.zero_le _, rfl, by simp⟩
      case round =>
        obtain ⟨k, S, rfl, hk, rfl, hS⟩ := hrel
        have HS := Lib.hid hS
        clear hS
        by_cases hlt : k < len
        · have hkp : Hid (k < p.length) := by rw [← HLen.out]; exact hlt
          obtain ⟨b, o, rfl, _, hcell⟩ := HC.out k hkp.out
          have hcell := HF.out.cell' hcell (fun h => h)
          obtain ⟨d, hd⟩ : ∃ d, len = k + 1 + d := ⟨len - 1 - k, by omega⟩
          have hcast : ((len : Int) - 1 - (k : Int)) = (d : Int) := by omega
          have hsub : len - (k + 1) = d := by omega
          have hd20 : d ≤ 20 := by omega
          have HDp : Hid (p.length - 1 - k = d) := by rw [← HLen.out]; show _ = _; omega
          have HDl : Hid (p.length = k + 1 + d) := by rw [← HLen.out]; exact hd
          have hk1 : (k : Int) + 1 ≤ (len : Int) := by omega
          clear hd
          by_cases he : cap = k + 1
          · subst he
            go_wp2
            go_loop [8, 33] (fun c i => ∃ m : Nat, i = .int .i64 m ∧ m ≤ d ∧ c = .int .i64 (lessM p k m : Nat)) (fun _ i => d - (intOf i).toNat)
            case atStart => exact ⟨0, rfl, Nat.zero_le _, by rw [lessM_zero]; rfl⟩
            case round =>
              obtain ⟨m, rfl, hm, rfl⟩ := hrel
              have hlm := lessM_le p k m
              · obtain rfl : m = d := by omega
                obtain ⟨L, hL⟩ : ∃ L, L = lessM p k m := ⟨_, rfl⟩
                rw [← hL] at hlm ⊢
                have HLs : Hid (L = lessN p k) := by rw [hL]; exact lessM_all (by rw [HDl.out]; omega)
                obtain ⟨F, hF⟩ : ∃ F, F = fact m := ⟨_, rfl⟩
                obtain ⟨M, hM⟩ : ∃ M, M = L * F := ⟨_, rfl⟩
                have HRk : Hid (rk (p.drop k) = M + rk (p.drop (k + 1))) := by
                  rw [hM, hF, HLs.out]
                  have := rk_drop hkp.out
                  rw [HDp.out] at this
                  exact this
                have hb1 : M + S < 2432902008176640000 := by have h1 := HRk.out; have h2 := HS.out; have h3 := HBd.out; omega
                have W1 : IntKind.u64.wrap ((L : Int)) = (L : Int) := u64_in (by omega) (by omega)
                have W2 : IntKind.u64.wrap ((L : Int) * (F : Int)) = (M : Int) := by
                  rw [show ((L : Int) * (F : Int)) = (M : Int) by rw [hM]; simp]
                  exact u64_in (by omega) (by omega)
                have W3 : IntKind.u64.wrap ((S : Int) + (M : Int)) = (S : Int) + (M : Int) := u64_in (by omega) (by omega)
                have HF' := Lib.hid hF
                clear hL hM hF
                go_wp2_with fail
                refine (factor_any m _ (by omega)).mono ?_
                rintro e w' ⟨rfl, rfl⟩
                rw [← HF'.out]
                go_wp2
                go_round
                case rel => first | exact ⟨k + 1, S + M, by go_num, by omega, by go_num, by have h1 := HRk.out; have h2 := HS.out; omega⟩ | ((repeat apply Exists.intro); exact ⟨⟨k + 1, S + M, by go_num, by omega, by go_num, by have h1 := HRk.out; have h2 := HS.out; omega⟩, rfl⟩) | (refine ⟨trivial, ?_⟩; (repeat apply Exists.intro); exact ⟨⟨k + 1, S + M, by go_num, by omega, by go_num, by have h1 := HRk.out; have h2 := HS.out; omega⟩, rfl⟩)
                case measure => simp [intOf]; omega
          · skip
            go_wp2
            go_loop [8, 33] (fun c i => ∃ m : Nat, i = .int .i64 m ∧ m ≤ d ∧ c = .int .i64 (lessM p k m : Nat)) (fun _ i => d - (intOf i).toNat)
            case atStart => exact ⟨0, rfl, Nat.zero_le _, by rw [lessM_zero]; rfl⟩
            case round =>
              obtain ⟨m, rfl, hm, rfl⟩ := hrel
              have hlm := lessM_le p k m
              by_cases hml : m < d
              · have hmp : Hid (k + 1 + m < p.length) := by rw [HDl.out]; show _ < _; omega
                obtain ⟨b', o', e2, _, hcm⟩ := HC.out (k + 1 + m) hmp.out
                obtain ⟨rfl, rfl⟩ : b = b' ∧ o = o' := by simp at e2; exact e2
                have hcm := HF.out.cell' hcm (fun h => h)
                rw [← Nat.add_assoc o (k + 1) m] at hcm
                have HSu := Lib.hid (lessM_succ hmp.out)
                obtain ⟨y, hy⟩ : ∃ y, y = gi p (k + 1 + m) := ⟨_, rfl⟩
                rw [← hy] at hcm
                have HY := Lib.hid hy
                clear hy e2
                by_cases hx : y < gi p k
                · have HX : Hid (gi p (k + 1 + m) < gi p k) := by rw [← HY.out]; exact hx
                  go_wp2
                  go_round
                  case rel => exact ⟨m + 1, by go_num, by omega, by rw [HSu.out, if_pos HX.out]; go_num⟩
                  case measure => simp [intOf]; omega
                · have HX : Hid (¬ gi p (k + 1 + m) < gi p k) := by rw [← HY.out]; exact hx
                  have hd : decide (y < gi p k) = false := decide_eq_false hx
                  clear hx
                  go_wp2
                  go_round
                  case rel => exact ⟨m + 1, by go_num, by omega, by rw [HSu.out, if_neg HX.out, Nat.add_zero]⟩
                  case measure => simp [intOf]; omega
              · obtain rfl : m = d := by omega
                obtain ⟨L, hL⟩ : ∃ L, L = lessM p k m := ⟨_, rfl⟩
                rw [← hL] at hlm ⊢
                have HLs : Hid (L = lessN p k) := by rw [hL]; exact lessM_all (by rw [HDl.out]; omega)
                obtain ⟨F, hF⟩ : ∃ F, F = fact m := ⟨_, rfl⟩
                obtain ⟨M, hM⟩ : ∃ M, M = L * F := ⟨_, rfl⟩
                have HRk : Hid (rk (p.drop k) = M + rk (p.drop (k + 1))) := by
                  rw [hM, hF, HLs.out]
                  have := rk_drop hkp.out
                  rw [HDp.out] at this
                  exact this
                have hb1 : M + S < 2432902008176640000 := by have h1 := HRk.out; have h2 := HS.out; have h3 := HBd.out; omega
                have W1 : IntKind.u64.wrap ((L : Int)) = (L : Int) := u64_in (by omega) (by omega)
                have W2 : IntKind.u64.wrap ((L : Int) * (F : Int)) = (M : Int) := by
                  rw [show ((L : Int) * (F : Int)) = (M : Int) by rw [hM]; simp]
                  exact u64_in (by omega) (by omega)
                have W3 : IntKind.u64.wrap ((S : Int) + (M : Int)) = (S : Int) + (M : Int) := u64_in (by omega) (by omega)
                have HF' := Lib.hid hF
                clear hL hM hF
                go_wp2_with fail
                refine (factor_any m _ (by omega)).mono ?_
                rintro e w' ⟨rfl, rfl⟩
                rw [← HF'.out]
                go_wp2
                go_round
                case rel => first | exact ⟨k + 1, S + M, by go_num, by omega, by go_num, by have h1 := HRk.out; have h2 := HS.out; omega⟩ | ((repeat apply Exists.intro); exact ⟨⟨k + 1, S + M, by go_num, by omega, by go_num, by have h1 := HRk.out; have h2 := HS.out; omega⟩, rfl⟩) | (refine ⟨trivial, ?_⟩; (repeat apply Exists.intro); exact ⟨⟨k + 1, S + M, by go_num, by omega, by go_num, by have h1 := HRk.out; have h2 := HS.out; omega⟩, rfl⟩)
                case measure => simp [intOf]; omega
        · obtain rfl : k = len := by omega
          have HE : Hid (rk p = S) := by
            have := HS.out
            rw [HLen.out, List.drop_length] at this
            exact Lib.hid (this.symm)
          go_wp2
          go_ret2
          exact ⟨by rw [HB.out, HN.out, HE.out]; rfl, HF.out⟩
  · have HB : Hid (rankOk p = false) := by show rankOk p = false; unfold rankOk; rw [← HLen.out]; simp [h20]
    have HN : Hid (rankN p = 0) := by show rankN p = 0; unfold rankN; rw [HB.out]; rfl
    have hd20 : decide ((20 : Int) < (len : Int)) = true := decide_eq_true (by omega)
    go_enter Try.func18, Try.ntmps18
    go_wp2
    go_ret2
    exact ⟨by rw [HB.out, HN.out]; rfl, Fx.refl _ _⟩
#print axioms rank_any
end Go.Proofs.Ytddpdjbgidmdlaa
