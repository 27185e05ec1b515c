/- Contracts: the reference's place, Right, Inverse; perm.Right, Inverse. -/
import Derived.Test.YtddpdjbgidmdlaaInts
import Derived.Test.YtddpdjbgidmdlaaPermMath
namespace Go.Proofs.Ytddpdjbgidmdlaa
open Go.RowKit
set_option linter.unusedVariables false

theorem refPlace_any {w : World} {D : Nat → Prop} {v : Value} {p : List Int} (h : IntsV w D v p) (n : Int) :
    Calls Try.prog 38 #[v, .int .i64 n] w fun e w' => e = .returned (.int .i64 (placeI p n)) ∧ w = w' := by
  obtain ⟨ao, cap, rfl, hl, hc⟩ := h.facts
  have HC := Lib.hid hc
  obtain ⟨len, hlen⟩ : ∃ k, k = p.length := ⟨_, rfl⟩
  rw [← hlen] at hl ⊢
  have HLen := Lib.hid hlen
  clear hc h hlen
  go_enter Try.func38, Try.ntmps38
  go_wp2
  go_loop [5] (fun i => ∃ k : Nat, i = .int .i64 k ∧ k ≤ len ∧ ∀ j, j < k → gi p j ≠ n) (fun i => len - (intOf i).toNat)
  case atStart => exact ⟨0, rfl, Nat.zero_le _, fun j hj => by omega⟩
  case round =>
    obtain ⟨k, rfl, hk, hn⟩ := hrel
    have HN := Lib.hid hn
    clear hn
    by_cases hlt : k < len
    · obtain ⟨b, o, rfl, _, hcell⟩ := HC.out k (by rw [← HLen.out]; exact hlt)
      by_cases he : gi p k = n
      · have HE := Lib.hid he
        have hd : (gi p k == n) = true := by simpa using he
        clear he
        go_wp2
        go_ret
        exact ⟨by rw [placeI_hit (by rw [← HLen.out]; exact hlt) HE.out HN.out]; rfl, rfl⟩
      · have HE := Lib.hid he
        have hd : (gi p k == n) = false := by simpa using he
        clear he
        go_wp2
        go_round
        case rel => exact ⟨k + 1, by go_num, by omega, fun j hj => by
          by_cases e : j = k
          · subst e; exact HE.out
          · exact HN.out j (by omega)⟩
        case measure => simp [intOf]; omega
    · obtain rfl : k = len := by omega
      go_wp2
      go_ret
      exact ⟨by rw [placeI_miss (by rw [← HLen.out]; exact HN.out)]; rfl, rfl⟩

theorem refRight_any {w : World} {D : Nat → Prop} {v : Value} {p : List Int} (h : IntsV w D v p) (n : Int) :
    Calls Try.prog 15 #[v, .int .i64 n] w fun e w' => e = .returned (.bool (rightB p n)) ∧ w = w' := by
  obtain ⟨ao, cap, rfl, hl, hc⟩ := h.facts
  have HC := Lib.hid hc
  obtain ⟨len, hlen⟩ : ∃ k, k = p.length := ⟨_, rfl⟩
  rw [← hlen] at hl ⊢
  have HLen := Lib.hid hlen
  clear hc h hlen
  by_cases hln : (len : Int) = n
  · subst hln
    have hn0 : ((len : Int) != (len : Int)) = false := by simp
    go_enter Try.func15, Try.ntmps15
    go_wp2
    go_loop [5] (fun i => ∃ k : Nat, i = .int .i64 k ∧ k ≤ len ∧ ∀ j : Nat, j < k → p.count (j : Int) = 1) (fun i => len - (intOf i).toNat)
    case atStart => exact ⟨0, rfl, Nat.zero_le _, fun j hj => by omega⟩
    case round =>
      obtain ⟨k, rfl, hk, hn⟩ := hrel
      have HN := Lib.hid hn
      clear hn
      by_cases hlt : k < len
      · go_wp2
        go_loop [6, 7] (fun c i => ∃ j : Nat, i = .int .i64 j ∧ j ≤ len ∧ c = .int .i64 ((p.take j).count (k : Int))) (fun _ i => len - (intOf i).toNat)
        case atStart => exact ⟨0, rfl, Nat.zero_le _, rfl⟩
        case round =>
          obtain ⟨j, rfl, hj, rfl⟩ := hrel
          have hcl : (p.take j).count (k : Int) ≤ j := Nat.le_trans List.count_le_length (List.length_take_le _ _)
          by_cases hjl : j < len
          · obtain ⟨b, o, rfl, _, hcell⟩ := HC.out j (by rw [← HLen.out]; exact hjl)
            have HS := Lib.hid (count_take_succ (k : Int) (show j < p.length by rw [← HLen.out]; exact hjl))
            by_cases he : gi p j = (k : Int)
            · have HE := Lib.hid he
              have hd : (gi p j == (k : Int)) = true := by simpa using he
              clear he
              go_wp2
              go_round
              case rel => exact ⟨j + 1, by go_num, by omega, by rw [HS.out, if_pos HE.out]; go_num⟩
              case measure => simp [intOf]; omega
            · have HE := Lib.hid he
              have hd : (gi p j == (k : Int)) = false := by simpa using he
              clear he
              go_wp2
              go_round
              case rel => exact ⟨j + 1, by go_num, by omega, by rw [HS.out, if_neg HE.out, Nat.add_zero]⟩
              case measure => simp [intOf]; omega
          · obtain rfl : j = len := by omega
            have ht : p.take j = p := by rw [HLen.out, List.take_length]
            obtain ⟨c, hc⟩ : ∃ c, c = (p.take j).count (k : Int) := ⟨_, rfl⟩
            have HCt : Hid (p.count (k : Int) = c) := by rw [hc, ht]; exact Lib.hid rfl
            rw [← hc] at hcl ⊢
            clear ht hc
            by_cases h1 : c = 1
            · subst h1
              go_wp2
              go_round
              case rel => exact ⟨k + 1, by go_num, by omega, fun i hi => by
                by_cases e : i = k
                · subst e; exact HCt.out
                · exact HN.out i (by omega)⟩
              case measure => simp [intOf]; omega
            · have hd : ((c : Int) != 1) = true := by simp; omega
              have HB : Hid (rightB p (j : Int) = false) := by
                show rightB p (j : Int) = false
                unfold rightB
                rw [decide_eq_false_iff_not]
                rintro ⟨_, h2⟩
                exact h1 (by rw [← HCt.out]; exact h2 k (by rw [← HLen.out]; exact hlt))
              go_wp2
              go_ret
              exact ⟨by rw [HB.out]; rfl, rfl⟩
      · obtain rfl : k = len := by omega
        have HB : Hid (rightB p (k : Int) = true) := (rightB_iff _ _).2 ⟨by rw [HLen.out], fun i hi => HN.out i (by rw [HLen.out]; exact hi)⟩
        go_wp2
        go_ret
        exact ⟨by rw [HB.out]; rfl, rfl⟩
  · have hd : ((len : Int) != n) = true := by simpa using hln
    have HB : Hid (rightB p n = false) := by
      show rightB p n = false
      unfold rightB
      rw [decide_eq_false_iff_not]
      rintro ⟨h1, _⟩
      exact hln (by rw [HLen.out]; exact h1)
    clear hln
    go_enter Try.func15, Try.ntmps15
    go_wp2
    go_ret
    exact ⟨by rw [HB.out]; rfl, rfl⟩
#print axioms refPlace_any
#print axioms refRight_any
end Go.Proofs.Ytddpdjbgidmdlaa
