/- Contracts: factor, Factor. -/
import Derived.Test.YtddpdjbgidmdlaaPermF
import Derived.Test.YtddpdjbgidmdlaaRankMath
namespace Go.Proofs.Ytddpdjbgidmdlaa
open Go.RowKit
set_option linter.unusedVariables false

theorem fact_step {k : Nat} (h : k + 1 ≤ 20) : IntKind.u64.wrap (((fact k : Nat) : Int) * ((k : Int) + 1)) = ((fact (k + 1) : Nat) : Int) := by
  have e : ((fact k : Nat) : Int) * ((k : Int) + 1) = ((fact (k + 1) : Nat) : Int) := by
    show _ = (((fact k * (k + 1)) : Nat) : Int)
    simp
  rw [e]
  have := fact_le h
  exact u64_in (by omega) (by omega)
theorem factor_any (n : Nat) (w : World) (h : n ≤ 20) :
    Calls Try.prog 39 #[.int .i64 (n : Int)] w fun e w' => e = .returned (.int .u64 (fact n : Nat)) ∧ w = w' := by
  go_enter Try.func39, Try.ntmps39
  go_wp2
  go_loop [3, 6] (fun f i => ∃ k : Nat, i = .int .i64 k ∧ k ≤ n ∧ f = .int .u64 (fact k : Nat)) (fun _ i => n - (intOf i).toNat)
  case atStart => exact ⟨0, rfl, Nat.zero_le _, rfl⟩
  case round =>
    obtain ⟨k, rfl, hk, rfl⟩ := hrel
    by_cases hlt : k < n
    · have hs := fact_step (k := k) (by omega)
      have hc : IntKind.u64.wrap ((k : Int) + 1) = (k : Int) + 1 := u64_in (by omega) (by omega)
      go_wp2
      go_round
      case rel => exact ⟨k + 1, by go_num, by omega, rfl⟩
      case measure => simp [intOf]; omega
    · obtain rfl : k = n := by omega
      go_wp2
      go_ret
      exact ⟨rfl, rfl⟩
theorem refFactor_any (n : Int) (w : World) (h : n ≤ 20) :
    Calls Try.prog 30 #[.int .i64 n] w fun e w' => e = .returned (.int .u64 (fact n.toNat : Nat)) ∧ w = w' := by
  by_cases h1 : n ≤ 1
  · have HF : Hid (fact n.toNat = 1) := by
      show fact n.toNat = 1
      have : n.toNat = 0 ∨ n.toNat = 1 := by omega
      rcases this with e | e <;> rw [e] <;> rfl
    have hd : decide ((2 : Int) ≤ n) = false := decide_eq_false (by omega)
    go_enter Try.func30, Try.ntmps30
    go_wp2
    go_loop [3, 4] (fun f i => i = .int .i64 2 ∧ f = .int .u64 1) (fun _ i => 0)
    case atStart => exact ⟨rfl, rfl⟩
    case round =>
      obtain ⟨rfl, rfl⟩ := hrel
      go_wp2
      go_ret
      exact ⟨by rw [HF.out]; rfl, rfl⟩
  · obtain ⟨m, rfl⟩ := Int.eq_ofNat_of_zero_le (by omega : 0 ≤ n)
    rw [Int.toNat_natCast]
    clear h1
    go_enter Try.func30, Try.ntmps30
    go_wp2
    go_loop [3, 4] (fun f i => ∃ k : Nat, i = .int .i64 ((k : Int) + 1) ∧ 1 ≤ k ∧ (k ≤ m ∨ k = 1) ∧ f = .int .u64 (fact k : Nat)) (fun _ i => m + 1 - (intOf i).toNat)
    case atStart => exact ⟨1, rfl, by omega, .inr rfl, rfl⟩
    case round =>
      obtain ⟨k, rfl, hk1, hk, rfl⟩ := hrel
      by_cases hlt : k + 1 ≤ m
      · have hs := fact_step (k := k) (by omega)
        have hc : IntKind.u64.wrap ((k : Int) + 1) = (k : Int) + 1 := u64_in (by omega) (by omega)
        have hle : (k : Int) + 1 ≤ (m : Int) := by omega
        go_wp2
        go_round
        case rel => exact ⟨k + 1, by go_num, by omega, by omega, rfl⟩
        case measure => simp [intOf]; omega
      · have hle : ¬ ((k : Int) + 1 ≤ (m : Int)) := by omega
        have HM : Hid (m = k ∨ (m ≤ 1 ∧ k = 1)) := by show _ ∨ _; omega
        have HE : Hid (fact m = fact k) := by
          show fact m = fact k
          rcases HM.out with rfl | ⟨h8, rfl⟩
          · rfl
          · have : m = 0 ∨ m = 1 := by omega
            rcases this with rfl | rfl <;> rfl
        go_wp2
        go_ret
        exact ⟨by rw [HE.out]; rfl, rfl⟩
#print axioms factor_any
#print axioms refFactor_any
end Go.Proofs.Ytddpdjbgidmdlaa
