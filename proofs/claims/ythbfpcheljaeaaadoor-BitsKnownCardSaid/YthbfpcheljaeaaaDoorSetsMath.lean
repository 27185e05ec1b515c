/- Counting the numbers of two sets: plain arithmetic. -/
import Derived.Test.YthbfpcheljaeaaaDoorDoMath
import Derived.Test.YthbfpcheljaeaaaDoorBitsA
namespace Go.Proofs.YthbfpcheljaeaaaDoor

theorem cnt_or (X Y : Nat) : ∀ n, cntX n (X ||| Y) = cntX n X + cntX n (X ^^^ (X ||| Y))
  | 0 => by simp [cntX, allX_zero]
  | n + 1 => by
    rw [cntX_succ, cntX_succ, cntX_succ, cnt_or X Y n]
    simp only [Nat.testBit_or, Nat.testBit_xor]
    cases X.testBit n <;> cases Y.testBit n <;> simp <;> omega
theorem cnt_and (X Y : Nat) : ∀ n, cntX n (X &&& Y) + cntX n (X ^^^ (X &&& Y)) = cntX n X
  | 0 => by simp [cntX, allX_zero]
  | n + 1 => by
    rw [cntX_succ, cntX_succ, cntX_succ, ← cnt_and X Y n]
    simp only [Nat.testBit_and, Nat.testBit_xor]
    cases X.testBit n <;> cases Y.testBit n <;> simp <;> omega
theorem cnt_diff (X Y : Nat) : ∀ n, cntX n (diff X Y) + cntX n (X ^^^ diff X Y) = cntX n X
  | 0 => by simp [cntX, allX_zero]
  | n + 1 => by
    rw [cntX_succ, cntX_succ, cntX_succ, ← cnt_diff X Y n]
    simp only [diff_testBit, Nat.testBit_xor]
    cases X.testBit n <;> cases Y.testBit n <;> simp <;> omega
theorem cnt_parts (X Y : Nat) : ∀ n, cntX n (X ^^^ (X &&& Y)) + cntX n (X ^^^ diff X Y) = cntX n X
  | 0 => by simp [cntX, allX_zero]
  | n + 1 => by
    rw [cntX_succ, cntX_succ, cntX_succ, ← cnt_parts X Y n]
    simp only [diff_testBit, Nat.testBit_and, Nat.testBit_xor]
    cases X.testBit n <;> cases Y.testBit n <;> simp <;> omega
theorem cnt_both (X Y : Nat) : ∀ n, cntX n (X ||| Y) + cntX n (X &&& Y) = cntX n X + cntX n Y
  | 0 => by simp [cntX, allX_zero]
  | n + 1 => by
    have := cnt_both X Y n
    rw [cntX_succ, cntX_succ, cntX_succ, cntX_succ]
    simp only [Nat.testBit_and, Nat.testBit_or]
    cases X.testBit n <;> cases Y.testBit n <;> simp <;> omega
theorem diff_or_and (X Y : Nat) : diff X Y ||| (X &&& Y) = X := by
  apply Nat.eq_of_testBit_eq
  intro i
  rw [Nat.testBit_or, diff_testBit, Nat.testBit_and]
  cases X.testBit i <;> cases Y.testBit i <;> rfl
theorem diff_xor (X Y : Nat) : diff X Y ^^^ X = X &&& Y := by
  apply Nat.eq_of_testBit_eq
  intro i
  rw [Nat.testBit_xor, diff_testBit, Nat.testBit_and]
  cases X.testBit i <;> cases Y.testBit i <;> rfl
theorem within_or_left (X Y : Nat) : withinB X (X ||| Y) = true := (withinB_iff _ _).2 fun i h => by rw [Nat.testBit_or, h]; rfl
theorem within_or_right (X Y : Nat) : withinB Y (X ||| Y) = true := (withinB_iff _ _).2 fun i h => by rw [Nat.testBit_or, h]; simp
theorem within_and_left (X Y : Nat) : withinB (X &&& Y) X = true := (withinB_iff _ _).2 fun i h => by rw [Nat.testBit_and] at h; cases hx : X.testBit i <;> simp_all
theorem within_and_right (X Y : Nat) : withinB (X &&& Y) Y = true := (withinB_iff _ _).2 fun i h => by rw [Nat.testBit_and] at h; cases hx : Y.testBit i <;> simp_all
theorem has_or (X Y : Nat) (i : Int) : hasB (X ||| Y) i = (hasB X i || hasB Y i) := by
  unfold hasB; rw [Nat.testBit_or]; cases decide (0 ≤ i) <;> simp
theorem has_and (X Y : Nat) (i : Int) : hasB (X &&& Y) i = (hasB X i && hasB Y i) := by
  unfold hasB; rw [Nat.testBit_and]; cases decide (0 ≤ i) <;> simp
theorem has_diff (X Y : Nat) (i : Int) : hasB (diff X Y) i = (hasB X i && !hasB Y i) := by
  unfold hasB; rw [diff_testBit]; cases decide (0 ≤ i) <;> simp
theorem raw_or {n X Y : Nat} (hX : X < 2 ^ n) (hY : Y < 2 ^ n) : rawX 0 X [Y] % 2 ^ n = X ||| Y := by
  show (X ||| Y) % 2 ^ n = _
  exact Nat.mod_eq_of_lt (Nat.or_lt_two_pow hX hY)
theorem raw_and {n X Y : Nat} (hX : X < 2 ^ n) : rawX 1 X [Y] % 2 ^ n = X &&& Y := by
  show (X &&& Y) % 2 ^ n = _
  exact Nat.mod_eq_of_lt (Nat.lt_of_le_of_lt Nat.and_le_left hX)
theorem raw_diff {n X Y : Nat} (hX : X < 2 ^ n) : rawX 2 X [Y] % 2 ^ n = diff X Y := by
  show (diff X Y) % 2 ^ n = _
  exact Nat.mod_eq_of_lt (diff_lt hX _)
end Go.Proofs.YthbfpcheljaeaaaDoor
