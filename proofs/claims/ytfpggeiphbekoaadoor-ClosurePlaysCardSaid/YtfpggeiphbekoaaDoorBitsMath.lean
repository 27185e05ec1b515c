/- Sets of small numbers as natural numbers (bit i: is i in it?), their words of 64 bits: plain arithmetic, no program in sight. -/
import Derived.WalkKit
namespace Go.Proofs.YtfpggeiphbekoaaDoor

/-- word k of a set -/
def wd (X k : Nat) : Nat := X / 2 ^ (64 * k) % 2 ^ 64
/-- how many words -/
def nw (n : Nat) : Nat := (n + 63) / 64

theorem wd_lt (X k : Nat) : wd X k < 18446744073709551616 := Nat.mod_lt _ (by omega)
theorem wd_testBit (X k i : Nat) : (wd X k).testBit i = (decide (i < 64) && X.testBit (64 * k + i)) := by
  unfold wd
  rw [Nat.testBit_mod_two_pow, Nat.testBit_div_two_pow, Nat.add_comm i]
theorem wd_zero {X n k : Nat} (hX : X < 2 ^ n) (hk : nw n ≤ k) : wd X k = 0 := by
  unfold wd nw at *
  have : X / 2 ^ (64 * k) = 0 := Nat.div_eq_of_lt (Nat.lt_of_lt_of_le hX (Nat.pow_le_pow_right (by omega) (by omega)))
  rw [this]
theorem testBit_wd (X i : Nat) : X.testBit i = (wd X (i / 64)).testBit (i % 64) := by
  rw [wd_testBit, show 64 * (i / 64) + i % 64 = i from Nat.div_add_mod i 64]
  simp [Nat.mod_lt]
theorem eq_of_wd {X Y : Nat} (h : ∀ k, wd X k = wd Y k) : X = Y := by
  apply Nat.eq_of_testBit_eq
  intro i
  rw [testBit_wd X, testBit_wd Y, h]
theorem testBit_lt {X n i : Nat} (hX : X < 2 ^ n) (h : X.testBit i = true) : i < n := by
  rcases Nat.lt_or_ge i n with h' | h'
  · exact h'
  · rw [Nat.testBit_lt_two_pow (Nat.lt_of_lt_of_le hX (Nat.pow_le_pow_right (by omega) h'))] at h
    cases h
theorem testBit_ge {X n i : Nat} (hX : X < 2 ^ n) (h : n ≤ i) : X.testBit i = false :=
  Nat.testBit_lt_two_pow (Nat.lt_of_lt_of_le hX (Nat.pow_le_pow_right (by omega) h))

/-- X with i -/
def ins (X i : Nat) : Nat := X ||| 2 ^ i
/-- X without i -/
def del (X i : Nat) : Nat := X &&& (X ^^^ 2 ^ i)

theorem ins_testBit (X i j : Nat) : (ins X i).testBit j = (X.testBit j || decide (i = j)) := by
  unfold ins; rw [Nat.testBit_or, Nat.testBit_two_pow]
theorem del_testBit (X i j : Nat) : (del X i).testBit j = (X.testBit j && !decide (i = j)) := by
  unfold del; rw [Nat.testBit_and, Nat.testBit_xor, Nat.testBit_two_pow]; cases X.testBit j <;> simp
theorem ins_lt {X n i : Nat} (hX : X < 2 ^ n) (hi : i < n) : ins X i < 2 ^ n :=
  Nat.or_lt_two_pow hX (Nat.pow_lt_pow_right (by omega) hi)
theorem del_lt {X n i : Nat} (hX : X < 2 ^ n) : del X i < 2 ^ n := Nat.lt_of_le_of_lt Nat.and_le_left hX
theorem ins_wd (X i k : Nat) : wd (ins X i) k = if k = i / 64 then wd X k ||| 2 ^ (i % 64) else wd X k := by
  apply Nat.eq_of_testBit_eq
  intro j
  split
  · subst_vars
    rw [wd_testBit, ins_testBit, Nat.testBit_or, wd_testBit, Nat.testBit_two_pow]
    by_cases h : j < 64
    · simp only [h, decide_true, Bool.true_and]
      congr 1
      apply decide_eq_decide.2; omega
    · have : ¬ i % 64 = j := by omega
      simp [h, this]
  · rw [wd_testBit, ins_testBit, wd_testBit]
    by_cases h : j < 64
    · have : ¬ i = 64 * k + j := by omega
      simp [this]
    · simp [h]
theorem ins_of_mem {X i : Nat} (h : X.testBit i = true) : ins X i = X := by
  apply Nat.eq_of_testBit_eq
  intro j
  rw [ins_testBit]
  by_cases e : i = j
  · subst e; simp [h]
  · simp [e]
/-- a &^ b on words -/
theorem andNot_testBit (a b j : Nat) (hb : b < 18446744073709551616) : (a &&& (18446744073709551615 - b)).testBit j = (a.testBit j && (decide (j < 64) && !b.testBit j)) := by
  rw [Nat.testBit_and, show 18446744073709551615 - b = 2 ^ 64 - (b + 1) by omega, Nat.testBit_two_pow_sub_succ (by omega)]
theorem del_wd (X i k : Nat) : wd (del X i) k = if k = i / 64 then wd X k &&& (18446744073709551615 - 2 ^ (i % 64)) else wd X k := by
  apply Nat.eq_of_testBit_eq
  intro j
  split
  · subst_vars
    rw [wd_testBit, del_testBit, andNot_testBit _ _ _ (by have : 2 ^ (i % 64) < 2 ^ 64 := Nat.pow_lt_pow_right (by omega) (by omega); omega), wd_testBit, Nat.testBit_two_pow]
    by_cases h : j < 64
    · simp only [h, decide_true, Bool.true_and]
      congr 2
      apply decide_eq_decide.2; omega
    · simp [h]
  · rw [wd_testBit, del_testBit, wd_testBit]
    by_cases h : j < 64
    · have : ¬ i = 64 * k + j := by omega
      simp [this]
    · simp [h]
theorem pow_lt64 (i : Nat) : 2 ^ (i % 64) < 18446744073709551616 := by
  have : 2 ^ (i % 64) < 2 ^ 64 := Nat.pow_lt_pow_right (by omega) (by omega)
  omega

/-! Go's operations on words, as the walk spells them. -/
theorem go_one_shl (k : Nat) : IntKind.u64.wrap (2 ^ (k % 64)) = ((2 ^ (k % 64) : Nat) : Int) := by
  rw [IntKind.wrap_u64]
  have := pow_lt64 k
  have e : ((2 : Int) ^ (k % 64)) = ((2 ^ (k % 64) : Nat) : Int) := by simp
  rw [e]
  generalize 2 ^ (k % 64) = p at *
  omega
theorem go_add (X k : Nat) : bits .or .u64 (wd X (k / 64) : Int) (IntKind.u64.wrap (2 ^ (k % 64))) = (wd (ins X k) (k / 64) : Int) := by
  rw [go_one_shl, u64_or_nat _ _ (wd_lt _ _) (pow_lt64 _), ins_wd, if_pos rfl]
theorem go_remove (X k : Nat) : bits .andNot .u64 (wd X (k / 64) : Int) (IntKind.u64.wrap (2 ^ (k % 64))) = (wd (del X k) (k / 64) : Int) := by
  rw [go_one_shl, u64_andNot_nat _ _ (wd_lt _ _) (pow_lt64 _), del_wd, if_pos rfl]
theorem go_has (X k : Nat) : (bits .and .u64 ((wd X (k / 64) : Int) / 2 ^ (k % 64)) 1 == 1) = X.testBit k := by
  have e : ((wd X (k / 64) : Int) / 2 ^ (k % 64)) = ((wd X (k / 64) / 2 ^ (k % 64) : Nat) : Int) := by simp
  have h1 : wd X (k / 64) / 2 ^ (k % 64) < 18446744073709551616 := Nat.lt_of_le_of_lt (Nat.div_le_self _ _) (wd_lt _ _)
  have this : bits .and .u64 ((wd X (k / 64) / 2 ^ (k % 64) : Nat) : Int) 1 = ((wd X (k / 64) / 2 ^ (k % 64) &&& 1 : Nat) : Int) := u64_and_nat _ 1 h1 (by omega)
  rw [e, this, nat_mask1, testBit_wd X k, Nat.testBit_eq_decide_div_mod_eq]
  generalize wd X (k / 64) / 2 ^ (k % 64) = q
  rw [Bool.eq_iff_iff, beq_iff_eq, decide_eq_true_eq]
  omega
/-- X without Y -/
def diff (X Y : Nat) : Nat := X ^^^ (X &&& Y)
theorem diff_testBit (X Y j : Nat) : (diff X Y).testBit j = (X.testBit j && !Y.testBit j) := by
  unfold diff; rw [Nat.testBit_xor, Nat.testBit_and]; cases X.testBit j <;> simp
theorem diff_lt {X n : Nat} (hX : X < 2 ^ n) (Y : Nat) : diff X Y < 2 ^ n := Nat.xor_lt_two_pow hX (Nat.lt_of_le_of_lt Nat.and_le_left hX)
theorem diff_wd (X Y k : Nat) : wd (diff X Y) k = wd X k &&& (18446744073709551615 - wd Y k) := by
  apply Nat.eq_of_testBit_eq
  intro j
  rw [wd_testBit, diff_testBit, andNot_testBit _ _ _ (wd_lt _ _), wd_testBit, wd_testBit]
  by_cases h : j < 64 <;> simp [h]
theorem go_diff (X Y k : Nat) : bits .andNot .u64 (wd X k : Int) (wd Y k : Int) = (wd (diff X Y) k : Int) := by
  rw [u64_andNot_nat _ _ (wd_lt _ _) (wd_lt _ _), diff_wd]
theorem eq_zero_of_wd {X n : Nat} (hX : X < 2 ^ n) (h : ∀ k, k < nw n → wd X k = 0) : X = 0 := by
  apply eq_of_wd
  intro k
  rcases Nat.lt_or_ge k (nw n) with hk | hk
  · rw [h k hk]; simp [wd]
  · rw [wd_zero hX hk]; simp [wd]
/-- is each of X in Y? -/
def withinB (X Y : Nat) : Bool := diff X Y == 0
theorem withinB_iff (X Y : Nat) : withinB X Y = true ↔ ∀ i, X.testBit i = true → Y.testBit i = true := by
  unfold withinB
  rw [beq_iff_eq]
  constructor
  · intro h i hi
    have := diff_testBit X Y i
    rw [h] at this
    simp [hi] at this
    exact this
  · intro h
    apply Nat.eq_of_testBit_eq
    intro i
    rw [diff_testBit]
    have := h i
    cases hx : X.testBit i <;> simp_all
#print axioms go_has
#print axioms withinB_iff
end Go.Proofs.YtfpggeiphbekoaaDoor
