/- How many orders: masks, and sums over them. Plain. -/
import Derived.Test.YtddpdjbgidmdlaaRankMath
import Derived.Laws.BitsAllLaws
namespace Go.Proofs.Ytddpdjbgidmdlaa
open Go.RowKit
set_option linter.unusedVariables false

/-! bits of Go's int, for small numbers -/
theorem i64_or_nat (a b : Nat) (ha : a < 4294967296) (hb : b < 4294967296) : bits .or .i64 (a : Int) (b : Int) = ((a ||| b : Nat) : Int) := by
  have hx : a ||| b < 2 ^ 32 := Nat.or_lt_two_pow (by omega) (by omega)
  show IntKind.i64.wrap ((BitVec.ofInt 64 (a : Int) ||| BitVec.ofInt 64 (b : Int)).toNat : Int) = _
  rw [BitVec.toNat_or, ofInt_u64 a (by omega), ofInt_u64 b (by omega), IntKind.wrap_i64]
  omega
theorem i64_and_nat (a b : Nat) (ha : a < 4294967296) (hb : b < 4294967296) : bits .and .i64 (a : Int) (b : Int) = ((a &&& b : Nat) : Int) := by
  have hx : a &&& b < 2 ^ 32 := Nat.and_lt_two_pow _ (by omega)
  show IntKind.i64.wrap ((BitVec.ofInt 64 (a : Int) &&& BitVec.ofInt 64 (b : Int)).toNat : Int) = _
  rw [BitVec.toNat_and, ofInt_u64 a (by omega), ofInt_u64 b (by omega), IntKind.wrap_i64]
  omega
theorem i64_andNot_nat (a b : Nat) (ha : a < 4294967296) (hb : b < 4294967296) : bits .andNot .i64 (a : Int) (b : Int) = ((a &&& (18446744073709551615 - b) : Nat) : Int) := by
  have hx : a &&& (18446744073709551615 - b) ≤ a := Nat.and_le_left
  show IntKind.i64.wrap ((BitVec.ofInt 64 (a : Int) &&& ~~~ BitVec.ofInt 64 (b : Int)).toNat : Int) = _
  rw [BitVec.toNat_and, BitVec.toNat_not, ofInt_u64 a (by omega), ofInt_u64 b (by omega), IntKind.wrap_i64]
  have : 2 ^ 64 - 1 - b = 18446744073709551615 - b := rfl
  rw [this]
  omega
/-- is a mask within another one? -/
def inM (a b : Nat) : Bool := (a &&& (18446744073709551615 - b)) == 0
theorem go_inM (a b : Nat) (ha : a < 4294967296) (hb : b < 4294967296) : (bits .andNot .i64 (a : Int) (b : Int) == 0) = inM a b := by
  rw [i64_andNot_nat a b ha hb, Bool.eq_iff_iff, beq_iff_eq]
  unfold inM
  rw [beq_iff_eq]
  omega
theorem inM_iff {a b : Nat} (ha : a < 4294967296) (hb : b < 4294967296) : inM a b = true ↔ ∀ i, a.testBit i = true → b.testBit i = true := by
  have hnot : ∀ i, i < 64 → (18446744073709551615 - b).testBit i = !b.testBit i := fun i hi => by
    have := Nat.testBit_two_pow_sub_succ (n := 64) (x := b) (by omega) i
    simp only [show 2 ^ 64 - (b + 1) = 18446744073709551615 - b by omega] at this
    rw [this]; simp [hi]
  have hlt : ∀ i, a.testBit i = true → i < 32 := fun i hi => by
    by_cases h : i < 32
    · exact h
    · have h2 : a < 2 ^ i := Nat.lt_of_lt_of_le ha (show 4294967296 ≤ 2 ^ i from Nat.pow_le_pow_right (n := 2) (by omega) (show 32 ≤ i by omega))
      rw [Nat.testBit_lt_two_pow h2] at hi
      cases hi
  unfold inM
  rw [beq_iff_eq]
  constructor
  · intro h i hi
    have h1 := congrArg (fun x => Nat.testBit x i) h
    simp only [Nat.testBit_and, Nat.zero_testBit] at h1
    rw [hi, hnot i (by have := hlt i hi; omega)] at h1
    cases hb' : b.testBit i with
    | true => rfl
    | false => rw [hb'] at h1; cases h1
  · intro h
    apply Nat.eq_of_testBit_eq
    intro i
    rw [Nat.testBit_and, Nat.zero_testBit]
    cases hi : a.testBit i with
    | false => rfl
    | true =>
      rw [hnot i (by have := hlt i hi; omega), h i hi]; rfl
theorem go_bit (s i : Nat) : (bits .and .i64 (((s / 2 ^ i : Nat)) : Int) 1 == 0) = !s.testBit i ∨ 4294967296 ≤ s := by
  by_cases h : s < 4294967296
  · left
    have h1 : s / 2 ^ i < 4294967296 := Nat.lt_of_le_of_lt (Nat.div_le_self _ _) h
    have : bits .and .i64 ((s / 2 ^ i : Nat) : Int) 1 = ((s / 2 ^ i &&& 1 : Nat) : Int) := i64_and_nat _ 1 h1 (by omega)
    have e : s / 2 ^ i &&& 1 = s / 2 ^ i % 2 := Nat.and_one_is_mod _
    rw [this, e, Nat.testBit_eq_decide_div_mod_eq, Bool.eq_iff_iff, beq_iff_eq]
    generalize s / 2 ^ i = z
    cases hz : decide (z % 2 = 1) with
    | true => have := of_decide_eq_true hz; simp; omega
    | false => have := of_decide_eq_false hz; simp; omega
  · exact .inr (by omega)
/-! sums -/
def sumR (n : Nat) (f : Nat → Nat) : Nat := ((List.range n).map f).sum
theorem sumR_succ (n : Nat) (f : Nat → Nat) : sumR (n + 1) f = sumR n f + f n := by simp [sumR, List.range_succ]
theorem sumR_congr {n : Nat} {f g : Nat → Nat} (h : ∀ j, j < n → f j = g j) : sumR n f = sumR n g := by
  induction n with
  | zero => rfl
  | succ n ih => rw [sumR_succ, sumR_succ, ih fun j hj => h j (by omega), h n (by omega)]
theorem sumR_le {n : Nat} {f g : Nat → Nat} (h : ∀ j, j < n → f j ≤ g j) : sumR n f ≤ sumR n g := by
  induction n with
  | zero => exact Nat.le_refl _
  | succ n ih => rw [sumR_succ, sumR_succ]; exact Nat.add_le_add (ih fun j hj => h j (by omega)) (h n (by omega))
theorem sumR_zero {n : Nat} {f : Nat → Nat} (h : ∀ j, j < n → f j = 0) : sumR n f = 0 := by
  induction n with
  | zero => rfl
  | succ n ih => rw [sumR_succ, ih fun j hj => h j (by omega), h n (by omega)]
theorem sumR_one {n i : Nat} {f g : Nat → Nat} (hi : i < n) (h : ∀ j, j < n → j ≠ i → f j = g j) : sumR n f + g i = sumR n g + f i := by
  induction n with
  | zero => omega
  | succ n ih =>
    rw [sumR_succ, sumR_succ]
    by_cases e : i = n
    · subst e
      rw [sumR_congr fun j hj => h j (by omega) (by omega)]
      omega
    · have := ih (by omega) fun j hj hji => h j (by omega) hji
      have := h n (by omega) (fun e2 => e e2.symm)
      omega
/-! how many rows of a mask's numbers respect masks -/
def cntF (n : Nat) (M : Nat → Nat) : Nat → Nat → Nat
  | 0, t => if t = 0 then 1 else 0
  | f + 1, t => if t = 0 then 1 else sumR n fun j => if t.testBit j && inM (M j) (t - 2 ^ j) then cntF n M f (t - 2 ^ j) else 0
theorem bit_le {t j : Nat} (h : t.testBit j = true) : 2 ^ j ≤ t := Nat.ge_two_pow_of_testBit h
theorem cntF_fuel {n : Nat} {M : Nat → Nat} : ∀ {f t : Nat}, t ≤ f → cntF n M f t = cntF n M t t := by
  intro f
  induction f using Nat.strongRecOn with
  | _ f ih =>
    intro t ht
    cases f with
    | zero => obtain rfl : t = 0 := by omega
              rfl
    | succ f =>
      cases t with
      | zero => rfl
      | succ t =>
        show (if t + 1 = 0 then 1 else sumR n fun j => if (t + 1).testBit j && inM (M j) (t + 1 - 2 ^ j) then cntF n M f (t + 1 - 2 ^ j) else 0) = (if t + 1 = 0 then 1 else sumR n fun j => if (t + 1).testBit j && inM (M j) (t + 1 - 2 ^ j) then cntF n M t (t + 1 - 2 ^ j) else 0)
        rw [if_neg (by omega), if_neg (by omega)]
        refine sumR_congr fun j hj => ?_
        by_cases hb : ((t + 1).testBit j && inM (M j) (t + 1 - 2 ^ j)) = true
        · rw [if_pos hb, if_pos hb]
          have h1 : (t + 1).testBit j = true := by simp only [Bool.and_eq_true] at hb; exact hb.1
          have h2 := bit_le h1
          have h3 : 0 < 2 ^ j := Nat.pos_of_ne_zero (by simp)
          rw [ih f (by omega) (t := t + 1 - 2 ^ j) (by omega)]
          rcases Nat.lt_or_ge t f with h4 | h4
          · rw [ih t (by omega) (t := t + 1 - 2 ^ j) (by omega)]
          · obtain rfl : t = f := by omega
            rw [ih t (by omega) (t := t + 1 - 2 ^ j) (by omega)]
        · rw [if_neg hb, if_neg hb]
def cnt (n : Nat) (M : Nat → Nat) (t : Nat) : Nat := cntF n M t t
theorem cnt_zero (n : Nat) (M : Nat → Nat) : cnt n M 0 = 1 := rfl
def okJ (M : Nat → Nat) (t j : Nat) : Bool := t.testBit j && inM (M j) (t - 2 ^ j)
theorem cnt_pos {n : Nat} {M : Nat → Nat} {t : Nat} (h : 0 < t) : cnt n M t = sumR n fun j => if okJ M t j then cnt n M (t - 2 ^ j) else 0 := by
  cases t with
  | zero => omega
  | succ t =>
    show (if t + 1 = 0 then 1 else sumR n fun j => if (t + 1).testBit j && inM (M j) (t + 1 - 2 ^ j) then cntF n M t (t + 1 - 2 ^ j) else 0) = _
    rw [if_neg (by omega)]
    refine sumR_congr fun j hj => ?_
    unfold okJ
    by_cases hb : ((t + 1).testBit j && inM (M j) (t + 1 - 2 ^ j)) = true
    · rw [if_pos hb, if_pos hb]
      have h1 : (t + 1).testBit j = true := by simp only [Bool.and_eq_true] at hb; exact hb.1
      have h3 : 0 < 2 ^ j := Nat.pos_of_ne_zero (by simp)
      exact cntF_fuel (by omega)
    · rw [if_neg hb, if_neg hb]
/-- what a mask has got from those that have been gone through: all below s, and of s those below i -/
def got (n : Nat) (M : Nat → Nat) (t s i : Nat) : Nat := (if t = 0 then 1 else 0) + sumR n fun j => if okJ M t j && decide (t - 2 ^ j < s ∨ (t - 2 ^ j = s ∧ j < i)) then cnt n M (t - 2 ^ j) else 0
theorem got_start (n : Nat) (M : Nat → Nat) (t : Nat) : got n M t 0 0 = if t = 0 then 1 else 0 := by
  unfold got
  rw [sumR_zero fun j hj => by simp, Nat.add_zero]
theorem got_done {n : Nat} {M : Nat → Nat} {t s i : Nat} (h : t ≤ s) : got n M t s i = cnt n M t := by
  unfold got
  by_cases h0 : t = 0
  · subst h0
    rw [if_pos rfl, sumR_zero fun j hj => by simp [okJ]]
    rfl
  · rw [if_neg h0, Nat.zero_add, cnt_pos (by omega)]
    refine sumR_congr fun j hj => ?_
    by_cases hb : okJ M t j = true
    · have h1 : t.testBit j = true := by unfold okJ at hb; simp only [Bool.and_eq_true] at hb; exact hb.1
      have h3 : 0 < 2 ^ j := Nat.pos_of_ne_zero (by simp)
      rw [hb, if_pos rfl, if_pos]
      simp; omega
    · simp [hb]
theorem got_le {n : Nat} {M : Nat → Nat} {t s i : Nat} : got n M t s i ≤ cnt n M t := by
  rw [← got_done (Nat.le_refl t) (i := 0)]
  unfold got
  refine Nat.add_le_add_left (sumR_le fun j hj => ?_) _
  by_cases hb : okJ M t j = true
  · have h1 : t.testBit j = true := by unfold okJ at hb; simp only [Bool.and_eq_true] at hb; exact hb.1
    have h3 : 0 < 2 ^ j := Nat.pos_of_ne_zero (by simp)
    have h4 := bit_le h1
    rw [hb]
    have : decide (t - 2 ^ j < t ∨ (t - 2 ^ j = t ∧ j < 0)) = true := by simp; omega
    rw [this]
    split <;> simp
  · simp [hb]
theorem got_end {n : Nat} {M : Nat → Nat} {t s : Nat} : got n M t s n = got n M t (s + 1) 0 := by
  unfold got
  congr 1
  refine sumR_congr fun j hj => ?_
  have : decide (t - 2 ^ j < s ∨ t - 2 ^ j = s ∧ j < n) = decide (t - 2 ^ j < s + 1 ∨ t - 2 ^ j = s + 1 ∧ j < 0) := by
    rw [decide_eq_decide]; omega
  rw [this]
/-- the one mask that gets something of s by i -/
theorem got_step {n : Nat} {M : Nat → Nat} {t s i : Nat} (hi : i < n) : got n M t s (i + 1) = got n M t s i + if okJ M t i && decide (t - 2 ^ i = s) then cnt n M s else 0 := by
  unfold got
  have := sumR_one (n := n) (i := i) (f := fun j => if okJ M t j && decide (t - 2 ^ j < s ∨ (t - 2 ^ j = s ∧ j < i + 1)) then cnt n M (t - 2 ^ j) else 0) (g := fun j => if okJ M t j && decide (t - 2 ^ j < s ∨ (t - 2 ^ j = s ∧ j < i)) then cnt n M (t - 2 ^ j) else 0) hi (fun j hj hji => by
    have : decide (t - 2 ^ j < s ∨ t - 2 ^ j = s ∧ j < i + 1) = decide (t - 2 ^ j < s ∨ t - 2 ^ j = s ∧ j < i) := by
      rw [decide_eq_decide]; omega
    simp only [this])
  have e1 : (if okJ M t i && decide (t - 2 ^ i < s ∨ (t - 2 ^ i = s ∧ i < i + 1)) then cnt n M (t - 2 ^ i) else 0) = (if okJ M t i && decide (t - 2 ^ i < s ∨ (t - 2 ^ i = s ∧ i < i)) then cnt n M (t - 2 ^ i) else 0) + if okJ M t i && decide (t - 2 ^ i = s) then cnt n M s else 0 := by
    by_cases hb : okJ M t i = true
    · rw [hb]
      simp only [Bool.true_and, decide_eq_true_eq]
      by_cases h1 : t - 2 ^ i = s
      · rw [if_pos (.inr ⟨h1, by omega⟩), if_neg (by omega), if_pos h1, h1, Nat.zero_add]
      · rw [if_neg h1]
        by_cases h2 : t - 2 ^ i < s
        · rw [if_pos (.inl h2), if_pos (.inl h2)]; rfl
        · rw [if_neg (by omega), if_neg (by omega)]
    · simp [hb]
  omega
#print axioms got_step
end Go.Proofs.Ytddpdjbgidmdlaa
