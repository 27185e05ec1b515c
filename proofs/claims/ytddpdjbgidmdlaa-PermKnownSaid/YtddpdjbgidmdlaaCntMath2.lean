/- Masks: a bit more, a bit less; a bound on how many. Plain. -/
import Derived.Test.YtddpdjbgidmdlaaCntMath
namespace Go.Proofs.Ytddpdjbgidmdlaa
open Go.RowKit
set_option linter.unusedVariables false

theorem parts (t j : Nat) : t = 2 ^ j * (t / 2 ^ j) + t % 2 ^ j := (Nat.div_add_mod _ _).symm
theorem tb_parts (a r j k : Nat) (h : r < 2 ^ j) : (2 ^ j * a + r).testBit k = if k < j then r.testBit k else a.testBit (k - j) := Nat.testBit_two_pow_mul_add a h k
theorem bit_odd {t j : Nat} : t.testBit j = decide (t / 2 ^ j % 2 = 1) := Nat.testBit_eq_decide_div_mod_eq
theorem even_succ (a k : Nat) (h : a % 2 = 0) : (a + 1).testBit k = (a.testBit k || decide (k = 0)) := by
  cases k with
  | zero => simp [Nat.testBit_zero]; omega
  | succ k =>
    rw [Nat.testBit_succ, Nat.testBit_succ, show (a + 1) / 2 = a / 2 by omega]
    simp
theorem add_bit {s i : Nat} (h : s.testBit i = false) (j : Nat) : (s + 2 ^ i).testBit j = (s.testBit j || decide (j = i)) := by
  have hp : 0 < 2 ^ i := Nat.pos_of_ne_zero (by simp)
  have hr : s % 2 ^ i < 2 ^ i := Nat.mod_lt _ hp
  have he : s / 2 ^ i % 2 = 0 := by
    rw [bit_odd] at h
    have := of_decide_eq_false h; omega
  have e1 : s + 2 ^ i = 2 ^ i * (s / 2 ^ i + 1) + s % 2 ^ i := by
    have := parts s i
    rw [Nat.mul_add, Nat.mul_one]; omega
  have e2 : s.testBit j = (2 ^ i * (s / 2 ^ i) + s % 2 ^ i).testBit j := by rw [← parts]
  rw [e1, e2, tb_parts _ _ _ _ hr, tb_parts _ _ _ _ hr]
  by_cases hj : j < i
  · rw [if_pos hj, if_pos hj]; simp; omega
  · rw [if_neg hj, if_neg hj, even_succ _ _ he]
    congr 1
    rw [decide_eq_decide]; omega
theorem or_bit {s i : Nat} (h : s.testBit i = false) : s ||| 2 ^ i = s + 2 ^ i := by
  apply Nat.eq_of_testBit_eq
  intro j
  rw [add_bit h, Nat.testBit_or, Nat.testBit_two_pow]
  congr 1
  rw [decide_eq_decide]; omega
theorem sub_bit {t j : Nat} (h : t.testBit j = true) : (t - 2 ^ j).testBit j = false := by
  have hp : 0 < 2 ^ j := Nat.pos_of_ne_zero (by simp)
  have hr : t % 2 ^ j < 2 ^ j := Nat.mod_lt _ hp
  rw [bit_odd] at h
  have ho := of_decide_eq_true h
  have e1 : t - 2 ^ j = 2 ^ j * (t / 2 ^ j - 1) + t % 2 ^ j := by
    obtain ⟨a, ha⟩ : ∃ a, t / 2 ^ j = a + 1 := by
      generalize t / 2 ^ j = z at ho
      exact ⟨z - 1, by omega⟩
    have := parts t j
    rw [ha, Nat.mul_add, Nat.mul_one] at this
    rw [ha, Nat.add_sub_cancel]; omega
  rw [e1, tb_parts _ _ _ _ hr, if_neg (by omega), Nat.sub_self, Nat.testBit_zero]
  simp; omega
theorem sub_add {t j : Nat} (h : t.testBit j = true) : t - 2 ^ j + 2 ^ j = t := by have := bit_le h; omega
/-- the mask that gets of s by i -/
theorem okJ_iff {M : Nat → Nat} {t s i : Nat} : (okJ M t i && decide (t - 2 ^ i = s)) = true ↔ t = s + 2 ^ i ∧ s.testBit i = false ∧ inM (M i) s = true := by
  unfold okJ
  simp only [Bool.and_eq_true, decide_eq_true_eq]
  constructor
  · rintro ⟨⟨h1, h2⟩, h3⟩
    subst h3
    exact ⟨(sub_add h1).symm, sub_bit h1, h2⟩
  · rintro ⟨rfl, h1, h2⟩
    refine ⟨⟨?_, ?_⟩, by omega⟩
    · rw [add_bit h1]; simp
    · rw [Nat.add_sub_cancel]; exact h2
def pop (n t : Nat) : Nat := sumR n fun j => if t.testBit j then 1 else 0
theorem pop_sub {n t j : Nat} (hj : j < n) (h : t.testBit j = true) : pop n (t - 2 ^ j) + 1 = pop n t := by
  have := sumR_one (n := n) (i := j) (f := fun k => if t.testBit k then 1 else 0) (g := fun k => if (t - 2 ^ j).testBit k then 1 else 0) hj (fun k hk hkj => by
    have h1 := add_bit (sub_bit h) k
    rw [sub_add h] at h1
    have h2 : decide (k = j) = false := decide_eq_false hkj
    rw [h2, Bool.or_false] at h1
    simp only [h1])
  simp only [h, sub_bit h, if_true, Bool.false_eq_true, if_false] at this
  unfold pop
  omega
theorem pop_le (n t : Nat) : pop n t ≤ n := by
  have := sumR_le (n := n) (f := fun j => if t.testBit j then 1 else 0) (g := fun _ => 1) (fun j hj => by split <;> omega)
  have h2 : sumR n (fun _ => 1) = n := by
    induction n with
    | zero => rfl
    | succ n ih => rw [sumR_succ, ih (sumR_le fun j hj => by split <;> omega)]
  unfold pop
  omega
theorem sumR_mul (n c : Nat) (f : Nat → Nat) : sumR n (fun j => f j * c) = sumR n f * c := by
  induction n with
  | zero => simp [sumR]
  | succ n ih => rw [sumR_succ, sumR_succ, ih, Nat.add_mul]
theorem cnt_le {n : Nat} {M : Nat → Nat} : ∀ t, cnt n M t ≤ fact (pop n t) := by
  intro t
  induction t using Nat.strongRecOn with
  | _ t ih =>
    by_cases h0 : t = 0
    · subst h0; rw [cnt_zero]; exact fact_pos _
    · rw [cnt_pos (by omega)]
      have h1 : sumR n (fun j => if okJ M t j then cnt n M (t - 2 ^ j) else 0) ≤ sumR n (fun j => (if t.testBit j then 1 else 0) * fact (pop n t - 1)) := by
        refine sumR_le fun j hj => ?_
        by_cases hb : okJ M t j = true
        · have hbit : t.testBit j = true := by unfold okJ at hb; simp only [Bool.and_eq_true] at hb; exact hb.1
          rw [if_pos hb, if_pos hbit, Nat.one_mul]
          have h3 : 0 < 2 ^ j := Nat.pos_of_ne_zero (by simp)
          have h4 := bit_le hbit
          have h5 := pop_sub hj hbit
          have h6 := ih (t - 2 ^ j) (by omega)
          rw [show pop n t - 1 = pop n (t - 2 ^ j) by omega]
          exact h6
        · rw [if_neg hb]; exact Nat.zero_le _
      rw [sumR_mul] at h1
      have h2 : sumR n (fun j => if t.testBit j then 1 else 0) = pop n t := rfl
      rw [h2] at h1
      cases hp : pop n t with
      | zero => rw [hp] at h1; rw [Nat.zero_mul] at h1; exact Nat.le_trans h1 (Nat.zero_le _)
      | succ p =>
        rw [hp, Nat.add_sub_cancel] at h1
        show _ ≤ fact p * (p + 1)
        rw [Nat.mul_comm]; exact h1
theorem cnt_bound {n : Nat} {M : Nat → Nat} (h : n ≤ 16) (t : Nat) : cnt n M t ≤ 20922789888000 :=
  Nat.le_trans (cnt_le t) (Nat.le_trans (fact_mono' (Nat.le_trans (pop_le n t) h)) (by decide))
#print axioms cnt_bound
end Go.Proofs.Ytddpdjbgidmdlaa
