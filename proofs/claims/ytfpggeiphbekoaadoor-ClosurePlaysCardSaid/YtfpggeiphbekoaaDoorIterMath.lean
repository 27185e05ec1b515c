/- What an iterator over a set tells: plain lemmas. -/
import Derived.Test.YtfpggeiphbekoaaDoorBitsList
import Derived.Lib.TrailingZeros
namespace Go.Proofs.YtfpggeiphbekoaaDoor

/-- the numbers of X below m that are not below i -/
def preX (i : Int) (X m : Nat) : List Nat := (List.range m).filter fun j => decide (i ≤ (j : Int)) && X.testBit j
theorem preX_succ (i : Int) (X m : Nat) : preX i X (m + 1) = preX i X m ++ if (decide (i ≤ (m : Int)) && X.testBit m) = true then [m] else [] := by
  unfold preX
  rw [List.range_succ, List.filter_append]
  congr 1
  cases h : (decide (i ≤ (m : Int)) && X.testBit m) <;> simp [h]
theorem preX_skip {i : Int} {X m m' : Nat} (h : m ≤ m') (hn : ∀ j, m ≤ j → j < m' → (decide (i ≤ (j : Int)) && X.testBit j) = false) : preX i X m' = preX i X m := by
  induction m' with
  | zero => obtain rfl : m = 0 := by omega
            rfl
  | succ m' ih =>
    by_cases e : m = m' + 1
    · rw [e]
    · rw [preX_succ, hn m' (by omega) (by omega), ih (by omega) fun j h1 h2 => hn j h1 (by omega)]; simp
theorem preX_hit {i : Int} {X m x : Nat} (h : m ≤ x) (hx : (decide (i ≤ (x : Int)) && X.testBit x) = true) (hn : ∀ j, m ≤ j → j < x → (decide (i ≤ (j : Int)) && X.testBit j) = false) :
    preX i X (x + 1) = preX i X m ++ [x] := by
  rw [preX_succ, hx, preX_skip h hn]; simp
theorem preX_prefix (i : Int) (X : Nat) {m n : Nat} (h : m ≤ n) : preX i X m <+: preX i X n := by
  induction n with
  | zero => obtain rfl : m = 0 := by omega
            exact List.prefix_refl _
  | succ n ih =>
    by_cases e : m = n + 1
    · rw [e]; exact List.prefix_refl _
    · rw [preX_succ]; exact (ih (by omega)).trans (List.prefix_append _ _)
theorem preX_length_le (i : Int) (X m : Nat) : (preX i X m).length ≤ m := by
  have := List.length_filter_le (fun j : Nat => decide (i ≤ (j : Int)) && X.testBit j) (List.range m)
  simpa [preX] using this
theorem preX_nil {i : Int} {X m : Nat} (h : ∀ j, j < m → ¬ i ≤ (j : Int)) : preX i X m = [] := by
  unfold preX
  rw [List.filter_eq_nil_iff]
  intro j hj
  rw [List.mem_range] at hj
  simp [h j hj]
theorem preX_zero_int (X n : Nat) : (preX 0 X n).map (fun k : Nat => (k : Int)) = allX n X := by
  have e : preX 0 X n = (List.range n).filter X.testBit := by
    unfold preX
    apply List.filter_congr
    intro j _
    simp
  rw [e]; rfl
theorem preX_over {i : Int} {X n m : Nat} (hX : X < 2 ^ n) (h : n ≤ m) : preX i X m = preX i X n :=
  preX_skip h fun j h1 _ => by rw [testBit_ge hX h1]; simp
theorem nextX_preX (n X : Nat) (i : Int) : nextX n X i = (preX i X n).head? := by
  unfold nextX preX
  rw [List.head?_filter]

/-- u without its lowest bit -/
theorem and_pred (k m : Nat) : 2 ^ k * (2 * m + 1) &&& (2 ^ k * (2 * m + 1) - 1) = 2 ^ (k + 1) * m := by
  have hp : 0 < 2 ^ k := Nat.two_pow_pos k
  have e1 : 2 ^ k * (2 * m + 1) = 2 ^ (k + 1) * m + 2 ^ k := by rw [Nat.pow_succ, Nat.mul_add, Nat.mul_one, ← Nat.mul_assoc]
  have e2 : 2 ^ k * (2 * m + 1) - 1 = 2 ^ (k + 1) * m + (2 ^ k - 1) := by rw [e1]; omega
  rw [e2, e1]
  apply Nat.eq_of_testBit_eq
  intro j
  have h1 : 2 ^ k < 2 ^ (k + 1) := Nat.pow_lt_pow_right (by omega) (by omega)
  rw [Nat.testBit_and, Nat.testBit_two_pow_mul_add m h1, Nat.testBit_two_pow_mul_add m (show 2 ^ k - 1 < 2 ^ (k + 1) by omega)]
  have := Nat.testBit_two_pow_mul_add m (show 0 < 2 ^ (k + 1) by omega) j
  rw [Nat.add_zero] at this
  rw [this]
  by_cases hj : j < k + 1
  · simp only [hj, if_true, Nat.testBit_two_pow, Nat.testBit_two_pow_sub_one, Nat.zero_testBit]
    by_cases e : k = j
    · subst e; simp
    · simp [e]
  · simp [hj]
theorem ctz_spec {u : Nat} (h0 : u ≠ 0) (h : u < 18446744073709551616) : Lib.ctz 64 u < 64 ∧ u.testBit (Lib.ctz 64 u) = true ∧ (∀ j, j < Lib.ctz 64 u → u.testBit j = false) ∧
    ∀ j, (u &&& (u - 1)).testBit j = (u.testBit j && !decide (j = Lib.ctz 64 u)) := by
  obtain ⟨m, hm, hk⟩ := Lib.ctzFrom_spec 64 u (by omega) (by omega)
  have e : Lib.ctz 64 u = Lib.ctzFrom 64 u := by simp [Lib.ctz, h0]
  rw [e]
  generalize Lib.ctzFrom 64 u = k at *
  subst hm
  have e1 : 2 ^ k * (2 * m + 1) = 2 ^ (k + 1) * m + 2 ^ k := by rw [Nat.pow_succ, Nat.mul_add, Nat.mul_one, ← Nat.mul_assoc]
  have h1 : 2 ^ k < 2 ^ (k + 1) := Nat.pow_lt_pow_right (by omega) (by omega)
  have hb : ∀ j, (2 ^ k * (2 * m + 1)).testBit j = if j < k + 1 then decide (k = j) else m.testBit (j - (k + 1)) := by
    intro j
    rw [e1, Nat.testBit_two_pow_mul_add m h1, Nat.testBit_two_pow]
  refine ⟨hk, by rw [hb]; simp, fun j hj => by rw [hb, if_pos (by omega)]; simp; omega, fun j => ?_⟩
  rw [and_pred, hb]
  have := Nat.testBit_two_pow_mul_add m (show 0 < 2 ^ (k + 1) by omega) j
  rw [Nat.add_zero] at this
  rw [this]
  by_cases hj : j < k + 1
  · simp only [hj, if_true, Nat.zero_testBit]
    by_cases e : k = j
    · subst e; simp
    · simp [e]
  · have : j ≠ k := by omega
    simp [hj, this]
/-- what of word k, from number m on, is still to come -/
def restU (i : Int) (X k m u : Nat) : Prop := u < 18446744073709551616 ∧ ∀ b, b < 64 → u.testBit b = (decide (m ≤ 64 * k + b) && (decide (i ≤ ((64 * k + b : Nat) : Int)) && X.testBit (64 * k + b)))
theorem testBit_big {u b : Nat} (h : u < 18446744073709551616) (hb : 64 ≤ b) : u.testBit b = false :=
  Nat.testBit_lt_two_pow (Nat.lt_of_lt_of_le h (Nat.pow_le_pow_right (n := 2) (by omega) hb))
theorem restU_full {i : Int} {X k : Nat} (h : i ≤ ((64 * k : Nat) : Int)) : restU i X k (64 * k) (wd X k) := by
  refine ⟨wd_lt _ _, fun b hb => ?_⟩
  rw [wd_testBit]
  have h1 : i ≤ ((64 * k + b : Nat) : Int) := by omega
  simp only [hb, decide_true, Bool.true_and, h1, Nat.le_add_right]
theorem restU_mask {i : Int} {X k c : Nat} (hk : k = c / 64) (hc : (c : Int) = max 0 i) : restU i X k (64 * k) (wd X k &&& (18446744073709551616 - 2 ^ (c % 64))) := by
  refine ⟨Nat.lt_of_le_of_lt Nat.and_le_left (wd_lt _ _), fun b hb => ?_⟩
  have hp : 2 ^ (c % 64) < 2 ^ 64 := Nat.pow_lt_pow_right (by omega) (by omega)
  have hp0 : 0 < 2 ^ (c % 64) := Nat.two_pow_pos _
  rw [Nat.testBit_and, wd_testBit, show 18446744073709551616 - 2 ^ (c % 64) = 2 ^ 64 - ((2 ^ (c % 64) - 1) + 1) by omega, Nat.testBit_two_pow_sub_succ (by omega), Nat.testBit_two_pow_sub_one]
  have e : (!decide (b < c % 64)) = decide (i ≤ ((64 * k + b : Nat) : Int)) := by
    rw [Bool.eq_iff_iff]; simp; omega
  simp only [hb, decide_true, Bool.true_and, Nat.le_add_right, e]
  cases X.testBit (64 * k + b) <;> simp
theorem restU_zero {i : Int} {X k m : Nat} (h : restU i X k m 0) (hm : m ≤ 64 * (k + 1)) (hm' : 64 * k ≤ m) : preX i X (64 * (k + 1)) = preX i X m := by
  apply preX_skip hm
  intro j h1 h2
  have := h.2 (j - 64 * k) (by omega)
  rw [show 64 * k + (j - 64 * k) = j by omega] at this
  simp only [Nat.zero_testBit, h1, decide_true, Bool.true_and] at this
  exact this.symm
theorem restU_next {i : Int} {X k m u : Nat} (h : restU i X k m u) (h0 : u ≠ 0) (hm' : 64 * k ≤ m) : preX i X (64 * k + Lib.ctz 64 u + 1) = preX i X m ++ [64 * k + Lib.ctz 64 u] ∧ m ≤ 64 * k + Lib.ctz 64 u + 1 ∧ Lib.ctz 64 u < 64 ∧
    restU i X k (64 * k + Lib.ctz 64 u + 1) (u &&& (u - 1)) ∧ u &&& (u - 1) < u ∧ X.testBit (64 * k + Lib.ctz 64 u) = true := by
  obtain ⟨h1, h2, h3, h4⟩ := ctz_spec h0 h.1
  generalize Lib.ctz 64 u = c at *
  have hc := h.2 c h1
  rw [h2] at hc
  have hc' := hc.symm
  simp only [Bool.and_eq_true, decide_eq_true_eq] at hc'
  refine ⟨preX_hit hc'.1 (by rw [decide_eq_true hc'.2.1, hc'.2.2]; rfl) fun j h5 h6 => ?_, by omega, h1, ⟨Nat.lt_of_le_of_lt Nat.and_le_left h.1, fun b hb => ?_⟩, ?_, hc'.2.2⟩
  · have := h.2 (j - 64 * k) (by omega)
    rw [show 64 * k + (j - 64 * k) = j by omega, h3 _ (by omega)] at this
    simp only [h5, decide_true, Bool.true_and] at this
    exact this.symm
  · rw [h4, h.2 b hb]
    by_cases hbc : b < c
    · have := h.2 b hb
      rw [h3 b hbc] at this
      rw [← this]
      have : ¬ (64 * k + c + 1 ≤ 64 * k + b) := by omega
      simp [this]
    · by_cases e : b = c
      · subst e
        have : ¬ (64 * k + b + 1 ≤ 64 * k + b) := by omega
        simp [this]
      · have e1 : decide (m ≤ 64 * k + b) = true := by simp; omega
        have e2 : decide (64 * k + c + 1 ≤ 64 * k + b) = true := by simp; omega
        rw [e1, e2]; simp [e]
  · have : u &&& (u - 1) ≤ u - 1 := Nat.and_le_right
    omega
theorem go_mask (x c : Nat) (hx : x < 18446744073709551616) : bits .and .u64 (x : Int) (IntKind.u64.wrap (18446744073709551615 * 2 ^ (c % 64))) = ((x &&& (18446744073709551616 - 2 ^ (c % 64)) : Nat) : Int) := by
  have hp : 2 ^ (c % 64) < 2 ^ 64 := Nat.pow_lt_pow_right (by omega) (by omega)
  have hp0 : 0 < 2 ^ (c % 64) := Nat.two_pow_pos _
  have e : ((2 : Int) ^ (c % 64)) = ((2 ^ (c % 64) : Nat) : Int) := by simp
  have e2 : IntKind.u64.wrap (18446744073709551615 * 2 ^ (c % 64)) = ((18446744073709551616 - 2 ^ (c % 64) : Nat) : Int) := by
    rw [IntKind.wrap_u64, e]
    generalize 2 ^ (c % 64) = q at *
    omega
  rw [e2]
  exact u64_and_nat _ _ hx (by omega)
theorem go_pred (u : Nat) (hu : u < 18446744073709551616) (h0 : u ≠ 0) : bits .and .u64 (u : Int) (IntKind.u64.wrap ((u : Int) - 1)) = ((u &&& (u - 1) : Nat) : Int) := by
  rw [show IntKind.u64.wrap ((u : Int) - 1) = ((u - 1 : Nat) : Int) by rw [IntKind.wrap_u64]; omega]
  exact u64_and_nat _ _ hu (by omega)
#print axioms ctz_spec
#print axioms restU_next
end Go.Proofs.YtfpggeiphbekoaaDoor
