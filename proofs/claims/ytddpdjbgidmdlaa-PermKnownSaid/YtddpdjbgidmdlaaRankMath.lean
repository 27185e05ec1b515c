/- Ranks of orders: plain lemmas. -/
import Derived.Test.YtddpdjbgidmdlaaPermMath
import Derived.IntWalk
namespace Go.Proofs.Ytddpdjbgidmdlaa

def fact : Nat → Nat
  | 0 => 1
  | n + 1 => fact n * (n + 1)
theorem fact_pos : ∀ n, 0 < fact n
  | 0 => Nat.one_pos
  | n + 1 => Nat.mul_pos (fact_pos n) (Nat.succ_pos n)
theorem fact_mono (n : Nat) : fact n ≤ fact (n + 1) := Nat.le_mul_of_pos_right _ (Nat.succ_pos n)
theorem fact_mono' {n m : Nat} (h : n ≤ m) : fact n ≤ fact m := by
  induction h with
  | refl => exact Nat.le_refl _
  | step _ ih => exact Nat.le_trans ih (fact_mono _)
theorem fact_le {n : Nat} (h : n ≤ 20) : fact n ≤ 2432902008176640000 := Nat.le_trans (fact_mono' h) (by decide)
/-- the rank of a row -/
def rk : List Int → Nat
  | [] => 0
  | x :: t => t.countP (fun y => decide (y < x)) * fact t.length + rk t
theorem rk_lt : ∀ l : List Int, rk l < fact l.length
  | [] => Nat.one_pos
  | x :: t => by
    have h1 := rk_lt t
    have h2 : t.countP (fun y => decide (y < x)) ≤ t.length := List.countP_le_length
    have h3 : t.countP (fun y => decide (y < x)) * fact t.length ≤ t.length * fact t.length := Nat.mul_le_mul_right _ h2
    show _ + rk t < fact t.length * (t.length + 1)
    rw [Nat.mul_add, Nat.mul_one, Nat.mul_comm (fact t.length)]
    omega
theorem drop_gi {l : List Int} {k : Nat} (h : k < l.length) : l.drop k = gi l k :: l.drop (k + 1) := by
  rw [List.drop_eq_getElem_cons h]; simp [gi, h]
/-- how many behind a place are smaller -/
def lessN (p : List Int) (k : Nat) : Nat := (p.drop (k + 1)).countP fun y => decide (y < gi p k)
theorem rk_drop {p : List Int} {k : Nat} (h : k < p.length) : rk (p.drop k) = lessN p k * fact (p.length - 1 - k) + rk (p.drop (k + 1)) := by
  rw [drop_gi h]
  show _ * fact (p.drop (k + 1)).length + _ = _
  rw [List.length_drop]
  have : p.length - (k + 1) = p.length - 1 - k := by omega
  rw [this]; rfl
theorem rk_drop_le {p : List Int} : ∀ {k : Nat}, rk (p.drop k) ≤ rk p
  | 0 => by simp
  | k + 1 => by
    by_cases h : k < p.length
    · have := rk_drop h
      have := rk_drop_le (p := p) (k := k)
      omega
    · rw [List.drop_of_length_le (by omega)]; exact Nat.zero_le _
theorem lessN_le (p : List Int) (k : Nat) : lessN p k ≤ p.length := Nat.le_trans List.countP_le_length (by rw [List.length_drop]; omega)
/-- of the first m behind a place -/
def lessM (p : List Int) (k m : Nat) : Nat := ((p.drop (k + 1)).take m).countP fun y => decide (y < gi p k)
theorem lessM_zero (p : List Int) (k : Nat) : lessM p k 0 = 0 := by simp [lessM]
theorem lessM_succ {p : List Int} {k m : Nat} (h : k + 1 + m < p.length) : lessM p k (m + 1) = lessM p k m + if gi p (k + 1 + m) < gi p k then 1 else 0 := by
  unfold lessM
  have e : (p.drop (k + 1)).take (m + 1) = (p.drop (k + 1)).take m ++ [gi p (k + 1 + m)] := by
    have hm : m < (p.drop (k + 1)).length := by rw [List.length_drop]; omega
    rw [List.take_succ_eq_append_getElem hm]
    have : k + 1 + m < p.length := h
    simp [gi, this]
  rw [e, List.countP_append]
  congr 1
  by_cases h : gi p (k + 1 + m) < gi p k
  · simp [h]
  · simp [h]
theorem lessM_all {p : List Int} {k m : Nat} (h : p.length ≤ k + 1 + m) : lessM p k m = lessN p k := by
  unfold lessM lessN
  rw [List.take_of_length_le (by rw [List.length_drop]; omega)]
theorem lessM_le (p : List Int) (k m : Nat) : lessM p k m ≤ m := Nat.le_trans List.countP_le_length (List.length_take_le _ _)
/-- u64, where nothing runs over -/
theorem u64_in {x : Int} (h0 : 0 ≤ x) (h1 : x < 18446744073709551616) : IntKind.u64.wrap x = x := by
  rw [IntKind.wrap_u64]; omega
#print axioms rk_lt
end Go.Proofs.Ytddpdjbgidmdlaa
