/- The numbers of a set as a list; the next one: plain lemmas. -/
import Derived.Test.YtfpggeiphbekoaaDoorBitsMath
import Derived.Test.YtfpggeiphbekoaaDoorHeap
namespace Go.Proofs.YtfpggeiphbekoaaDoor

/-- the numbers below n in X, rising -/
def allX (n X : Nat) : List Int := ((List.range n).filter X.testBit).map fun k : Nat => (k : Int)
theorem allX_zero (X : Nat) : allX 0 X = [] := rfl
theorem allX_succ (k X : Nat) : allX (k + 1) X = allX k X ++ if X.testBit k then [(k : Int)] else [] := by
  unfold allX
  rw [List.range_succ, List.filter_append, List.map_append]
  congr 1
  cases h : X.testBit k <;> simp [h]
theorem allX_length_le (n X : Nat) : (allX n X).length ≤ n := by
  unfold allX
  have := List.length_filter_le X.testBit (List.range n)
  simpa using this
theorem mem_allX {n X : Nat} {i : Int} : i ∈ allX n X ↔ ∃ k : Nat, i = k ∧ k < n ∧ X.testBit k = true := by
  unfold allX
  simp only [List.mem_map, List.mem_filter, List.mem_range]
  constructor
  · rintro ⟨k, ⟨h1, h2⟩, rfl⟩; exact ⟨k, rfl, h1, h2⟩
  · rintro ⟨k, rfl, h1, h2⟩; exact ⟨k, ⟨h1, h2⟩, rfl⟩
theorem allX_over {n m X : Nat} (hX : X < 2 ^ n) (h : n ≤ m) : allX m X = allX n X := by
  induction m with
  | zero => obtain rfl : n = 0 := by omega
            rfl
  | succ m ih =>
    by_cases e : n = m + 1
    · rw [e]
    · rw [allX_succ, ih (by omega), testBit_ge hX (by omega)]; simp

/-- the least number of X, below n, that is not below i; and whether there is one -/
def nextX (n X : Nat) (i : Int) : Option Nat := (List.range n).find? fun k => decide (i ≤ (k : Int)) && X.testBit k
def nextN (n X : Nat) (i : Int) : Int := match nextX n X i with | some k => k | none => 0
def nextB (n X : Nat) (i : Int) : Bool := (nextX n X i).isSome
theorem nextX_hit {n X k : Nat} {i : Int} (hk : k < n) (hi : i ≤ k) (hb : X.testBit k = true) (hn : ∀ j : Nat, j < k → i ≤ j → X.testBit j = false) : nextX n X i = some k := by
  unfold nextX
  rw [List.find?_range_eq_some]
  refine ⟨by simp [hi, hb], by simpa using hk, fun j hj => ?_⟩
  by_cases h : i ≤ (j : Int)
  · simp [hn j hj h]
  · simp [h]
theorem nextX_none {n X : Nat} {i : Int} (hn : ∀ j : Nat, j < n → i ≤ j → X.testBit j = false) : nextX n X i = none := by
  unfold nextX
  rw [List.find?_eq_none]
  intro j hj
  rw [List.mem_range] at hj
  by_cases h : i ≤ (j : Int)
  · simp [hn j hj h]
  · simp [h]
/-! What Join (0), Meet (1), Less (else) make of X, and of sets L (each: its size, its numbers). -/
def doX (how : Int) (n X : Nat) (L : List (Nat × Nat)) : Nat :=
  if how = 0 then (L.foldl (fun a p => a ||| p.2) X) % 2 ^ n else if how = 1 then L.foldl (fun a p => a &&& p.2) X else L.foldl (fun a p => diff a p.2) X
def oneX (L : List (Nat × Nat)) (k : Nat) : Bool := L.any fun p => p.2.testBit k
def eachX (L : List (Nat × Nat)) (k : Nat) : Bool := L.all fun p => p.2.testBit k
theorem foldl_or_testBit (L : List (Nat × Nat)) : ∀ (X k : Nat), (L.foldl (fun a p => a ||| p.2) X).testBit k = (X.testBit k || oneX L k) := by
  induction L with
  | nil => intro X k; simp [oneX]
  | cons p L ih => intro X k; rw [List.foldl_cons, ih, Nat.testBit_or]; simp [oneX, Bool.or_assoc]
theorem foldl_and_testBit (L : List (Nat × Nat)) : ∀ (X k : Nat), (L.foldl (fun a p => a &&& p.2) X).testBit k = (X.testBit k && eachX L k) := by
  induction L with
  | nil => intro X k; simp [eachX]
  | cons p L ih => intro X k; rw [List.foldl_cons, ih, Nat.testBit_and]; simp [eachX, Bool.and_assoc]
theorem foldl_diff_testBit (L : List (Nat × Nat)) : ∀ (X k : Nat), (L.foldl (fun a p => diff a p.2) X).testBit k = (X.testBit k && !oneX L k) := by
  induction L with
  | nil => intro X k; simp [oneX]
  | cons p L ih => intro X k; rw [List.foldl_cons, ih, diff_testBit]; simp [oneX, Bool.and_assoc]
theorem doX_zero {n X k : Nat} {L : List (Nat × Nat)} (hk : k < n) : (doX 0 n X L).testBit k = (X.testBit k || oneX L k) := by
  unfold doX; rw [if_pos rfl, Nat.testBit_mod_two_pow, foldl_or_testBit]; simp [hk]
theorem doX_one {n X k : Nat} {L : List (Nat × Nat)} : (doX 1 n X L).testBit k = (X.testBit k && eachX L k) := by
  unfold doX; rw [if_neg (by omega), if_pos rfl, foldl_and_testBit]
theorem doX_else {how : Int} {n X k : Nat} {L : List (Nat × Nat)} (h0 : how ≠ 0) (h1 : how ≠ 1) : (doX how n X L).testBit k = (X.testBit k && !oneX L k) := by
  unfold doX; rw [if_neg h0, if_neg h1, foldl_diff_testBit]
theorem doX_lt {how : Int} {n X : Nat} {L : List (Nat × Nat)} (hX : X < 2 ^ n) : doX how n X L < 2 ^ n := by
  apply Nat.lt_pow_two_of_testBit
  intro i hi
  have hx := testBit_ge hX hi
  by_cases h0 : how = 0
  · unfold doX; rw [if_pos h0, Nat.testBit_mod_two_pow]; simp; omega
  · by_cases h1 : how = 1
    · rw [h1, doX_one, hx]; rfl
    · rw [doX_else h0 h1, hx]; rfl
/-- how many of the first k numbers are in one of both alone -/
def turnN (k X Y : Nat) : Nat := (allX k (X ^^^ Y)).length
theorem turnN_succ (k X Y : Nat) : turnN (k + 1) X Y = turnN k X Y + if X.testBit k != Y.testBit k then 1 else 0 := by
  unfold turnN
  rw [allX_succ, Nat.testBit_xor, List.length_append]
  congr 1
  cases X.testBit k <;> cases Y.testBit k <;> rfl
theorem turnN_le (k X Y : Nat) : turnN k X Y ≤ k := allX_length_le _ _
/-- the first k bits -/
def lowX (X k : Nat) : Nat := X % 2 ^ k
theorem lowX_testBit (X k j : Nat) : (lowX X k).testBit j = (decide (j < k) && X.testBit j) := Nat.testBit_mod_two_pow _ _ _
theorem lowX_lt {X n : Nat} (h : X < 2 ^ n) (k : Nat) : lowX X k < 2 ^ n := Nat.lt_of_le_of_lt (Nat.mod_le _ _) h
theorem lowX_zero (X : Nat) : lowX X 0 = 0 := by unfold lowX; omega
theorem lowX_all {X n : Nat} (h : X < 2 ^ n) : lowX X n = X := Nat.mod_eq_of_lt h
theorem lowX_succ (X k j : Nat) : (lowX X (k + 1)).testBit j = if j = k then X.testBit k else (lowX X k).testBit j := by
  rw [lowX_testBit, lowX_testBit]
  by_cases e : j = k
  · subst e; simp
  · have : decide (j < k + 1) = decide (j < k) := decide_eq_decide.2 (by omega)
    simp [e, this]
#print axioms nextX_hit
#print axioms doX_lt
end Go.Proofs.YtfpggeiphbekoaaDoor
