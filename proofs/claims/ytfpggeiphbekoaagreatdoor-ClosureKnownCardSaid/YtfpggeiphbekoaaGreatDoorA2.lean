/- Sets of small numbers as natural numbers (bit i: is i in it?), their words of 64 bits: plain arithmetic, no program in sight. | The numbers of a set as a list; the next one: plain lemmas. | Contracts of the small functions of package bits, each of them walked once: a set in memory is a number (bit i: is i in it?). | Contracts of package bits: New, Add, Remove, Of, Within, Same. | Contracts of package bits: Remove, Of, Within, Same, Copy. | math/bits.OnesCount64's steps count the bits of a word: plain arithmetic, and the walk. | Contracts of package bits: Len, Copy; of math/bits: TrailingZeros64; of slices: Clone. | Join, Meet, Less, word by word: plain arithmetic. | Contracts of package bits: the three closures of Join, Meet, Less; does. -/
import Derived.WalkKit
import Derived.Test.YtfpggeiphbekoaaGreatDoorA1
import Derived.Test.YtfpggeiphbekoaaGreatDoorProg
import Derived.KernelRfl
import Derived.Lib.TrailingZeros
import Derived.Deep.RegionWith

namespace Go.Proofs.YtfpggeiphbekoaaGreatDoor

/-- word k of a set -/
def wd (X k : Nat) : Nat := X / 2 ^ (64 * k) % 2 ^ 64
/-- how many words -/
def nw (n : Nat) : Nat := (n + 63) / 64

theorem wd_lt (X k : Nat) : wd X k < 18446744073709551616 := Nat.mod_lt _ (by omega)
theorem wd_testBit (X k i : Nat) : (wd X k).testBit i = (decide (i < 64) && X.testBit (64 * k + i)) := by
  unfold wd
  rw [Nat.testBit_mod_two_pow, Nat.testBit_div_two_pow, Nat.add_comm i]
theorem wd_zero {X n k : Nat} (hX : X < 2 ^ n) (hk : nw n ≤ k) : wd X k = 0 := by
  unfold wd nw at *
  have : X / 2 ^ (64 * k) = 0 := Nat.div_eq_of_lt (Nat.lt_of_lt_of_le hX (Nat.pow_le_pow_right (by omega) (by omega)))
  rw [this]
theorem testBit_wd (X i : Nat) : X.testBit i = (wd X (i / 64)).testBit (i % 64) := by
  rw [wd_testBit, show 64 * (i / 64) + i % 64 = i from Nat.div_add_mod i 64]
  simp [Nat.mod_lt]
theorem eq_of_wd {X Y : Nat} (h : ∀ k, wd X k = wd Y k) : X = Y := by
  apply Nat.eq_of_testBit_eq
  intro i
  rw [testBit_wd X, testBit_wd Y, h]
theorem testBit_lt {X n i : Nat} (hX : X < 2 ^ n) (h : X.testBit i = true) : i < n := by
  rcases Nat.lt_or_ge i n with h' | h'
  · exact h'
  · rw [Nat.testBit_lt_two_pow (Nat.lt_of_lt_of_le hX (Nat.pow_le_pow_right (by omega) h'))] at h
    cases h
theorem testBit_ge {X n i : Nat} (hX : X < 2 ^ n) (h : n ≤ i) : X.testBit i = false :=
  Nat.testBit_lt_two_pow (Nat.lt_of_lt_of_le hX (Nat.pow_le_pow_right (by omega) h))

/-- X with i -/
def ins (X i : Nat) : Nat := X ||| 2 ^ i
/-- X without i -/
def del (X i : Nat) : Nat := X &&& (X ^^^ 2 ^ i)

theorem ins_testBit (X i j : Nat) : (ins X i).testBit j = (X.testBit j || decide (i = j)) := by
  unfold ins; rw [Nat.testBit_or, Nat.testBit_two_pow]
theorem del_testBit (X i j : Nat) : (del X i).testBit j = (X.testBit j && !decide (i = j)) := by
  unfold del; rw [Nat.testBit_and, Nat.testBit_xor, Nat.testBit_two_pow]; cases X.testBit j <;> simp
theorem ins_lt {X n i : Nat} (hX : X < 2 ^ n) (hi : i < n) : ins X i < 2 ^ n :=
  Nat.or_lt_two_pow hX (Nat.pow_lt_pow_right (by omega) hi)
theorem del_lt {X n i : Nat} (hX : X < 2 ^ n) : del X i < 2 ^ n := Nat.lt_of_le_of_lt Nat.and_le_left hX
theorem ins_wd (X i k : Nat) : wd (ins X i) k = if k = i / 64 then wd X k ||| 2 ^ (i % 64) else wd X k := by
  apply Nat.eq_of_testBit_eq
  intro j
  split
  · subst_vars
    rw [wd_testBit, ins_testBit, Nat.testBit_or, wd_testBit, Nat.testBit_two_pow]
    by_cases h : j < 64
    · simp only [h, decide_true, Bool.true_and]
      congr 1
      apply decide_eq_decide.2; omega
    · have : ¬ i % 64 = j := by omega
      simp [h, this]
  · rw [wd_testBit, ins_testBit, wd_testBit]
    by_cases h : j < 64
    · have : ¬ i = 64 * k + j := by omega
      simp [this]
    · simp [h]
theorem ins_of_mem {X i : Nat} (h : X.testBit i = true) : ins X i = X := by
  apply Nat.eq_of_testBit_eq
  intro j
  rw [ins_testBit]
  by_cases e : i = j
  · subst e; simp [h]
  · simp [e]
/-- a &^ b on words -/
theorem andNot_testBit (a b j : Nat) (hb : b < 18446744073709551616) : (a &&& (18446744073709551615 - b)).testBit j = (a.testBit j && (decide (j < 64) && !b.testBit j)) := by
  rw [Nat.testBit_and, show 18446744073709551615 - b = 2 ^ 64 - (b + 1) by omega, Nat.testBit_two_pow_sub_succ (by omega)]
theorem del_wd (X i k : Nat) : wd (del X i) k = if k = i / 64 then wd X k &&& (18446744073709551615 - 2 ^ (i % 64)) else wd X k := by
  apply Nat.eq_of_testBit_eq
  intro j
  split
  · subst_vars
    rw [wd_testBit, del_testBit, andNot_testBit _ _ _ (by have : 2 ^ (i % 64) < 2 ^ 64 := Nat.pow_lt_pow_right (by omega) (by omega); omega), wd_testBit, Nat.testBit_two_pow]
    by_cases h : j < 64
    · simp only [h, decide_true, Bool.true_and]
      congr 2
      apply decide_eq_decide.2; omega
    · simp [h]
  · rw [wd_testBit, del_testBit, wd_testBit]
    by_cases h : j < 64
    · have : ¬ i = 64 * k + j := by omega
      simp [this]
    · simp [h]
theorem pow_lt64 (i : Nat) : 2 ^ (i % 64) < 18446744073709551616 := by
  have : 2 ^ (i % 64) < 2 ^ 64 := Nat.pow_lt_pow_right (by omega) (by omega)
  omega

/-! Go's operations on words, as the walk spells them. -/
theorem go_one_shl (k : Nat) : IntKind.u64.wrap (2 ^ (k % 64)) = ((2 ^ (k % 64) : Nat) : Int) := by
  rw [IntKind.wrap_u64]
  have := pow_lt64 k
  have e : ((2 : Int) ^ (k % 64)) = ((2 ^ (k % 64) : Nat) : Int) := by simp
  rw [e]
  generalize 2 ^ (k % 64) = p at *
  omega
theorem go_add (X k : Nat) : bits .or .u64 (wd X (k / 64) : Int) (IntKind.u64.wrap (2 ^ (k % 64))) = (wd (ins X k) (k / 64) : Int) := by
  rw [go_one_shl, u64_or_nat _ _ (wd_lt _ _) (pow_lt64 _), ins_wd, if_pos rfl]
theorem go_remove (X k : Nat) : bits .andNot .u64 (wd X (k / 64) : Int) (IntKind.u64.wrap (2 ^ (k % 64))) = (wd (del X k) (k / 64) : Int) := by
  rw [go_one_shl, u64_andNot_nat _ _ (wd_lt _ _) (pow_lt64 _), del_wd, if_pos rfl]
theorem go_has (X k : Nat) : (bits .and .u64 ((wd X (k / 64) : Int) / 2 ^ (k % 64)) 1 == 1) = X.testBit k := by
  have e : ((wd X (k / 64) : Int) / 2 ^ (k % 64)) = ((wd X (k / 64) / 2 ^ (k % 64) : Nat) : Int) := by simp
  have h1 : wd X (k / 64) / 2 ^ (k % 64) < 18446744073709551616 := Nat.lt_of_le_of_lt (Nat.div_le_self _ _) (wd_lt _ _)
  have this : bits .and .u64 ((wd X (k / 64) / 2 ^ (k % 64) : Nat) : Int) 1 = ((wd X (k / 64) / 2 ^ (k % 64) &&& 1 : Nat) : Int) := u64_and_nat _ 1 h1 (by omega)
  rw [e, this, nat_mask1, testBit_wd X k, Nat.testBit_eq_decide_div_mod_eq]
  generalize wd X (k / 64) / 2 ^ (k % 64) = q
  rw [Bool.eq_iff_iff, beq_iff_eq, decide_eq_true_eq]
  omega
/-- X without Y -/
def diff (X Y : Nat) : Nat := X ^^^ (X &&& Y)
theorem diff_testBit (X Y j : Nat) : (diff X Y).testBit j = (X.testBit j && !Y.testBit j) := by
  unfold diff; rw [Nat.testBit_xor, Nat.testBit_and]; cases X.testBit j <;> simp
theorem diff_lt {X n : Nat} (hX : X < 2 ^ n) (Y : Nat) : diff X Y < 2 ^ n := Nat.xor_lt_two_pow hX (Nat.lt_of_le_of_lt Nat.and_le_left hX)
theorem diff_wd (X Y k : Nat) : wd (diff X Y) k = wd X k &&& (18446744073709551615 - wd Y k) := by
  apply Nat.eq_of_testBit_eq
  intro j
  rw [wd_testBit, diff_testBit, andNot_testBit _ _ _ (wd_lt _ _), wd_testBit, wd_testBit]
  by_cases h : j < 64 <;> simp [h]
theorem go_diff (X Y k : Nat) : bits .andNot .u64 (wd X k : Int) (wd Y k : Int) = (wd (diff X Y) k : Int) := by
  rw [u64_andNot_nat _ _ (wd_lt _ _) (wd_lt _ _), diff_wd]
theorem eq_zero_of_wd {X n : Nat} (hX : X < 2 ^ n) (h : ∀ k, k < nw n → wd X k = 0) : X = 0 := by
  apply eq_of_wd
  intro k
  rcases Nat.lt_or_ge k (nw n) with hk | hk
  · rw [h k hk]; simp [wd]
  · rw [wd_zero hX hk]; simp [wd]
/-- is each of X in Y? -/
def withinB (X Y : Nat) : Bool := diff X Y == 0
theorem withinB_iff (X Y : Nat) : withinB X Y = true ↔ ∀ i, X.testBit i = true → Y.testBit i = true := by
  unfold withinB
  rw [beq_iff_eq]
  constructor
  · intro h i hi
    have := diff_testBit X Y i
    rw [h] at this
    simp [hi] at this
    exact this
  · intro h
    apply Nat.eq_of_testBit_eq
    intro i
    rw [diff_testBit]
    have := h i
    cases hx : X.testBit i <;> simp_all
#print axioms go_has
#print axioms withinB_iff
end Go.Proofs.YtfpggeiphbekoaaGreatDoor

namespace Go.Proofs.YtfpggeiphbekoaaGreatDoor

/-- the numbers below n in X, rising -/
def allX (n X : Nat) : List Int := ((List.range n).filter X.testBit).map fun k : Nat => (k : Int)
theorem allX_zero (X : Nat) : allX 0 X = [] := rfl
theorem allX_succ (k X : Nat) : allX (k + 1) X = allX k X ++ if X.testBit k then [(k : Int)] else [] := by
  unfold allX
  rw [List.range_succ, List.filter_append, List.map_append]
  congr 1
  cases h : X.testBit k <;> simp [h]
theorem allX_length_le (n X : Nat) : (allX n X).length ≤ n := by
  unfold allX
  have := List.length_filter_le X.testBit (List.range n)
  simpa using this
theorem mem_allX {n X : Nat} {i : Int} : i ∈ allX n X ↔ ∃ k : Nat, i = k ∧ k < n ∧ X.testBit k = true := by
  unfold allX
  simp only [List.mem_map, List.mem_filter, List.mem_range]
  constructor
  · rintro ⟨k, ⟨h1, h2⟩, rfl⟩; exact ⟨k, rfl, h1, h2⟩
  · rintro ⟨k, rfl, h1, h2⟩; exact ⟨k, ⟨h1, h2⟩, rfl⟩
theorem allX_over {n m X : Nat} (hX : X < 2 ^ n) (h : n ≤ m) : allX m X = allX n X := by
  induction m with
  | zero => obtain rfl : n = 0 := by omega
            rfl
  | succ m ih =>
    by_cases e : n = m + 1
    · rw [e]
    · rw [allX_succ, ih (by omega), testBit_ge hX (by omega)]; simp

/-- the least number of X, below n, that is not below i; and whether there is one -/
def nextX (n X : Nat) (i : Int) : Option Nat := (List.range n).find? fun k => decide (i ≤ (k : Int)) && X.testBit k
def nextN (n X : Nat) (i : Int) : Int := match nextX n X i with | some k => k | none => 0
def nextB (n X : Nat) (i : Int) : Bool := (nextX n X i).isSome
theorem nextX_hit {n X k : Nat} {i : Int} (hk : k < n) (hi : i ≤ k) (hb : X.testBit k = true) (hn : ∀ j : Nat, j < k → i ≤ j → X.testBit j = false) : nextX n X i = some k := by
  unfold nextX
  rw [List.find?_range_eq_some]
  refine ⟨by simp [hi, hb], by simpa using hk, fun j hj => ?_⟩
  by_cases h : i ≤ (j : Int)
  · simp [hn j hj h]
  · simp [h]
theorem nextX_none {n X : Nat} {i : Int} (hn : ∀ j : Nat, j < n → i ≤ j → X.testBit j = false) : nextX n X i = none := by
  unfold nextX
  rw [List.find?_eq_none]
  intro j hj
  rw [List.mem_range] at hj
  by_cases h : i ≤ (j : Int)
  · simp [hn j hj h]
  · simp [h]
/-! What Join (0), Meet (1), Less (else) make of X, and of sets L (each: its size, its numbers). -/
def doX (how : Int) (n X : Nat) (L : List (Nat × Nat)) : Nat :=
  if how = 0 then (L.foldl (fun a p => a ||| p.2) X) % 2 ^ n else if how = 1 then L.foldl (fun a p => a &&& p.2) X else L.foldl (fun a p => diff a p.2) X
def oneX (L : List (Nat × Nat)) (k : Nat) : Bool := L.any fun p => p.2.testBit k
def eachX (L : List (Nat × Nat)) (k : Nat) : Bool := L.all fun p => p.2.testBit k
theorem foldl_or_testBit (L : List (Nat × Nat)) : ∀ (X k : Nat), (L.foldl (fun a p => a ||| p.2) X).testBit k = (X.testBit k || oneX L k) := by
  induction L with
  | nil => intro X k; simp [oneX]
  | cons p L ih => intro X k; rw [List.foldl_cons, ih, Nat.testBit_or]; simp [oneX, Bool.or_assoc]
theorem foldl_and_testBit (L : List (Nat × Nat)) : ∀ (X k : Nat), (L.foldl (fun a p => a &&& p.2) X).testBit k = (X.testBit k && eachX L k) := by
  induction L with
  | nil => intro X k; simp [eachX]
  | cons p L ih => intro X k; rw [List.foldl_cons, ih, Nat.testBit_and]; simp [eachX, Bool.and_assoc]
theorem foldl_diff_testBit (L : List (Nat × Nat)) : ∀ (X k : Nat), (L.foldl (fun a p => diff a p.2) X).testBit k = (X.testBit k && !oneX L k) := by
  induction L with
  | nil => intro X k; simp [oneX]
  | cons p L ih => intro X k; rw [List.foldl_cons, ih, diff_testBit]; simp [oneX, Bool.and_assoc]
theorem doX_zero {n X k : Nat} {L : List (Nat × Nat)} (hk : k < n) : (doX 0 n X L).testBit k = (X.testBit k || oneX L k) := by
  unfold doX; rw [if_pos rfl, Nat.testBit_mod_two_pow, foldl_or_testBit]; simp [hk]
theorem doX_one {n X k : Nat} {L : List (Nat × Nat)} : (doX 1 n X L).testBit k = (X.testBit k && eachX L k) := by
  unfold doX; rw [if_neg (by omega), if_pos rfl, foldl_and_testBit]
theorem doX_else {how : Int} {n X k : Nat} {L : List (Nat × Nat)} (h0 : how ≠ 0) (h1 : how ≠ 1) : (doX how n X L).testBit k = (X.testBit k && !oneX L k) := by
  unfold doX; rw [if_neg h0, if_neg h1, foldl_diff_testBit]
theorem doX_lt {how : Int} {n X : Nat} {L : List (Nat × Nat)} (hX : X < 2 ^ n) : doX how n X L < 2 ^ n := by
  apply Nat.lt_pow_two_of_testBit
  intro i hi
  have hx := testBit_ge hX hi
  by_cases h0 : how = 0
  · unfold doX; rw [if_pos h0, Nat.testBit_mod_two_pow]; simp; omega
  · by_cases h1 : how = 1
    · rw [h1, doX_one, hx]; rfl
    · rw [doX_else h0 h1, hx]; rfl
/-- how many of the first k numbers are in one of both alone -/
def turnN (k X Y : Nat) : Nat := (allX k (X ^^^ Y)).length
theorem turnN_succ (k X Y : Nat) : turnN (k + 1) X Y = turnN k X Y + if X.testBit k != Y.testBit k then 1 else 0 := by
  unfold turnN
  rw [allX_succ, Nat.testBit_xor, List.length_append]
  congr 1
  cases X.testBit k <;> cases Y.testBit k <;> rfl
theorem turnN_le (k X Y : Nat) : turnN k X Y ≤ k := allX_length_le _ _
/-- the first k bits -/
def lowX (X k : Nat) : Nat := X % 2 ^ k
theorem lowX_testBit (X k j : Nat) : (lowX X k).testBit j = (decide (j < k) && X.testBit j) := Nat.testBit_mod_two_pow _ _ _
theorem lowX_lt {X n : Nat} (h : X < 2 ^ n) (k : Nat) : lowX X k < 2 ^ n := Nat.lt_of_le_of_lt (Nat.mod_le _ _) h
theorem lowX_zero (X : Nat) : lowX X 0 = 0 := by unfold lowX; omega
theorem lowX_all {X n : Nat} (h : X < 2 ^ n) : lowX X n = X := Nat.mod_eq_of_lt h
theorem lowX_succ (X k j : Nat) : (lowX X (k + 1)).testBit j = if j = k then X.testBit k else (lowX X k).testBit j := by
  rw [lowX_testBit, lowX_testBit]
  by_cases e : j = k
  · subst e; simp
  · have : decide (j < k + 1) = decide (j < k) := decide_eq_decide.2 (by omega)
    simp [e, this]
#print axioms nextX_hit
#print axioms doX_lt
end Go.Proofs.YtfpggeiphbekoaaGreatDoor

namespace Go.Proofs.YtfpggeiphbekoaaGreatDoor
open Go.RowKit
set_option linter.unusedVariables false

/-- A set of size n, with the numbers X, at block b; it and its words lie in D. -/
structure SetIn (w : World) (D : Nat → Prop) (b n X : Nat) : Prop where
  le : n ≤ 65536
  lt : X < 2 ^ n
  here : D b
  words : ∃ c cap, nw n ≤ cap ∧ cap ≤ maxLen ∧ w.heap[b]? = some (.cells #[.int .i64 (n : Int), .slice (some ⟨c, 0, none⟩) (nw n) cap] 122 (0, 0)) ∧
    (nw n = 0 ∨ D c ∧ ∃ cs, w.heap[c]? = some (.cells cs 119 (0, 0)) ∧ ∀ k, k < nw n → cs[k]? = some (.int .u64 (wd X k)))

/-- The same behind a pointer, which may be nil: then it is as one of size 0. -/
def SetP (w : World) (D : Nat → Prop) (p : Option Addr) (n X : Nat) : Prop :=
  (p = none ∧ n = 0 ∧ X = 0) ∨ ∃ b, p = some ⟨b, 0, none⟩ ∧ SetIn w D b n X

theorem SetIn.keep {w w1 : World} {D S : Nat → Prop} {b n X : Nat} (h : SetIn w D b n X) (hf : Fx S w w1) (hd : ∀ k, D k → ¬ S k) : SetIn w1 D b n X := by
  obtain ⟨c, cap, hm1, hm2, h1, h2⟩ := h.words
  refine ⟨h.le, h.lt, h.here, c, cap, hm1, hm2, hf.at_ h1 (hd b h.here), ?_⟩
  rcases h2 with h2 | ⟨hc, cs, h3, h4⟩
  · exact .inl h2
  · exact .inr ⟨hc, cs, hf.at_ h3 (hd c hc), h4⟩
theorem SetIn.mono {w : World} {D T : Nat → Prop} {b n X : Nat} (h : SetIn w D b n X) (hd : ∀ k, D k → T k) : SetIn w T b n X := by
  obtain ⟨c, cap, hm1, hm2, h1, h2⟩ := h.words
  exact ⟨h.le, h.lt, hd b h.here, c, cap, hm1, hm2, h1, h2.imp id fun ⟨hc, r⟩ => ⟨hd c hc, r⟩⟩
theorem SetP.keep {w w1 : World} {D S : Nat → Prop} {p : Option Addr} {n X : Nat} (h : SetP w D p n X) (hf : Fx S w w1) (hd : ∀ k, D k → ¬ S k) : SetP w1 D p n X :=
  h.imp id fun ⟨b, h1, h2⟩ => ⟨b, h1, h2.keep hf hd⟩
theorem SetP.mono {w : World} {D T : Nat → Prop} {p : Option Addr} {n X : Nat} (h : SetP w D p n X) (hd : ∀ k, D k → T k) : SetP w T p n X :=
  h.imp id fun ⟨b, h1, h2⟩ => ⟨b, h1, h2.mono hd⟩
theorem SetIn.bound {w : World} {D : Nat → Prop} {b n X : Nat} (h : SetIn w D b n X) : SetIn w (fun k => D k ∧ k < w.heap.size) b n X := by
  obtain ⟨c, cap, hm1, hm2, h1, h2⟩ := h.words
  refine ⟨h.le, h.lt, ⟨h.here, (Array.getElem?_eq_some_iff.1 h1).1⟩, c, cap, hm1, hm2, h1, ?_⟩
  rcases h2 with h2 | ⟨hD, cs, h3, h4⟩
  · exact .inl h2
  · exact .inr ⟨⟨hD, (Array.getElem?_eq_some_iff.1 h3).1⟩, cs, h3, h4⟩
theorem SetP.no' {w w1 : World} {D : Nat → Prop} {p : Option Addr} {n X : Nat} (h : SetP w D p n X) (hf : Fx No w w1) : SetP w1 D p n X := h.keep hf No.disj
theorem SetIn.no {w w1 : World} {D : Nat → Prop} {b n X : Nat} (h : SetIn w D b n X) (hf : Fx No w w1) : SetIn w1 D b n X := h.keep hf No.disj
theorem SetIn.p {w : World} {D : Nat → Prop} {b n X : Nat} (h : SetIn w D b n X) : SetP w D (some ⟨b, 0, none⟩) n X := .inr ⟨b, rfl, h⟩
theorem SetP.le {w : World} {D : Nat → Prop} {p : Option Addr} {n X : Nat} (h : SetP w D p n X) : n ≤ 65536 ∧ X < 2 ^ n := by
  rcases h with ⟨_, rfl, rfl⟩ | ⟨b, _, h⟩
  · simp
  · exact ⟨h.le, h.lt⟩

/-- what a walk reads -/
theorem SetIn.facts {w : World} {D : Nat → Prop} {b n X : Nat} (h : SetIn w D b n X) : ∃ c cap, w.cell? ⟨b, 0, none⟩ = some (.int .i64 (n : Int)) ∧
    w.cell? ⟨b, 1, none⟩ = some (.slice (some ⟨c, 0, none⟩) (nw n) cap) ∧
    (∀ k, k < nw n → w.cell? ⟨c, k, none⟩ = some (.int .u64 (wd X k)) ∧ w.frozen? ⟨c, k, none⟩ = false) ∧ (0 < nw n → D c) := by
  obtain ⟨c, cap, hm1, hm2, h1, h2⟩ := h.words
  refine ⟨c, cap, by simp [World.cell?, h1], by simp [World.cell?, h1], fun k hk => ?_, fun hn => ?_⟩
  · rcases h2 with h2 | ⟨_, cs, h3, h4⟩
    · omega
    · exact ⟨by simp [World.cell?, h3, h4 k hk], by simp [World.frozen?, h3]⟩
  · rcases h2 with h2 | ⟨hc, _⟩
    · omega
    · exact hc
/-- A word is written over. -/
theorem SetIn.setWord {w : World} {D : Nat → Prop} {b n X Y k c cap : Nat} (h : SetIn w D b n X) (hc : w.cell? ⟨b, 1, none⟩ = some (.slice (some ⟨c, 0, none⟩) (nw n) cap)) (hk : k < nw n) (hY : Y < 2 ^ n)
    (hw : ∀ j, wd Y j = if j = k then wd Y k else wd X j) : SetIn (w.setCell ⟨c, k, none⟩ (.int .u64 (wd Y k))) D b n Y := by
  obtain ⟨c', cap', hm1, hm2, h1, h2⟩ := h.words
  have e : c' = c := by
    have : w.cell? ⟨b, 1, none⟩ = some (.slice (some ⟨c', 0, none⟩) (nw n) cap') := by simp [World.cell?, h1]
    rw [this] at hc
    simp only [Option.some.injEq, Value.slice.injEq, Addr.mk.injEq] at hc
    exact hc.1.1
  subst e
  rcases h2 with h2 | ⟨hc, cs, h3, h4⟩
  · omega
  · have hcb : c' ≠ b := by rintro rfl; rw [h1] at h3; simp at h3
    refine ⟨h.le, hY, h.here, c', cap', hm1, hm2, ?_, .inr ⟨hc, cs.setIfInBounds k (.int .u64 (wd Y k)), ?_, fun j hj => ?_⟩⟩
    · rw [Below.heap_setCell _ _ _ _ (by simpa using hcb.symm)]; exact h1
    · simp [World.setCell, Array.getElem?_modify, h3]
    · have hks : k < cs.size := by have := h4 k hk; exact (Array.getElem?_eq_some_iff.1 this).1
      rw [Array.getElem?_setIfInBounds, hw j]
      by_cases e : j = k
      · subst e; simp [hks]
      · rw [if_neg (fun h => e h.symm), if_neg e]; exact h4 j hj

theorem nw_le {n : Nat} (h : n ≤ 65536) : nw n ≤ 1024 := by unfold nw; omega
theorem div_lt_nw {n k : Nat} (h : k < n) : k / 64 < nw n := by unfold nw; omega

/-! Size, may, at, Has -/
theorem size_any {w : World} {D : Nat → Prop} {p : Option Addr} {n X : Nat} (h : SetP w D p n X) :
    Calls Tryz.prog 85 #[.pointer p] w fun e w' => e = .returned (.int .i64 (n : Int)) ∧ w = w' := by
  rcases h with ⟨rfl, rfl, rfl⟩ | ⟨b, rfl, h⟩
  · go_enter Tryz.func85, Tryz.ntmps85
    go_wp2
    go_ret
    exact ⟨rfl, rfl⟩
  · obtain ⟨c, cap, h0, h1, hw, _⟩ := h.facts
    clear hw h1
    go_enter Tryz.func85, Tryz.ntmps85
    go_wp2
    go_ret
    exact ⟨rfl, rfl⟩

/-- may a set of size n take i in? -/
def mayB (n : Nat) (i : Int) : Bool := decide (0 ≤ i ∧ i < n)
theorem may_any {w : World} {D : Nat → Prop} {p : Option Addr} {n X : Nat} (h : SetP w D p n X) (i : Int) :
    Calls Tryz.prog 64 #[.pointer p, .int .i64 i] w fun e w' => e = .returned (.bool (mayB n i)) ∧ w = w' := by
  have H := Lib.hid h
  clear h
  by_cases hi : 0 ≤ i
  · go_enter Tryz.func64, Tryz.ntmps64
    go_wp2_with (go_at_call 85; refine (size_any H.out).mono ?_; rintro e w' ⟨rfl, rfl⟩)
    go_ret
    exact ⟨by simp [mayB, hi], rfl⟩
  · have HF : Hid (mayB n i = false) := by simp [Hid, mayB, hi]
    go_enter Tryz.func64, Tryz.ntmps64
    go_wp2_with (go_at_call 85; refine (size_any H.out).mono ?_; rintro e w' ⟨rfl, rfl⟩)
    go_ret
    exact ⟨by rw [HF.out]; rfl, rfl⟩

theorem at_any {w : World} {D : Nat → Prop} {p : Option Addr} {n X : Nat} (h : SetP w D p n X) (k : Nat) :
    Calls Tryz.prog 86 #[.pointer p, .int .i64 (k : Int)] w fun e w' => e = .returned (.int .u64 (wd X k : Int)) ∧ w = w' := by
  rcases h with ⟨rfl, rfl, rfl⟩ | ⟨b, rfl, h⟩
  · go_enter Tryz.func86, Tryz.ntmps86
    go_wp2
    go_ret
    exact ⟨by simp [wd], rfl⟩
  · obtain ⟨c, cap, h0, h1, hw, _⟩ := h.facts
    have hn := nw_le h.le
    by_cases hlt : k < nw n
    · have hc := (hw k hlt).1
      clear hw
      go_enter Tryz.func86, Tryz.ntmps86
      go_wp2
      go_ret
      exact ⟨rfl, rfl⟩
    · clear hw
      have hz : wd X k = 0 := wd_zero h.lt (by omega)
      have HZ := Lib.hid hz
      clear hz
      go_enter Tryz.func86, Tryz.ntmps86
      go_wp2
      go_ret
      exact ⟨by rw [HZ.out]; rfl, rfl⟩

/-- is i in X? -/
def hasB (X : Nat) (i : Int) : Bool := decide (0 ≤ i) && X.testBit i.toNat
theorem hasB_nat (X k : Nat) : hasB X (k : Int) = X.testBit k := by simp [hasB]
theorem has_any {w : World} {D : Nat → Prop} {p : Option Addr} {n X : Nat} (h : SetP w D p n X) (i : Int) :
    Calls Tryz.prog 58 #[.pointer p, .int .i64 i] w fun e w' => e = .returned (.bool (hasB X i)) ∧ w = w' := by
  have hle := h.le
  have H := Lib.hid h
  by_cases hm : mayB n i = true
  · obtain ⟨k, rfl⟩ := Int.eq_ofNat_of_zero_le (by simp [mayB] at hm; exact hm.1 : 0 ≤ i)
    have hk : k < n := by simp [mayB] at hm; exact hm
    rcases h with ⟨rfl, rfl, rfl⟩ | ⟨b, rfl, h⟩
    · omega
    · obtain ⟨c, cap, h0, h1, hw, _⟩ := h.facts
      have hc := (hw (k / 64) (div_lt_nw hk)).1
      have hlt := div_lt_nw hk
      have hn := nw_le hle.1
      have HB : Hid (hasB X (k : Int) = _) := (hasB_nat X k).trans (go_has X k).symm
      clear hw hle h
      go_enter Tryz.func58, Tryz.ntmps58
      go_wp2_with (go_at_call 64; refine (may_any H.out _).mono ?_; rintro e w' ⟨rfl, rfl⟩)
      go_ret
      exact ⟨by rw [HB.out]; rfl, rfl⟩
  · have hm' : mayB n i = false := by simpa using hm
    have hf : hasB X i = false := by
      unfold hasB
      unfold mayB at hm
      by_cases h0 : 0 ≤ i
      · have := testBit_ge hle.2 (i := i.toNat) (by simp at hm; have := hm h0; omega)
        simp [this]
      · simp [h0]
    have HF := Lib.hid hf
    clear hf h hm hle
    go_enter Tryz.func58, Tryz.ntmps58
    go_wp2_with (go_at_call 64; refine (may_any H.out _).mono ?_; rintro e w' ⟨rfl, rfl⟩)
    go_ret
    exact ⟨by rw [HF.out]; rfl, rfl⟩
#print axioms has_any
end Go.Proofs.YtfpggeiphbekoaaGreatDoor

namespace Go.Proofs.YtfpggeiphbekoaaGreatDoor
open Go.RowKit
set_option linter.unusedVariables false

theorem info_u64 : (Tryz.prog.info? 119).map (fun i => (i.zero, i.size, i.bytes)) = some (some (.int .u64 0), 1, 8) := by kernel_rfl

/-- so many zero words -/
def zeroWords (k : Nat) : Array Value := Array.replicate k (.int .u64 0)
theorem makeWords {E : Int} {k : Nat} (h0 : 0 ≤ E) (h1 : E ≤ 100000) (hk : E.toNat = k) (w : World) :
    (Instr.makeSlice 120 (.int .i64 E) (.int .i64 E)).run Tryz.prog w = .ok (.slice (some ⟨w.heap.size, 0, none⟩) k k) (w.alloc (.cells (zeroWords k) 119)) := by
  obtain ⟨i, hi, hz, hs, hb⟩ := info_parts info_u64
  have := run_make (P := Tryz.prog) w 120 119 i _ Tryz.underlying120 hi hz .i64 .i64 E E h0 (Int.le_refl _) (by rw [hb]; omega) (by omega)
  rw [this, hk, hs]
  have e : madeCells (Value.int .u64 0).cells (k * 1) = zeroWords k := by
    apply Array.ext'
    rw [show (Value.int .u64 0).cells = #[.int .u64 0] from rfl, toList_madeCells_one]
    simp [zeroWords]
  rw [e]

/-- the size of a set that New makes -/
def newN (n : Int) : Nat := (max 0 (min n 65536)).toNat
theorem newN_le (n : Int) : newN n ≤ 65536 := by unfold newN; omega

theorem setIn_made (w : World) (n k : Nat) (h : n ≤ 65536) (hk : nw n = k) :
    SetIn ((w.alloc (.cells (zeroWords k) 119)).alloc (.cells #[.int .i64 (n : Int), .slice (some ⟨w.heap.size, 0, none⟩) k k] 122)) (Iv w.heap.size (w.heap.size + 2)) (w.heap.size + 1) n 0 := by
  subst hk
  refine ⟨h, Nat.two_pow_pos n, ⟨by omega, by omega⟩, w.heap.size, nw n, Nat.le_refl _, by unfold maxLen nw; omega, ?_, .inr ⟨⟨by omega, by omega⟩, zeroWords (nw n), ?_, fun j hj => ?_⟩⟩
  · have := heap_alloc_new (w.alloc (.cells (zeroWords (nw n)) 119)) (.cells #[.int .i64 (n : Int), .slice (some ⟨w.heap.size, 0, none⟩) (nw n) (nw n)] 122)
    rwa [World.size_alloc] at this
  · exact (Below.heap_alloc _ _ _ (by simp)).trans (heap_alloc_new w _)
  · simp [zeroWords, hj, wd]

set_option maxRecDepth 100000 in
theorem new_any (n : Int) (w : World) : Calls Tryz.prog 62 #[.int .i64 n] w fun e w' => ∃ b, e = .returned (.pointer (some ⟨b, 0, none⟩)) ∧ Fx No w w' ∧ SetIn w' (Iv w.heap.size w'.heap.size) b (newN n) 0 := by
  have hfx : ∀ (w : World) o o', Fx No w ((w.alloc o).alloc o') := fun w o o' => ((Fx.refl No w).alloc o).alloc o'
  by_cases h0 : n ≤ 0
  · have hmk := makeWords (E := 0) (k := 0) (by omega) (by omega) rfl
    have HN : Hid (newN n = 0) := by unfold Hid newN; omega
    have HS := Lib.hid (setIn_made w 0 0 (by omega) rfl)
    have HF := Lib.hid hfx
    clear hfx
    go_enter Tryz.func62, Tryz.ntmps62
    go_wp2
    all_goals first
      | omega
      | (go_ret
         refine ⟨_, rfl, HF.out _ _ _, ?_⟩
         rw [HN.out]
         simpa using HS.out)
  · by_cases h1 : n ≤ 65536
    · obtain ⟨m, rfl⟩ := Int.eq_ofNat_of_zero_le (by omega : 0 ≤ n)
      have hmk := makeWords (E := ((m : Int) + 64 - 1) / 64) (k := nw m) (by omega) (by omega) (by unfold nw; omega)
      have HN : Hid (newN m = m) := by unfold Hid newN; omega
      have HS := Lib.hid (setIn_made w m (nw m) (by omega) rfl)
      have HF := Lib.hid hfx
      clear hfx
      go_enter Tryz.func62, Tryz.ntmps62
      go_wp2
      all_goals first
        | omega
        | (go_ret
           refine ⟨_, rfl, HF.out _ _ _, ?_⟩
           rw [HN.out]
           simpa using HS.out)
    · have hmk := makeWords (E := 1024) (k := 1024) (by omega) (by omega) rfl
      have HN : Hid (newN n = 65536) := by unfold Hid newN; omega
      have HS := Lib.hid (setIn_made w 65536 1024 (by omega) rfl)
      have HF := Lib.hid hfx
      clear hfx
      go_enter Tryz.func62, Tryz.ntmps62
      go_wp2
      all_goals first
        | omega
        | (go_ret
           refine ⟨_, rfl, HF.out _ _ _, ?_⟩
           rw [HN.out]
           simpa using HS.out)

/-- X, having been asked to take i in -/
def addX (n X : Nat) (i : Int) : Nat := if mayB n i then ins X i.toNat else X
def addB (n X : Nat) (i : Int) : Bool := mayB n i && !hasB X i
theorem addX_lt {n X : Nat} (h : X < 2 ^ n) (i : Int) : addX n X i < 2 ^ n := by
  unfold addX
  split
  · rename_i hm; exact ins_lt h (by simp [mayB] at hm; omega)
  · exact h
theorem addX_of_not {n X : Nat} {i : Int} (h : addB n X i = false) : addX n X i = X := by
  unfold addX
  split
  · rename_i hm
    unfold addB at h
    rw [hm] at h
    simp at h
    unfold hasB at h
    simp at h
    exact ins_of_mem h.2
  · rfl

theorem add_any {w : World} {D : Nat → Prop} {p : Option Addr} {n X : Nat} (h : SetP w D p n X) (i : Int) :
    Calls Tryz.prog 41 #[.pointer p, .int .i64 i] w fun e w' => e = .returned (.bool (addB n X i)) ∧ Fx D w w' ∧ SetP w' D p n (addX n X i) := by
  have hle := h.le
  have H := Lib.hid h
  by_cases hm : mayB n i = true
  · by_cases hh : hasB X i = true
    · have HF : Hid (addB n X i = false) := by simp [Hid, addB, hh]
      have HX := Lib.hid (addX_of_not HF.out)
      clear h hle
      go_enter Tryz.func41, Tryz.ntmps41
      go_wp2_with (first | (go_at_call 64; refine (may_any H.out _).mono ?_; rintro e w' ⟨rfl, rfl⟩) | (go_at_call 58; refine (has_any H.out _).mono ?_; rintro e w' ⟨rfl, rfl⟩))
      go_ret
      exact ⟨by rw [HF.out]; rfl, Fx.refl _ _, by rw [HX.out]; exact H.out⟩
    · have hh' : hasB X i = false := by simpa using hh
      have HF : Hid (addB n X i = true) := by simp [Hid, addB, hm, hh']
      obtain ⟨k, rfl⟩ := Int.eq_ofNat_of_zero_le (by simp [mayB] at hm; exact hm.1 : 0 ≤ i)
      have hk : k < n := by simp [mayB] at hm; exact hm
      rcases h with ⟨rfl, rfl, rfl⟩ | ⟨b, rfl, h⟩
      · omega
      · obtain ⟨c, cap, h0, h1, hw, hD⟩ := h.facts
        obtain ⟨hc, hf⟩ := hw (k / 64) (div_lt_nw hk)
        have hlt := div_lt_nw hk
        have hn := nw_le hle.1
        have hS := h.setWord h1 hlt (ins_lt hle.2 hk) (fun j => by rw [ins_wd, ins_wd, if_pos rfl]; split <;> simp_all)
        have hX : addX n X (k : Int) = ins X k := by simp [addX, hm]
        rw [← hX, ← show Value.int .u64 (bits .or .u64 (wd X (k / 64) : Int) (IntKind.u64.wrap (2 ^ (k % 64)))) = .int .u64 (wd (addX n X (k : Int)) (k / 64)) from by rw [go_add, hX]] at hS
        have HS := Lib.hid hS
        have HC := Lib.hid (hD (by omega))
        clear hS hX hw hD hle h hh
        go_enter Tryz.func41, Tryz.ntmps41
        go_wp2_with (first | (go_at_call 64; refine (may_any H.out _).mono ?_; rintro e w' ⟨rfl, rfl⟩) | (go_at_call 58; refine (has_any H.out _).mono ?_; rintro e w' ⟨rfl, rfl⟩))
        go_region
        go_wp2
        go_ret
        exact ⟨by rw [HF.out]; rfl, ((Fx.refl _ _).setCell (.inr HC.out) _).drew, .inr ⟨b, rfl, HS.out.keep (S := No) ((Fx.refl _ _).drew) No.disj⟩⟩
  · have hm' : mayB n i = false := by simpa using hm
    have HF : Hid (addB n X i = false) := by simp [Hid, addB, hm']
    have HX := Lib.hid (addX_of_not HF.out)
    clear h hle hm
    go_enter Tryz.func41, Tryz.ntmps41
    go_wp2_with (first | (go_at_call 64; refine (may_any H.out _).mono ?_; rintro e w' ⟨rfl, rfl⟩) | (go_at_call 58; refine (has_any H.out _).mono ?_; rintro e w' ⟨rfl, rfl⟩))
    go_ret
    exact ⟨by rw [HF.out]; rfl, Fx.refl _ _, by rw [HX.out]; exact H.out⟩
#print axioms add_any
#print axioms new_any
end Go.Proofs.YtfpggeiphbekoaaGreatDoor

namespace Go.Proofs.YtfpggeiphbekoaaGreatDoor
open Go.RowKit
set_option linter.unusedVariables false

/-- X, having been asked to take i out -/
def remX (X : Nat) (i : Int) : Nat := if hasB X i then del X i.toNat else X
theorem remX_lt {n X : Nat} (h : X < 2 ^ n) (i : Int) : remX X i < 2 ^ n := by
  unfold remX; split
  · exact del_lt h
  · exact h

/-- all of l taken in -/
def ofX (n : Nat) (l : List Int) : Nat := l.foldl (addX n) 0
theorem ofX_take {n : Nat} {l : List Int} {k : Nat} (h : k < l.length) : ofX n (l.take (k + 1)) = addX n (ofX n (l.take k)) (gi l k) := by
  unfold ofX; rw [take_gi h, List.foldl_append]; rfl
theorem ofX_lt (n : Nat) (l : List Int) : ofX n l < 2 ^ n := by
  unfold ofX
  have : ∀ (l : List Int) (X : Nat), X < 2 ^ n → l.foldl (addX n) X < 2 ^ n := by
    intro l
    induction l with
    | nil => exact fun X h => h
    | cons i l ih => exact fun X h => ih _ (addX_lt h i)
  exact this l 0 (Nat.two_pow_pos n)

theorem of_any {w : World} {D : Nat → Prop} {v : Value} {l : List Int} (n : Int) (h : IntsV w D v l) :
    Calls Tryz.prog 42 #[.int .i64 n, v] w fun e w' => ∃ b, e = .returned (.pointer (some ⟨b, 0, none⟩)) ∧ Fx No w w' ∧ SetIn w' (Iv w.heap.size w'.heap.size) b (newN n) (ofX (newN n) l) := by
  obtain ⟨ao, cap, rfl, hlen, hc⟩ := h.facts
  have HC := Lib.hid hc
  clear hc h
  go_enter Tryz.func42, Tryz.ntmps42
  go_wp2_with fail
  refine (new_any n w).mono ?_
  rintro e w1 ⟨b, rfl, hf1, hs1⟩
  have HF1 := Lib.hid hf1
  have HS1 := Lib.hid hs1
  clear hf1 hs1
  go_wp2
  go_loopw [7, 12] (fun _ i wr => ∃ k : Nat, k ≤ l.length ∧ i = .int .i64 k ∧ Fx No w wr ∧ w1.heap.size ≤ wr.heap.size ∧ SetIn wr (Iv w.heap.size w1.heap.size) b (newN n) (ofX (newN n) (l.take k))) (fun _ i _ => l.length - (intOf i).toNat)
  case atStart => exact ⟨0, Nat.zero_le _, rfl, HF1.out, Nat.le_refl _, HS1.out⟩
  case round =>
    obtain ⟨k, hk, rfl, hf, hsz, hs⟩ := hrel
    have HF := Lib.hid hf
    have HS := Lib.hid hs
    clear hf hs
    by_cases hlt : k < l.length
    · obtain ⟨bl, o, rfl, _, hcell⟩ := HC.out k hlt
      have hcell' := HF.out.cell' hcell (fun h => h)
      clear hcell
      go_wp2_with fail
      refine (add_any HS.out.p _).mono ?_
      rintro e w2 ⟨rfl, hf2, hs2⟩
      have hs3 : SetIn w2 (Iv w.heap.size w1.heap.size) b (newN n) (ofX (newN n) (l.take (k + 1))) := by
        rw [ofX_take hlt]
        rcases hs2 with ⟨h, _⟩ | ⟨b', h, h'⟩
        · cases h
        · obtain rfl : b = b' := by simpa using h
          exact h'
      have HS3 := Lib.hid hs3
      have HF3 := Lib.hid (HF.out.trans' hf2 (fun j hj hlt => by unfold Iv at hj; omega))
      have hsz2 := hf2.size
      clear hs2 hs3 hf2
      go_wp2
      go_roundw
      case rel => exact ⟨k + 1, by omega, by go_num, HF3.out, by omega, HS3.out⟩
      case measure => simp [intOf]; omega
    · obtain rfl : k = l.length := by omega
      go_wp2
      go_ret
      exact ⟨b, rfl, HF.out, by have := HS.out; rw [List.take_length] at this; exact this.mono fun j ⟨h1, h2⟩ => ⟨h1, by omega⟩⟩

/-- are both the same? -/
def sameB (n X m Y : Nat) : Bool := n == m && (withinB X Y && withinB Y X)
theorem sameB_iff (n X m Y : Nat) : sameB n X m Y = true ↔ n = m ∧ X = Y := by
  unfold sameB
  simp only [Bool.and_eq_true, beq_iff_eq, withinB_iff]
  constructor
  · rintro ⟨rfl, h1, h2⟩
    refine ⟨rfl, Nat.eq_of_testBit_eq fun i => ?_⟩
    have a := h1 i
    have b := h2 i
    cases hx : X.testBit i <;> cases hy : Y.testBit i <;> simp_all
  · rintro ⟨rfl, rfl⟩
    exact ⟨rfl, fun _ h => h, fun _ h => h⟩
#print axioms of_any
end Go.Proofs.YtfpggeiphbekoaaGreatDoor

namespace Go.Proofs.YtfpggeiphbekoaaGreatDoor
open Go.RowKit
set_option linter.unusedVariables false

def pc4 (n : Nat) : Nat := n % 2 + n / 2 % 2 + n / 4 % 2 + n / 8 % 2
/-- the masks, digit by digit -/
def mk (d b : Nat) : Nat → Nat
  | 0 => 0
  | k + 1 => d + b * mk d b k
theorem and_digit {a b X Y : Nat} (ha : a < 16) (hb : b < 16) : (a + 16 * X) &&& (b + 16 * Y) = (a &&& b) + 16 * (X &&& Y) := by
  have e1 : ∀ (a X : Nat), a < 16 → (a + 16 * X) % 16 = a := fun a X h => by omega
  have e2 : ∀ (a X : Nat), a < 16 → (a + 16 * X) / 16 = X := fun a X h => by omega
  have h1 : ((a + 16 * X) &&& (b + 16 * Y)) % 16 = a &&& b := by
    have := @Nat.and_mod_two_pow (a + 16 * X) (b + 16 * Y) 4
    rw [show (2 : Nat) ^ 4 = 16 from rfl, e1 a X ha, e1 b Y hb] at this
    exact this
  have h2 : ((a + 16 * X) &&& (b + 16 * Y)) / 16 = X &&& Y := by
    have := @Nat.and_div_two_pow (a + 16 * X) (b + 16 * Y) 4
    rw [show (2 : Nat) ^ 4 = 16 from rfl, e2 a X ha, e2 b Y hb] at this
    exact this
  omega
/-- the packed counts of the four-bit digits -/
def packed : Nat → Nat → Nat
  | 0, _ => 0
  | k + 1, x => pc4 (x % 16) + 16 * packed k (x / 16)
def s1 (x m : Nat) : Nat := (x / 2 &&& m) + (x &&& m)
def s2 (y m : Nat) : Nat := (y / 4 &&& m) + (y &&& m)
theorem and_digit' {a b X Y m n : Nat} (ha : a < 16) (hb : b < 16) (hm : m = a + 16 * X) (hn : n = b + 16 * Y) : m &&& n = (a &&& b) + 16 * (X &&& Y) := by
  subst hm hn; exact and_digit ha hb
theorem s1_digit (a : Nat) (ha : a < 16) (r : Nat) (hr : r < 2) : (a / 2 + 8 * r) &&& 5 = a / 2 &&& 5 := by
  have : ∀ a, a < 16 → ∀ r, r < 2 → (a / 2 + 8 * r) &&& 5 = a / 2 &&& 5 := by decide
  exact this a ha r hr
theorem s2_digit (a : Nat) (ha : a < 16) (r : Nat) (hr : r < 4) : (a / 4 + 4 * r) &&& 3 = a / 4 &&& 3 := by
  have : ∀ a, a < 16 → ∀ r, r < 4 → (a / 4 + 4 * r) &&& 3 = a / 4 &&& 3 := by decide
  exact this a ha r hr
theorem s1_step {a R m : Nat} (ha : a < 16) : s1 (a + 16 * R) (5 + 16 * m) = ((a / 2 &&& 5) + (a &&& 5)) + 16 * s1 R m := by
  unfold s1
  rw [and_digit' (a := a / 2 + 8 * (R % 2)) (X := R / 2) (b := 5) (Y := m) (by omega) (by omega) (by omega) rfl, and_digit ha (by omega), s1_digit a ha _ (by omega)]
  omega
theorem s2_step {a R m : Nat} (ha : a < 16) : s2 (a + 16 * R) (3 + 16 * m) = ((a / 4 &&& 3) + (a &&& 3)) + 16 * s2 R m := by
  unfold s2
  rw [and_digit' (a := a / 4 + 4 * (R % 4)) (X := R / 4) (b := 3) (Y := m) (by omega) (by omega) (by omega) rfl, and_digit ha (by omega), s2_digit a ha _ (by omega)]
  omega
theorem s12_packed : ∀ (k x : Nat), x < 16 ^ k → s2 (s1 x (mk 5 16 k)) (mk 3 16 k) = packed k x
  | 0, x, h => by
    obtain rfl : x = 0 := by simpa using h
    rfl
  | k + 1, x, h => by
    have hq : x / 16 < 16 ^ k := by rw [Nat.pow_succ] at h; omega
    have hx : x = x % 16 + 16 * (x / 16) := by omega
    have hd : ∀ a, a < 16 → (a / 2 &&& 5) + (a &&& 5) < 16 ∧ (((a / 2 &&& 5) + (a &&& 5)) / 4 &&& 3) + (((a / 2 &&& 5) + (a &&& 5)) &&& 3) = pc4 a := by decide
    have h1 := hd (x % 16) (Nat.mod_lt _ (by omega))
    show s2 (s1 x (5 + 16 * mk 5 16 k)) (3 + 16 * mk 3 16 k) = pc4 (x % 16) + 16 * packed k (x / 16)
    rw [← s12_packed k (x / 16) hq]
    generalize mk 5 16 k = m5
    generalize mk 3 16 k = m3
    have e1 : s1 x (5 + 16 * m5) = ((x % 16 / 2 &&& 5) + (x % 16 &&& 5)) + 16 * s1 (x / 16) m5 := by
      have := s1_step (a := x % 16) (R := x / 16) (m := m5) (Nat.mod_lt _ (by omega))
      rwa [← hx] at this
    rw [e1, s2_step h1.1, h1.2]

theorem and_byte {a X Y : Nat} (ha : a < 256) : (a + 256 * X) &&& (15 + 256 * Y) = (a &&& 15) + 256 * (X &&& Y) := by
  have h1 : ((a + 256 * X) &&& (15 + 256 * Y)) % 256 = a &&& 15 := by
    have := @Nat.and_mod_two_pow (a + 256 * X) (15 + 256 * Y) 8
    rw [show (2 : Nat) ^ 8 = 256 from rfl, show (a + 256 * X) % 256 = a by omega, show (15 + 256 * Y) % 256 = 15 by omega] at this
    exact this
  have h2 : ((a + 256 * X) &&& (15 + 256 * Y)) / 256 = X &&& Y := by
    have := @Nat.and_div_two_pow (a + 256 * X) (15 + 256 * Y) 8
    rw [show (2 : Nat) ^ 8 = 256 from rfl, show (a + 256 * X) / 256 = X by omega, show (15 + 256 * Y) / 256 = Y by omega] at this
    exact this
  omega
theorem and_byte' {p q X Y n m : Nat} (hp : p ≤ 8) (hq : q < 16) (hn : n = p + 16 * q + 256 * X) (hm : m = 15 + 256 * Y) : n &&& m = p + 256 * (X &&& Y) := by
  subst hn hm
  rw [and_byte (a := p + 16 * q) (by omega)]
  have : (p + 16 * q) &&& 15 = p := by
    have := Nat.and_two_pow_sub_one_eq_mod (p + 16 * q) 4
    rw [show (2 : Nat) ^ 4 - 1 = 15 from rfl, show (2 : Nat) ^ 4 = 16 from rfl] at this
    omega
  rw [this]

/-- the sum of the counts of k four-bit digits -/
def pcs : Nat → Nat → Nat
  | 0, _ => 0
  | k + 1, x => pc4 (x % 16) + pcs k (x / 16)
theorem pc4_le (n : Nat) : pc4 n ≤ 4 := by unfold pc4; omega

def s3 (z m : Nat) : Nat := (z / 16 + z) &&& m
def s4 (a : Nat) : Nat := a + a / 256
def s5 (a : Nat) : Nat := a + a / 65536
def s6 (a : Nat) : Nat := a + a / 4294967296

theorem s3_digits (p0 p1 p2 p3 p4 p5 p6 p7 p8 p9 p10 p11 p12 p13 p14 p15 : Nat)
    (h0 : p0 ≤ 4) (h1 : p1 ≤ 4) (h2 : p2 ≤ 4) (h3 : p3 ≤ 4) (h4 : p4 ≤ 4) (h5 : p5 ≤ 4) (h6 : p6 ≤ 4) (h7 : p7 ≤ 4) (h8 : p8 ≤ 4) (h9 : p9 ≤ 4) (h10 : p10 ≤ 4) (h11 : p11 ≤ 4) (h12 : p12 ≤ 4) (h13 : p13 ≤ 4) (h14 : p14 ≤ 4) (h15 : p15 ≤ 4) :
    s3 (p0 + 16 * (p1 + 16 * (p2 + 16 * (p3 + 16 * (p4 + 16 * (p5 + 16 * (p6 + 16 * (p7 + 16 * (p8 + 16 * (p9 + 16 * (p10 + 16 * (p11 + 16 * (p12 + 16 * (p13 + 16 * (p14 + 16 * p15))))))))))))))) 1085102592571150095 =
      (p0 + p1) + 256 * ((p2 + p3) + 256 * ((p4 + p5) + 256 * ((p6 + p7) + 256 * ((p8 + p9) + 256 * ((p10 + p11) + 256 * ((p12 + p13) + 256 * (p14 + p15))))))) := by
  unfold s3
  rw [and_byte' (p := p0 + p1) (q := p1 + p2) (X := (p2 + p3) + 16 * (p3 + p4) + 256 * ((p4 + p5) + 16 * (p5 + p6) + 256 * ((p6 + p7) + 16 * (p7 + p8) + 256 * ((p8 + p9) + 16 * (p9 + p10) + 256 * ((p10 + p11) + 16 * (p11 + p12) + 256 * ((p12 + p13) + 16 * (p13 + p14) + 256 * ((p14 + p15) + 16 * p15)))))))
    (Y := 4238682002231055) (by omega) (by omega) (by omega) (by omega)]
  rw [and_byte' (p := p2 + p3) (q := p3 + p4) (Y := 16557351571215) (by omega) (by omega) rfl (by omega)]
  rw [and_byte' (p := p4 + p5) (q := p5 + p6) (Y := 64677154575) (by omega) (by omega) rfl (by omega)]
  rw [and_byte' (p := p6 + p7) (q := p7 + p8) (Y := 252645135) (by omega) (by omega) rfl (by omega)]
  rw [and_byte' (p := p8 + p9) (q := p9 + p10) (Y := 986895) (by omega) (by omega) rfl (by omega)]
  rw [and_byte' (p := p10 + p11) (q := p11 + p12) (Y := 3855) (by omega) (by omega) rfl (by omega)]
  rw [and_byte' (p := p12 + p13) (q := p13 + p14) (Y := 15) (by omega) (by omega) rfl (by omega)]
  rw [and_byte' (p := p14 + p15) (q := p15) (X := 0) (Y := 0) (by omega) (by omega) (by omega) (by omega)]
  simp

theorem s456 (q0 q1 q2 q3 q4 q5 q6 q7 : Nat) (h0 : q0 ≤ 8) (h1 : q1 ≤ 8) (h2 : q2 ≤ 8) (h3 : q3 ≤ 8) (h4 : q4 ≤ 8) (h5 : q5 ≤ 8) (h6 : q6 ≤ 8) (h7 : q7 ≤ 8) :
    s6 (s5 (s4 (q0 + 256 * (q1 + 256 * (q2 + 256 * (q3 + 256 * (q4 + 256 * (q5 + 256 * (q6 + 256 * q7))))))))) % 128 = q0 + q1 + q2 + q3 + q4 + q5 + q6 + q7 := by
  have e4 : s4 (q0 + 256 * (q1 + 256 * (q2 + 256 * (q3 + 256 * (q4 + 256 * (q5 + 256 * (q6 + 256 * q7))))))) =
      (q0 + q1) + 256 * ((q1 + q2) + 256 * ((q2 + q3) + 256 * ((q3 + q4) + 256 * ((q4 + q5) + 256 * ((q5 + q6) + 256 * ((q6 + q7) + 256 * q7)))))) := by
    unfold s4; omega
  rw [e4]
  have e5 : s5 ((q0 + q1) + 256 * ((q1 + q2) + 256 * ((q2 + q3) + 256 * ((q3 + q4) + 256 * ((q4 + q5) + 256 * ((q5 + q6) + 256 * ((q6 + q7) + 256 * q7))))))) =
      (q0 + q1 + q2 + q3) + 256 * ((q1 + q2 + q3 + q4) + 256 * ((q2 + q3 + q4 + q5) + 256 * ((q3 + q4 + q5 + q6) + 256 * ((q4 + q5 + q6 + q7) + 256 * ((q5 + q6 + q7) + 256 * ((q6 + q7) + 256 * q7)))))) := by
    unfold s5; omega
  rw [e5]
  clear e4 e5
  unfold s6
  have fin : ∀ a b c d e f g h : Nat, a ≤ 32 → b ≤ 32 → c ≤ 32 → d ≤ 32 → ((a + 256 * (b + 256 * (c + 256 * (d + 256 * (e + 256 * (f + 256 * (g + 256 * h))))))) + (a + 256 * (b + 256 * (c + 256 * (d + 256 * (e + 256 * (f + 256 * (g + 256 * h))))))) / 4294967296) % 128 = (a + e) % 128 := by
    intro a b c d e f g h ha hb hc hd
    have e1 : (a + 256 * (b + 256 * (c + 256 * (d + 256 * (e + 256 * (f + 256 * (g + 256 * h))))))) / 4294967296 = e + 256 * (f + 256 * (g + 256 * h)) := by
      generalize e + 256 * (f + 256 * (g + 256 * h)) = t
      omega
    rw [e1]
    generalize f + 256 * (g + 256 * h) = t
    omega
  rw [fin _ _ _ _ _ _ _ _ (by omega) (by omega) (by omega) (by omega)]
  omega

/-- the count of the bits of a word -/
def popN (x : Nat) : Nat := s6 (s5 (s4 (s3 (s2 (s1 x 6148914691236517205) 3689348814741910323) 1085102592571150095))) % 128
theorem packed_le : ∀ k x, packed k x < 16 ^ k
  | 0, _ => by simp [packed]
  | k + 1, x => by
    have := packed_le k (x / 16)
    have := pc4_le (x % 16)
    unfold packed; rw [Nat.pow_succ]; omega
theorem s12_eq {x : Nat} (h : x < 18446744073709551616) : s2 (s1 x 6148914691236517205) 3689348814741910323 = packed 16 x := by
  have := s12_packed 16 x (by omega)
  rwa [show mk 5 16 16 = 6148914691236517205 from by decide, show mk 3 16 16 = 3689348814741910323 from by decide] at this
theorem popN_pcs {x : Nat} (h : x < 18446744073709551616) : popN x = pcs 16 x := by
  unfold popN
  rw [s12_eq h]
  simp only [packed, pcs, Nat.mul_zero, Nat.add_zero]
  rw [s3_digits _ _ _ _ _ _ _ _ _ _ _ _ _ _ _ _ (pc4_le _) (pc4_le _) (pc4_le _) (pc4_le _) (pc4_le _) (pc4_le _) (pc4_le _) (pc4_le _) (pc4_le _) (pc4_le _) (pc4_le _) (pc4_le _) (pc4_le _) (pc4_le _) (pc4_le _) (pc4_le _)]
  have hp := pc4_le
  rw [s456 _ _ _ _ _ _ _ _ (by have := hp (x % 16); have := hp (x / 16 % 16); omega) (by have := hp (x / 16 / 16 % 16); have := hp (x / 16 / 16 / 16 % 16); omega)
    (by have := hp (x / 16 / 16 / 16 / 16 % 16); have := hp (x / 16 / 16 / 16 / 16 / 16 % 16); omega) (by have := hp (x / 16 / 16 / 16 / 16 / 16 / 16 % 16); have := hp (x / 16 / 16 / 16 / 16 / 16 / 16 / 16 % 16); omega)
    (by have := hp (x / 16 / 16 / 16 / 16 / 16 / 16 / 16 / 16 % 16); have := hp (x / 16 / 16 / 16 / 16 / 16 / 16 / 16 / 16 / 16 % 16); omega)
    (by have := hp (x / 16 / 16 / 16 / 16 / 16 / 16 / 16 / 16 / 16 / 16 % 16); have := hp (x / 16 / 16 / 16 / 16 / 16 / 16 / 16 / 16 / 16 / 16 / 16 % 16); omega)
    (by have := hp (x / 16 / 16 / 16 / 16 / 16 / 16 / 16 / 16 / 16 / 16 / 16 / 16 % 16); have := hp (x / 16 / 16 / 16 / 16 / 16 / 16 / 16 / 16 / 16 / 16 / 16 / 16 / 16 % 16); omega)
    (by have := hp (x / 16 / 16 / 16 / 16 / 16 / 16 / 16 / 16 / 16 / 16 / 16 / 16 / 16 / 16 % 16); have := hp (x / 16 / 16 / 16 / 16 / 16 / 16 / 16 / 16 / 16 / 16 / 16 / 16 / 16 / 16 / 16 % 16); omega)]
  omega

/-- how many numbers below m -/
def cntX (m X : Nat) : Nat := (allX m X).length
theorem cntX_succ (m X : Nat) : cntX (m + 1) X = cntX m X + if X.testBit m then 1 else 0 := by
  unfold cntX; rw [allX_succ, List.length_append]; cases X.testBit m <;> rfl
theorem cntX_add (a b X : Nat) : cntX (a + b) X = cntX a X + cntX b (X / 2 ^ a) := by
  induction b with
  | zero => simp [cntX, allX_zero]
  | succ b ih => rw [← Nat.add_assoc, cntX_succ, cntX_succ, ih, Nat.testBit_div_two_pow, Nat.add_assoc, Nat.add_comm b a]
theorem cntX_congr {m X Y : Nat} (h : ∀ i, i < m → X.testBit i = Y.testBit i) : cntX m X = cntX m Y := by
  induction m with
  | zero => rfl
  | succ m ih => rw [cntX_succ, cntX_succ, ih fun i hi => h i (by omega), h m (by omega)]
theorem cntX_four (x : Nat) : cntX 4 x = pc4 (x % 16) := by
  have e : ∀ i, i < 4 → x.testBit i = (x % 16).testBit i := by
    intro i hi
    rw [show (16 : Nat) = 2 ^ 4 from rfl, Nat.testBit_mod_two_pow]; simp [hi]
  rw [cntX_congr e]
  have : ∀ y, y < 16 → cntX 4 y = pc4 y := by decide
  exact this _ (Nat.mod_lt _ (by omega))
theorem pcs_cntX : ∀ k x, pcs k x = cntX (4 * k) x
  | 0, x => by simp [pcs, cntX, allX_zero]
  | k + 1, x => by
    rw [pcs, pcs_cntX k, show 4 * (k + 1) = 4 + 4 * k by omega, cntX_add, cntX_four]
theorem popN_cntX {x : Nat} (h : x < 18446744073709551616) : popN x = cntX 64 x := by rw [popN_pcs h, pcs_cntX]
theorem cntX_words (X k : Nat) : cntX (64 * (k + 1)) X = cntX (64 * k) X + popN (wd X k) := by
  rw [popN_cntX (wd_lt X k), show 64 * (k + 1) = 64 * k + 64 by omega, cntX_add]
  congr 1
  apply cntX_congr
  intro i hi
  rw [wd_testBit, Nat.testBit_div_two_pow]; simp [hi, Nat.add_comm]
theorem cntX_all {n X : Nat} (h : X < 2 ^ n) : cntX (64 * nw n) X = cntX n X := by
  unfold cntX; rw [allX_over h (by unfold nw; omega)]
theorem cntX_le (m X : Nat) : cntX m X ≤ m := allX_length_le _ _

/-! the walk's spelling of the steps -/
theorem go_s1 (x : Nat) (h : x < 18446744073709551616) : IntKind.u64.wrap (bits .and .u64 ((x : Int) / 2) 6148914691236517205 + bits .and .u64 (x : Int) 6148914691236517205) = ((s1 x 6148914691236517205 : Nat) : Int) ∧ s1 x 6148914691236517205 < 18446744073709551616 := by
  have h1 : bits .and .u64 ((x : Int) / 2) 6148914691236517205 = ((x / 2 &&& 6148914691236517205 : Nat) : Int) := u64_and_nat (x / 2) 6148914691236517205 (by omega) (by omega)
  have h2 : bits .and .u64 (x : Int) 6148914691236517205 = ((x &&& 6148914691236517205 : Nat) : Int) := u64_and_nat x 6148914691236517205 h (by omega)
  have l1 : x / 2 &&& 6148914691236517205 ≤ 6148914691236517205 := Nat.and_le_right
  have l2 : x &&& 6148914691236517205 ≤ 6148914691236517205 := Nat.and_le_right
  rw [h1, h2, IntKind.wrap_u64]
  unfold s1
  omega
theorem go_s2 (x : Nat) (h : x < 18446744073709551616) : IntKind.u64.wrap (bits .and .u64 ((x : Int) / 4) 3689348814741910323 + bits .and .u64 (x : Int) 3689348814741910323) = ((s2 x 3689348814741910323 : Nat) : Int) ∧ s2 x 3689348814741910323 ≤ 7378697629483820646 := by
  have h1 : bits .and .u64 ((x : Int) / 4) 3689348814741910323 = ((x / 4 &&& 3689348814741910323 : Nat) : Int) := u64_and_nat (x / 4) 3689348814741910323 (by omega) (by omega)
  have h2 : bits .and .u64 (x : Int) 3689348814741910323 = ((x &&& 3689348814741910323 : Nat) : Int) := u64_and_nat x 3689348814741910323 h (by omega)
  have l1 : x / 4 &&& 3689348814741910323 ≤ 3689348814741910323 := Nat.and_le_right
  have l2 : x &&& 3689348814741910323 ≤ 3689348814741910323 := Nat.and_le_right
  rw [h1, h2, IntKind.wrap_u64]
  unfold s2
  omega
theorem go_s3 (x : Nat) (h : x ≤ 7378697629483820646) : bits .and .u64 (IntKind.u64.wrap ((x : Int) / 16 + (x : Int))) 1085102592571150095 = ((s3 x 1085102592571150095 : Nat) : Int) ∧ s3 x 1085102592571150095 ≤ 1085102592571150095 := by
  have e : IntKind.u64.wrap ((x : Int) / 16 + (x : Int)) = ((x / 16 + x : Nat) : Int) := by rw [IntKind.wrap_u64]; omega
  rw [e]
  exact ⟨u64_and_nat (x / 16 + x) 1085102592571150095 (by omega) (by omega), Nat.and_le_right⟩
theorem go_s4 (x : Nat) (h : x ≤ 1085102592571150095) : IntKind.u64.wrap ((x : Int) + (x : Int) / 256) = ((s4 x : Nat) : Int) ∧ s4 x ≤ 1100000000000000000 := by
  rw [IntKind.wrap_u64]; unfold s4; omega
theorem go_s5 (x : Nat) (h : x ≤ 1100000000000000000) : IntKind.u64.wrap ((x : Int) + (x : Int) / 65536) = ((s5 x : Nat) : Int) ∧ s5 x ≤ 1200000000000000000 := by
  rw [IntKind.wrap_u64]; unfold s5; omega
theorem go_s6 (x : Nat) (h : x ≤ 1200000000000000000) : IntKind.u64.wrap ((x : Int) + (x : Int) / 4294967296) = ((s6 x : Nat) : Int) ∧ s6 x ≤ 1300000000000000000 := by
  rw [IntKind.wrap_u64]; unfold s6; omega

theorem ones_any (x : Nat) (w : World) (h : x < 18446744073709551616) : Calls Tryz.prog 83 #[.int .u64 (x : Int)] w fun e w' => e = .returned (.int .i64 (popN x)) ∧ w = w' := by
  obtain ⟨e1, b1⟩ := go_s1 x h
  obtain ⟨y1, hy1⟩ : ∃ y, s1 x 6148914691236517205 = y := ⟨_, rfl⟩
  rw [hy1] at e1 b1
  obtain ⟨e2, b2⟩ := go_s2 y1 b1
  obtain ⟨y2, hy2⟩ : ∃ y, s2 y1 3689348814741910323 = y := ⟨_, rfl⟩
  rw [hy2] at e2 b2
  obtain ⟨e3, b3⟩ := go_s3 y2 b2
  obtain ⟨y3, hy3⟩ : ∃ y, s3 y2 1085102592571150095 = y := ⟨_, rfl⟩
  rw [hy3] at e3 b3
  obtain ⟨e4, b4⟩ := go_s4 y3 b3
  obtain ⟨y4, hy4⟩ : ∃ y, s4 y3 = y := ⟨_, rfl⟩
  rw [hy4] at e4 b4
  obtain ⟨e5, b5⟩ := go_s5 y4 b4
  obtain ⟨y5, hy5⟩ : ∃ y, s5 y4 = y := ⟨_, rfl⟩
  rw [hy5] at e5 b5
  obtain ⟨e6, b6⟩ := go_s6 y5 b5
  obtain ⟨y6, hy6⟩ : ∃ y, s6 y5 = y := ⟨_, rfl⟩
  rw [hy6] at e6 b6
  have hp : popN x = y6 % 128 := by unfold popN; rw [hy1, hy2, hy3, hy4, hy5, hy6]
  have HP := Lib.hid hp
  have B6 := Lib.hid b6
  clear hy1 hy2 hy3 hy4 hy5 hy6 b1 b2 b3 b4 b5 b6 hp h
  go_enter Tryz.func83, Tryz.ntmps83
  go_wp2
  go_ret
  refine ⟨?_, rfl⟩
  have e7 : bits .and .i64 (wrap64 (y6 : Int)) 127 = ((y6 % 128 : Nat) : Int) := by
    have b := B6.out
    rw [IntWalk.wrap64_in _ ⟨by omega, by omega⟩]
    have := bits_mask .i64 63 (by decide) (fun n h0 h1 => by rw [IntKind.wrap_i64]; omega) 7 (by decide) (y6 : Int) (by omega) (by omega)
    rw [show (127 : Int) = 2 ^ 7 - 1 from rfl, this]
    omega
  rw [HP.out, ← e7]
  rfl
#print axioms ones_any
end Go.Proofs.YtfpggeiphbekoaaGreatDoor

namespace Go.Proofs.YtfpggeiphbekoaaGreatDoor
open Go.RowKit
set_option linter.unusedVariables false

theorem len_any {w : World} {D : Nat → Prop} {p : Option Addr} {n X : Nat} (h : SetP w D p n X) :
    Calls Tryz.prog 61 #[.pointer p] w fun e w' => e = .returned (.int .i64 (cntX n X)) ∧ w = w' := by
  rcases h with ⟨rfl, rfl, rfl⟩ | ⟨b, rfl, h⟩
  · go_enter Tryz.func61, Tryz.ntmps61
    go_wp2
    go_ret
    exact ⟨rfl, rfl⟩
  · obtain ⟨c, cap, h0, h1, hw, _⟩ := h.facts
    have hn := nw_le h.le
    have HA := Lib.hid (cntX_all h.lt)
    have HW := Lib.hid hw
    clear hw h0 h
    go_enter Tryz.func61, Tryz.ntmps61
    go_wp2
    go_loop [2, 4, 12] (fun s _ i => ∃ k : Nat, k ≤ nw n ∧ i = .int .i64 k ∧ s = .int .i64 (cntX (64 * k) X)) (fun _ _ i => nw n - (intOf i).toNat)
    case atStart => exact ⟨0, Nat.zero_le _, rfl, rfl⟩
    case round =>
      obtain ⟨k, hk, rfl, rfl⟩ := hrel
      have hcl := cntX_le (64 * k) X
      by_cases hlt : k < nw n
      · have hc := (HW.out k hlt).1
        have HS := Lib.hid (cntX_words X k)
        have hl := cntX_le 64 (wd X k)
        rw [← popN_cntX (wd_lt X k)] at hl
        go_wp2_with (go_at_call 83; refine (ones_any _ _ (wd_lt X k)).mono ?_; rintro e w' ⟨rfl, rfl⟩)
        go_round
        case rel => exact ⟨k + 1, by omega, by go_num, by rw [HS.out]; go_num⟩
        case measure => simp [intOf]; omega
      · obtain rfl : k = nw n := by omega
        go_wp2
        go_ret
        exact ⟨by rw [← HA.out]; rfl, rfl⟩

def wordsX (X m : Nat) : List Value := (List.range m).map fun k => .int .u64 (wd X k)
theorem wordsX_one (X m : Nat) : One (wordsX X m) := by
  intro u hu
  obtain ⟨_, _, rfl⟩ := List.mem_map.1 hu
  rfl
/-- slices.Clone of words: a row of its own -/
theorem cloneWords_any {w : World} {D : Nat → Prop} {v : Value} {m : Nat} {cs : List Value} (h : SlV w D v 1 m cs) (hv : v ≠ .slice none 0 0) (h1 : One cs) (hm : m ≤ 100000) :
    Calls Tryz.prog 84 #[v] w fun e w' => ∃ v', e = .returned v' ∧ Fx No w w' ∧ w'.ownsRow w.heap.size 119 1 v' m cs ∧ v' ≠ .slice none 0 0 := by
  obtain ⟨i0, hi, hz, hs, hb⟩ := info_parts info_u64
  have H := Lib.hid h
  have H1 := Lib.hid h1
  have HV := Lib.hid hv
  obtain ⟨ao, cap, rfl, hmc, hcm, hlen, hnil, _⟩ := h
  cases ao with
  | none =>
    obtain rfl := hnil rfl
    obtain rfl : m = 0 := by omega
    exact absurd rfl hv
  | some a =>
    clear h1 hv hnil
    have heq := fun w : World => Lib.run_eql_slice_nil (P := Tryz.prog) w 120 119 (some a) m cap 0 0 Tryz.underlying120
    go_enter Tryz.func84, Tryz.ntmps84
    go_wp2_with (at_builtin; refine wpList_append_sl rfl _ _ 120 rfl w.heap.size 119 Tryz.underlying120 hi hz hs hb rfl (by decide) rfl (World.ownsRow_lit w #[] 0 (Nat.le_refl _) (by unfold maxLen; omega) rfl) rfl (H.out.keep (S := No) ((Fx.refl _ _).alloc _) No.disj) H1.out (by unfold maxLen; omega) (by omega) (by simp) ?_)
    intro v' w1 hown1 hf1 hnil1
    have HO := Lib.hid hown1
    have HF := Lib.hid (((Fx.refl No w).alloc (.cells #[] 119)).trans' hf1 (by simp [Value.ownBlock]))
    have HN : Hid (v' ≠ .slice none 0 0) := hnil1
    clear hown1 hf1 hnil1
    go_wp2
    go_ret
    exact ⟨_, rfl, HF.out, by simpa using HO.out, HN.out⟩
theorem ownsRow_block {w : World} {base : Nat} {e : TypeId} {size : Nat} {v : Value} {n : Nat} {xs : List Value} (h : w.ownsRow base e size v n xs) (hv : v ≠ .slice none 0 0) :
    ∃ g cap cur, v = .slice (some ⟨g, 0, none⟩) n cap ∧ base ≤ g ∧ w.heap[g]? = some (.cells cur e (0, 0)) ∧ n ≤ cap ∧ cap ≤ maxLen ∧ cur.size = cap * size ∧ cur.toList.take (n * size) = xs := by
  rcases h.2 with ⟨h1, _⟩ | ⟨g, cap, cur, h1, h2, h3, h4, h5, h6, h7⟩
  · exact absurd h1 hv
  · exact ⟨g, cap, cur, h1, h2, h3, h4, h5, h6, h7⟩

theorem SetIn.words_sl {w : World} {D : Nat → Prop} {b n X : Nat} (h : SetIn w D b n X) : ∃ c cap, w.cell? ⟨b, 0, none⟩ = some (.int .i64 (n : Int)) ∧
    w.cell? ⟨b, 1, none⟩ = some (.slice (some ⟨c, 0, none⟩) (nw n) cap) ∧ SlV w D (.slice (some ⟨c, 0, none⟩) (nw n) cap) 1 (nw n) (wordsX X (nw n)) := by
  obtain ⟨c, cap, hm1, hm2, h1, h2⟩ := h.words
  refine ⟨c, cap, by simp [World.cell?, h1], by simp [World.cell?, h1], _, cap, rfl, hm1, hm2, by simp [wordsX], by simp, ?_⟩
  rcases h2 with h2 | ⟨hD, cs, h3, h4⟩
  · left; simp [wordsX, h2]
  · refine .inr ⟨c, 0, rfl, hD, fun i hi => ?_⟩
    have hi' : i < nw n := by simpa [wordsX] using hi
    simp [World.cell?, h3, h4 i hi', wordsX, hi']
theorem SetIn.ofOwns {w : World} {base b n X g cap : Nat} (hn : n ≤ 65536) (hX : X < 2 ^ n) (hb : base ≤ b ∧ b < w.heap.size) (hbl : w.heap[b]? = some (.cells #[.int .i64 (n : Int), .slice (some ⟨g, 0, none⟩) (nw n) cap] 122 (0, 0)))
    (ho : w.ownsRow base 119 1 (.slice (some ⟨g, 0, none⟩) (nw n) cap) (nw n) (wordsX X (nw n))) : SetIn w (Iv base w.heap.size) b n X := by
  obtain ⟨g', cap', cur, h1, h2, h3, h4, h5, h6, h7⟩ := ownsRow_block ho (by simp)
  simp only [Value.slice.injEq, Option.some.injEq, Addr.mk.injEq, and_true, true_and] at h1
  obtain ⟨rfl, rfl⟩ := h1
  refine ⟨hn, hX, hb, g, cap, h4, h5, hbl, .inr ⟨⟨h2, (Array.getElem?_eq_some_iff.1 h3).1⟩, cur, h3, fun k hk => ?_⟩⟩
  have := congrArg (fun l : List Value => l[k]?) h7
  simp only [Nat.mul_one, List.getElem?_take, hk, if_true] at this
  simpa [wordsX, hk] using this

theorem copyNil_any (w : World) : Calls Tryz.prog 63 #[.pointer none] w fun e w' => e = .returned (.pointer none) ∧ w = w' := by
  go_enter Tryz.func63, Tryz.ntmps63
  go_wp2
  go_ret
  exact ⟨rfl, rfl⟩

theorem copy_any {w : World} {D : Nat → Prop} {b n X : Nat} (h : SetIn w D b n X) :
    Calls Tryz.prog 63 #[.pointer (some ⟨b, 0, none⟩)] w fun e w' => ∃ b', e = .returned (.pointer (some ⟨b', 0, none⟩)) ∧ Fx No w w' ∧ SetIn w' (Iv w.heap.size w'.heap.size) b' n X := by
  have hle := h.le
  have hlt := Lib.hid h.lt
  have hn := nw_le h.le
  obtain ⟨c, cap, h0, h1, hsl⟩ := h.words_sl
  have HS := Lib.hid hsl
  clear hsl h
  go_enter Tryz.func63, Tryz.ntmps63
  go_wp2
  go_region_with (go_at_call 84; refine (cloneWords_any (HS.out.keep (S := No) ((Fx.refl _ _).drew) No.disj) (by simp) (wordsX_one _ _) (by omega)).mono ?_; rintro e w1 ⟨v1, rfl, hf1, ho1, hn1⟩; obtain ⟨g, gcap, cur, rfl, _⟩ := ownsRow_block ho1 hn1; have h0' := hf1.cell' h0 (fun h => h); have HO := Lib.hid ho1; have HF := Lib.hid hf1; clear hf1 ho1 hn1)
  all_goals
    go_wp2
    go_ret
    refine ⟨_, rfl, ((Fx.refl No w).drew.trans HF.out).alloc _, ?_⟩
    have hs := HF.out.size
    simp only [World.size_drew] at hs
    refine SetIn.ofOwns (g := g) (cap := gcap) hle hlt.out ⟨hs, by simp⟩ (heap_alloc_new w1 _) (World.ownsRow.alloc ?_ _)
    have ho := HO.out
    simpa only [World.size_drew] using ho

/-- the table that TrailingZeros64 reads -/
def TabOk (w : World) : Prop := ∀ j, j < 64 → w.cell? ⟨0, j, none⟩ = some (.int .u8 ((Lib.deBruijn64tab.getD j 0 : Nat) : Int))
theorem TabOk.keep {w w1 : World} {S : Nat → Prop} (h : TabOk w) (hf : Fx S w w1) (hn : ¬ S 0) : TabOk w1 := fun j hj => hf.cell' (h j hj) hn

theorem tz_any (x : Nat) (w : World) (h : x < 18446744073709551616) (h0 : x ≠ 0) (hT : TabOk w) :
    Calls Tryz.prog 100 #[.int .u64 (x : Int)] w fun e w' => e = .returned (.int .i64 (Lib.ctz 64 x : Nat)) ∧ w = w' := by
  have h1 : ((x : Int) == 0) = false := by simpa using h0
  obtain ⟨hl, hk⟩ := Lib.lowest_bit 64 x h0 h
  obtain ⟨hd1, hd2⟩ := Lib.deBruijn64_at _ hk
  have hc := hT _ hd1
  rw [hd2] at hc
  have e1 : bits .and .u64 (x : Int) (IntKind.u64.wrap (-(x : Int))) = ((2 ^ Lib.ctz 64 x : Nat) : Int) := by
    have : IntKind.u64.wrap (-(x : Int)) = ((18446744073709551616 - x : Nat) : Int) := by rw [IntKind.wrap_u64]; omega
    rw [this, u64_and_nat x _ h (by omega)]
    exact congrArg _ hl
  generalize Lib.ctz 64 x = k at *
  have HK := Lib.hid hk
  obtain ⟨p, hp⟩ : ∃ p, 2 ^ k = p := ⟨_, rfl⟩
  rw [hp] at e1 hc hd1
  have e2 : IntKind.u64.wrap ((p : Int) * 285870213051353865) = ((p * 285870213051353865 % 18446744073709551616 : Nat) : Int) := by rw [IntKind.wrap_u64]; omega
  obtain ⟨q, hq⟩ : ∃ q, p * 285870213051353865 % 18446744073709551616 = q := ⟨_, rfl⟩
  rw [hq] at e2 hc hd1
  obtain ⟨r, hr⟩ : ∃ r, q / 288230376151711744 = r := ⟨_, rfl⟩
  rw [hr] at hc hd1
  have e3 : ((q : Int) / 288230376151711744) = (r : Int) := by omega
  clear hl hd2 hp hq hr h h0 hT
  go_enter Tryz.func100, Tryz.ntmps100
  go_wp2
  go_ret
  exact ⟨rfl, rfl⟩
#print axioms tz_any
#print axioms copy_any
#print axioms len_any
#print axioms cloneWords_any
end Go.Proofs.YtfpggeiphbekoaaGreatDoor

namespace Go.Proofs.YtfpggeiphbekoaaGreatDoor

/-- one step, on numbers of any length -/
def stepX (how : Nat) (a y : Nat) : Nat := if how = 0 then a ||| y else if how = 1 then a &&& y else diff a y
/-- the same on words -/
def stepW (how : Nat) (a y : Nat) : Nat := if how = 0 then a ||| y else if how = 1 then a &&& y else a &&& (18446744073709551615 - y)
def rawX (how : Nat) (X : Nat) (Ys : List Nat) : Nat := Ys.foldl (stepX how) X
def rawW (how : Nat) (x : Nat) (ys : List Nat) : Nat := ys.foldl (stepW how) x
theorem stepX_wd (how a y k : Nat) : wd (stepX how a y) k = stepW how (wd a k) (wd y k) := by
  unfold stepX stepW
  split
  · apply Nat.eq_of_testBit_eq; intro i; rw [wd_testBit, Nat.testBit_or, Nat.testBit_or, wd_testBit, wd_testBit]; cases decide (i < 64) <;> simp
  · split
    · apply Nat.eq_of_testBit_eq; intro i; rw [wd_testBit, Nat.testBit_and, Nat.testBit_and, wd_testBit, wd_testBit]; cases decide (i < 64) <;> simp
    · exact diff_wd a y k
theorem rawX_wd (how k : Nat) : ∀ (Ys : List Nat) (X : Nat), wd (rawX how X Ys) k = rawW how (wd X k) (Ys.map fun y => wd y k)
  | [], X => rfl
  | y :: Ys, X => by
    have := rawX_wd how k Ys (stepX how X y)
    rw [stepX_wd] at this
    exact this
theorem rawW_lt (how : Nat) : ∀ (ys : List Nat) (x : Nat), x < 18446744073709551616 → (∀ y ∈ ys, y < 18446744073709551616) → rawW how x ys < 18446744073709551616
  | [], x, h, _ => h
  | y :: ys, x, h, hy => by
    refine rawW_lt how ys (stepW how x y) ?_ (fun z hz => hy z (List.mem_cons_of_mem _ hz))
    have := hy y (List.mem_cons_self ..)
    unfold stepW
    split
    · have := @Nat.or_lt_two_pow x y 64 (by omega) (by omega); omega
    · split
      · exact Nat.lt_of_le_of_lt Nat.and_le_left h
      · exact Nat.lt_of_le_of_lt Nat.and_le_left h
theorem rawW_snoc (how x : Nat) (ys : List Nat) (y : Nat) : rawW how x (ys ++ [y]) = stepW how (rawW how x ys) y := by
  unfold rawW; rw [List.foldl_append]; rfl

/-- what the statement's reference does is this, of the first n bits -/
theorem doX_raw {n X : Nat} {L : List (Nat × Nat)} (how : Nat) (hX : X < 2 ^ n) : doX (how : Int) n X L = rawX how X (L.map (·.2)) % 2 ^ n := by
  unfold doX rawX
  rw [List.foldl_map]
  by_cases h0 : how = 0
  · subst h0; simp [stepX]
  · by_cases h1 : how = 1
    · subst h1
      have e : L.foldl (fun a p => a &&& p.2) X < 2 ^ n := by
        have := doX_lt (how := 1) (L := L) hX
        simpa [doX] using this
      simp only [Int.natCast_one, show ((1 : Int) = 0) = False by simp, if_false, if_true]
      rw [show (L.foldl (fun x y => stepX 1 x y.2) X) = L.foldl (fun a p => a &&& p.2) X from by simp [stepX], Nat.mod_eq_of_lt e]
    · have g0 : ¬ (how : Int) = 0 := by omega
      have g1 : ¬ (how : Int) = 1 := by omega
      have e : L.foldl (fun a p => diff a p.2) X < 2 ^ n := by
        have := doX_lt (how := (how : Int)) (L := L) hX
        unfold doX at this
        rwa [if_neg g0, if_neg g1] at this
      rw [if_neg g0, if_neg g1]
      rw [show (L.foldl (fun x y => stepX how x y.2) X) = L.foldl (fun a p => diff a p.2) X from by simp [stepX, h0, h1], Nat.mod_eq_of_lt e]

/-- a word cut at the set's size -/
theorem wd_cut (Z n k : Nat) (h : 64 * k ≤ n) : wd (Z % 2 ^ n) k = if n - 64 * k < 64 then wd Z k &&& (2 ^ (n - 64 * k) - 1) else wd Z k := by
  apply Nat.eq_of_testBit_eq
  intro i
  rw [wd_testBit, Nat.testBit_mod_two_pow]
  split
  · rename_i hc
    rw [Nat.testBit_and, wd_testBit, Nat.testBit_two_pow_sub_one]
    have e : decide (64 * k + i < n) = decide (i < n - 64 * k) := decide_eq_decide.2 (by omega)
    rw [e]
    cases decide (i < 64) <;> cases decide (i < n - 64 * k) <;> simp
  · rename_i hc
    rw [wd_testBit]
    by_cases hi : i < 64
    · have : 64 * k + i < n := by omega
      simp [hi, this]
    · simp [hi]
theorem wd_xor (X Y k : Nat) : wd (X ^^^ Y) k = wd X k ^^^ wd Y k := by
  apply Nat.eq_of_testBit_eq
  intro i
  rw [wd_testBit, Nat.testBit_xor, Nat.testBit_xor, wd_testBit, wd_testBit]
  cases decide (i < 64) <;> simp
theorem turn_words (X Y k : Nat) : cntX (64 * (k + 1)) (X ^^^ Y) = cntX (64 * k) (X ^^^ Y) + popN (wd X k ^^^ wd Y k) := by
  rw [cntX_words, wd_xor]
theorem turn_all {n X Y : Nat} (hX : X < 2 ^ n) (hY : Y < 2 ^ n) : cntX (64 * nw n) (X ^^^ Y) = turnN n X Y := cntX_all (Nat.xor_lt_two_pow hX hY)

/-- the first k words of Y, the others of X -/
def mixX (k X Y : Nat) : Nat := (Y % 2 ^ (64 * k)) ||| (X ^^^ X % 2 ^ (64 * k))
theorem mixX_testBit (k X Y i : Nat) : (mixX k X Y).testBit i = if i < 64 * k then Y.testBit i else X.testBit i := by
  unfold mixX
  rw [Nat.testBit_or, Nat.testBit_xor, Nat.testBit_mod_two_pow, Nat.testBit_mod_two_pow]
  by_cases h : i < 64 * k
  · simp [h]
  · simp [h]
theorem mixX_wd (k X Y j : Nat) : wd (mixX k X Y) j = if j < k then wd Y j else wd X j := by
  apply Nat.eq_of_testBit_eq
  intro i
  rw [wd_testBit, mixX_testBit]
  by_cases hi : i < 64
  · by_cases hj : j < k
    · have : 64 * j + i < 64 * k := by omega
      rw [if_pos this, if_pos hj, wd_testBit]
    · have : ¬ 64 * j + i < 64 * k := by omega
      rw [if_neg this, if_neg hj, wd_testBit]
  · have e : (if j < k then wd Y j else wd X j).testBit i = false := by
      split <;> (rw [wd_testBit]; simp [hi])
    rw [e]; simp [hi]
theorem mixX_lt {n X Y : Nat} (k : Nat) (hX : X < 2 ^ n) (hY : Y < 2 ^ n) : mixX k X Y < 2 ^ n := by
  apply Nat.lt_pow_two_of_testBit
  intro i hi
  rw [mixX_testBit]
  split
  · exact testBit_ge hY hi
  · exact testBit_ge hX hi
theorem mixX_zero (X Y : Nat) : mixX 0 X Y = X := by
  apply Nat.eq_of_testBit_eq
  intro i
  rw [mixX_testBit]; simp
theorem mixX_all {n X Y : Nat} (hX : X < 2 ^ n) (hY : Y < 2 ^ n) : mixX (nw n) X Y = Y := by
  apply Nat.eq_of_testBit_eq
  intro i
  rw [mixX_testBit]
  split
  · rfl
  · rw [testBit_ge hX (by unfold nw at *; omega), testBit_ge hY (by unfold nw at *; omega)]
theorem mixX_step (k X Y j : Nat) : wd (mixX (k + 1) X Y) j = if j = k then wd (mixX (k + 1) X Y) k else wd (mixX k X Y) j := by
  rw [mixX_wd, mixX_wd, mixX_wd]
  by_cases e : j = k
  · subst e; simp
  · have : j < k + 1 ↔ j < k := by omega
    simp [e, this]
theorem mixX_new (k X Y : Nat) : wd (mixX (k + 1) X Y) k = wd Y k := by rw [mixX_wd, if_pos (by omega)]
theorem mixX_old (k X Y : Nat) : wd (mixX k X Y) k = wd X k := by rw [mixX_wd, if_neg (by omega)]

/-! Go's operations on words -/
theorem go_or (x y : Nat) (hx : x < 18446744073709551616) (hy : y < 18446744073709551616) : bits .or .u64 (x : Int) (y : Int) = ((stepW 0 x y : Nat) : Int) := u64_or_nat x y hx hy
theorem go_and (x y : Nat) (hx : x < 18446744073709551616) (hy : y < 18446744073709551616) : bits .and .u64 (x : Int) (y : Int) = ((stepW 1 x y : Nat) : Int) := u64_and_nat x y hx hy
theorem go_andNot (x y : Nat) (hx : x < 18446744073709551616) (hy : y < 18446744073709551616) : bits .andNot .u64 (x : Int) (y : Int) = ((stepW 2 x y : Nat) : Int) := u64_andNot_nat x y hx hy
theorem go_xor (x y : Nat) (hx : x < 18446744073709551616) (hy : y < 18446744073709551616) : bits .xor .u64 (x : Int) (y : Int) = ((x ^^^ y : Nat) : Int) := u64_xor_nat x y hx hy
theorem go_cut (x c : Nat) (hx : x < 18446744073709551616) (hc : c < 64) : bits .and .u64 (x : Int) (IntKind.u64.wrap (IntKind.u64.wrap (2 ^ c) - 1)) = ((x &&& (2 ^ c - 1) : Nat) : Int) := by
  have hp : 2 ^ c < 2 ^ 64 := Nat.pow_lt_pow_right (by omega) (by omega)
  have hp0 : 0 < 2 ^ c := Nat.two_pow_pos _
  have e : ((2 : Int) ^ c) = ((2 ^ c : Nat) : Int) := by simp
  have e2 : IntKind.u64.wrap (IntKind.u64.wrap (2 ^ c) - 1) = ((2 ^ c - 1 : Nat) : Int) := by
    rw [e]
    generalize 2 ^ c = q at *
    rw [IntKind.wrap_u64, IntKind.wrap_u64]
    omega
  rw [e2]
  exact u64_and_nat _ _ hx (by omega)
#print axioms doX_raw
#print axioms wd_cut
end Go.Proofs.YtfpggeiphbekoaaGreatDoor

namespace Go.Proofs.YtfpggeiphbekoaaGreatDoor
open Go.RowKit
set_option linter.unusedVariables false

def gw (l : List Nat) (k : Nat) : Nat := l.getD k 0
def words (l : List Nat) : List Value := l.map fun x : Nat => .int .u64 (x : Int)
theorem words_one (l : List Nat) : One (words l) := by
  intro u hu
  obtain ⟨_, _, rfl⟩ := List.mem_map.1 hu
  rfl
theorem take_gw {l : List Nat} {k : Nat} (h : k < l.length) : l.take (k + 1) = l.take k ++ [gw l k] := by
  rw [List.take_succ_eq_append_getElem h]; simp [gw, h]
theorem gw_mem {l : List Nat} {k : Nat} (h : k < l.length) : gw l k ∈ l := by simp [gw, h]
theorem words_facts {w : World} {D : Nat → Prop} {v : Value} {l : List Nat} (h : SlV w D v 1 l.length (words l)) : ∃ ao cap, v = .slice ao l.length cap ∧ l.length ≤ 9223372036854775807 ∧
    ∀ k, k < l.length → ∃ b o, ao = some ⟨b, o, none⟩ ∧ D b ∧ w.cell? ⟨b, o + k, none⟩ = some (.int .u64 (gw l k : Int)) := by
  obtain ⟨ao, cap, h1, h2, h3, h4, h5, h6⟩ := h
  unfold maxLen at h3
  refine ⟨ao, cap, h1, by omega, fun k hk => ?_⟩
  obtain ⟨b, o, h7, h8, h9⟩ := h6.addr (by simp [words]; omega)
  have := h9 k (by simpa [words] using hk)
  exact ⟨b, o, h7, h8, by rw [this]; simp [words, gw, hk]⟩

/-- the closure of Join, Meet, Less -/
def toFn (how : Nat) : Nat := 66

theorem join1_any {w : World} {D : Nat → Prop} {v : Value} {l : List Nat} {x : Nat} (h : SlV w D v 1 l.length (words l)) (hx : x < 18446744073709551616) (hl : ∀ y ∈ l, y < 18446744073709551616) :
    Calls Tryz.prog 66 #[.int .u64 (x : Int), v] w fun e w' => e = .returned (.int .u64 (rawW 0 x l : Int)) ∧ w = w' := by
  obtain ⟨ao, cap, rfl, hlen, hc⟩ := words_facts h
  have HC := Lib.hid hc
  have HL := Lib.hid hl
  have HX := Lib.hid hx
  clear h hc hl hx
  go_enter Tryz.func66, Tryz.ntmps66
  go_wp2
  go_loop [0, 6, 9] (fun u _ i => ∃ k : Nat, k ≤ l.length ∧ i = .int .i64 k ∧ u = .int .u64 (rawW 0 x (l.take k) : Int)) (fun _ _ i => l.length - (intOf i).toNat)
  case atStart => exact ⟨0, Nat.zero_le _, rfl, rfl⟩
  case round =>
    obtain ⟨k, hk, rfl, rfl⟩ := hrel
    by_cases hlt : k < l.length
    · obtain ⟨b, o, rfl, _, hcell⟩ := HC.out k hlt
      have he := go_or (rawW 0 x (l.take k)) (gw l k) (rawW_lt 0 _ _ HX.out fun y hy => HL.out y (List.mem_of_mem_take hy)) (HL.out _ (gw_mem hlt))
      rw [← rawW_snoc, ← take_gw hlt] at he
      have HE := Lib.hid he
      clear he
      go_wp2
      go_round
      case rel => exact ⟨k + 1, by omega, by go_num, by rw [HE.out]⟩
      case measure => simp [intOf]; omega
    · obtain rfl : k = l.length := by omega
      go_wp2
      go_ret
      exact ⟨by simp, rfl⟩
theorem doesNil_any (w : World) (f v : Value) : Calls Tryz.prog 65 #[.pointer none, f, v] w fun e w' => e = .returned (.int .i64 0) ∧ w = w' := by
  go_enter Tryz.func65, Tryz.ntmps65
  go_wp2
  go_ret
  exact ⟨rfl, rfl⟩
/-- One of the sets that are handed in: a set of its own, or the very set that is turned (of which the words behind the k-th are as they were). -/
def itemOk (w : World) (E : Nat → Prop) (b k X : Nat) (q : Option Addr × Nat) : Prop :=
  (q.1 = some ⟨b, 0, none⟩ ∧ q.2 = X) ∨ ∃ m, SetP w E q.1 m q.2
def ptrs (L : List (Option Addr × Nat)) : List Value := L.map fun q => .pointer q.1
def gq (L : List (Option Addr × Nat)) (k : Nat) : Option Addr × Nat := L.getD k (none, 0)
theorem ptrs_facts {w : World} {D : Nat → Prop} {v : Value} {L : List (Option Addr × Nat)} (h : SlV w D v 1 L.length (ptrs L)) : ∃ ao cap, v = .slice ao L.length cap ∧ L.length ≤ 9223372036854775807 ∧
    ∀ k, k < L.length → ∃ b o, ao = some ⟨b, o, none⟩ ∧ D b ∧ w.cell? ⟨b, o + k, none⟩ = some (.pointer (gq L k).1) := by
  obtain ⟨ao, cap, h1, h2, h3, h4, h5, h6⟩ := h
  unfold maxLen at h3
  refine ⟨ao, cap, h1, by omega, fun k hk => ?_⟩
  obtain ⟨b, o, h7, h8, h9⟩ := h6.addr (by simp [ptrs]; omega)
  have := h9 k (by simpa [ptrs] using hk)
  exact ⟨b, o, h7, h8, by rw [this]; simp [ptrs, gq, hk]⟩
theorem gq_mem {L : List (Option Addr × Nat)} {k : Nat} (h : k < L.length) : gq L k ∈ L := by simp [gq, h]
theorem take_gq {L : List (Option Addr × Nat)} {k : Nat} (h : k < L.length) : L.take (k + 1) = L.take k ++ [gq L k] := by
  rw [List.take_succ_eq_append_getElem h]; simp [gq, h]
/-- the words number i of the sets -/
def row (L : List (Option Addr × Nat)) (i : Nat) : List Nat := L.map fun q => wd q.2 i
theorem row_length (L : List (Option Addr × Nat)) (i : Nat) : (row L i).length = L.length := by simp [row]
theorem row_take {L : List (Option Addr × Nat)} {k : Nat} (i : Nat) (h : k < L.length) : words (row (L.take (k + 1)) i) = words (row (L.take k) i) ++ [.int .u64 (wd (gq L k).2 i : Int)] := by
  rw [take_gq h]; simp [row, words]
theorem row_lt (L : List (Option Addr × Nat)) (i : Nat) : ∀ y ∈ row L i, y < 18446744073709551616 := by
  intro y hy
  obtain ⟨q, _, rfl⟩ := List.mem_map.1 hy
  exact wd_lt _ _

theorem SetIn.factsAt {w : World} {D : Nat → Prop} {b n X c cap : Nat} (h : SetIn w D b n X) (hc : w.cell? ⟨b, 1, none⟩ = some (.slice (some ⟨c, 0, none⟩) (nw n) cap)) :
    w.cell? ⟨b, 0, none⟩ = some (.int .i64 (n : Int)) ∧ (∀ k, k < nw n → w.cell? ⟨c, k, none⟩ = some (.int .u64 (wd X k)) ∧ w.frozen? ⟨c, k, none⟩ = false) ∧ (0 < nw n → D c ∧ c ≠ b) := by
  obtain ⟨c', cap', hm1, hm2, h1, h2⟩ := h.words
  have e : c' = c := by
    have : w.cell? ⟨b, 1, none⟩ = some (.slice (some ⟨c', 0, none⟩) (nw n) cap') := by simp [World.cell?, h1]
    rw [this] at hc
    simp only [Option.some.injEq, Value.slice.injEq, Addr.mk.injEq] at hc
    exact hc.1.1
  subst e
  refine ⟨by simp [World.cell?, h1], fun k hk => ?_, fun hn => ?_⟩
  · rcases h2 with h2 | ⟨_, cs, h3, h4⟩
    · omega
    · exact ⟨by simp [World.cell?, h3, h4 k hk], by simp [World.frozen?, h3]⟩
  · rcases h2 with h2 | ⟨hc, cs, h3, h4⟩
    · omega
    · exact ⟨hc, by rintro rfl; rw [h1] at h3; simp at h3⟩

set_option maxRecDepth 100000 in
set_option maxHeartbeats 1000000 in
theorem does_fn {w : World} {D E : Nat → Prop} {v : Value} {b n X Y f : Nat} {L : List (Option Addr × Nat)} {R : Nat → Nat} (hf : f = 66)
    (hto : ∀ (w : World) (D : Nat → Prop) (v : Value) (k : Nat), SlV w D v 1 (row L k).length (words (row L k)) → Calls Tryz.prog f #[.int .u64 (wd X k : Int), v] w fun e w' => e = .returned (.int .u64 (R k : Int)) ∧ w = w')
    (hR : ∀ k, R k < 18446744073709551616) (hY : Y < 2 ^ n) (hcut : ∀ k, 64 * k ≤ n → wd Y k = if n - 64 * k < 64 then R k &&& (2 ^ (n - 64 * k) - 1) else R k)
    (h : SetIn w D b n X) (hv : SlV w E v 1 L.length (ptrs L)) (hL : ∀ q ∈ L, itemOk w E b 0 X q) (hDE : ∀ k, E k → ¬ D k) (hlen : L.length ≤ 100000) :
    Calls Tryz.prog 65 #[.pointer (some ⟨b, 0, none⟩), .func (.func f) #[] #[], v] w fun e w' =>
      e = .returned (.int .i64 (turnN n X Y)) ∧ Fx D w w' ∧ SetIn w' D b n Y := by
  obtain ⟨i0, hi, hz, hs, hb⟩ := info_parts info_u64
  have hn := nw_le h.le
  have hn0 := h.le
  have HX := Lib.hid h.lt
  have HYl := Lib.hid hY
  have HH := Lib.hid h.bound
  have HTo := Lib.hid hto
  have HRl := Lib.hid hR
  have HCut := Lib.hid hcut
  have HL := Lib.hid hL
  have HDE := Lib.hid hDE
  obtain ⟨ao, acap, rfl, _, hcp⟩ := ptrs_facts hv
  have HCP := Lib.hid hcp
  obtain ⟨c, cap, hc0, hc1, _, _⟩ := h.facts
  clear h hv hto hR hcut hL hDE hcp hY
  subst hf
  all_goals
    go_enter Tryz.func65, Tryz.ntmps65
    go_wp2
    go_loopw [6, 21] (fun s i wr => ∃ k : Nat, i = .int .i64 k ∧ k ≤ nw n ∧ s = .int .i64 (cntX (64 * k) (X ^^^ Y)) ∧ Fx (fun j => D j ∧ j < w.heap.size) w wr ∧
        wr.cell? ⟨b, 1, none⟩ = some (.slice (some ⟨c, 0, none⟩) (nw n) cap) ∧ SetIn wr (fun j => D j ∧ j < w.heap.size) b n (mixX k X Y)) (fun _ i _ => nw n - (intOf i).toNat)
    case atStart => exact ⟨0, rfl, Nat.zero_le _, rfl, Fx.refl _ _, hc1, by rw [mixX_zero]; exact HH.out⟩
    case round =>
      obtain ⟨k, rfl, hk, rfl, hfr, hc2, hset⟩ := hrel
      have HF := Lib.hid hfr
      have HS := Lib.hid hset
      have hcl := cntX_le (64 * k) (X ^^^ Y)
      clear hfr hset
      by_cases hlt : k < nw n
      · obtain ⟨hd0, hd1, hd2⟩ := HS.out.factsAt hc2
        obtain ⟨hd3, hd4⟩ := hd1 k hlt
        rw [mixX_old] at hd3
        have HD1 := Lib.hid hd1
        have HD2 := Lib.hid hd2
        clear hd1 hd2
        obtain ⟨wo, rfl⟩ : ∃ wo : World, wo = wr := ⟨_, rfl⟩
        go_wp2
        go_loopw [9, 28] (fun u i wq => ∃ j : Nat, j ≤ L.length ∧ i = .int .i64 j ∧ wq.ownsRow wo.heap.size 119 1 u j (words (row (L.take j) k)) ∧ Fx No wo wq) (fun _ i _ => L.length - (intOf i).toNat)
        case atStart => exact ⟨0, Nat.zero_le _, rfl, World.ownsRow_nil _ _ _ _, Fx.refl _ _⟩
        case round =>
          obtain ⟨j, hj, rfl, ho, hfq⟩ := hrel
          have HO := Lib.hid ho
          have HFq := Lib.hid hfq
          clear ho hfq
          by_cases hjl : j < L.length
          · obtain ⟨bl, o, rfl, hE, hcell⟩ := HCP.out j hjl
            have hcell' := HFq.out.cell' (HF.out.cell' hcell (fun h => HDE.out _ hE h.1)) (fun h => h)
            have hat : Calls Tryz.prog 86 #[.pointer (gq L j).1, .int .i64 (k : Int)] wr fun e w' => e = .returned (.int .u64 (wd (gq L j).2 k : Int)) ∧ wr = w' := by
              rcases HL.out _ (gq_mem hjl) with ⟨h1, h2⟩ | ⟨m, h1⟩
              · rw [h1, h2]
                have := at_any (HS.out.p.no' HFq.out) k
                rwa [mixX_old] at this
              · exact at_any ((h1.keep HF.out (fun x hx hd => HDE.out x hx hd.1)).no' HFq.out) k
            have HAT := Lib.hid hat
            have HRT := Lib.hid (row_take k hjl)
            clear hcell hat
            go_wp2_with fail
            refine HAT.out.mono ?_
            rintro e w' ⟨rfl, rfl⟩
            go_wp2_with (at_builtin; refine wpList_append_sl rfl _ _ 120 rfl wo.heap.size 119 Tryz.underlying120 hi hz hs hb rfl (by decide) rfl (World.ownsRow.alloc HO.out _) rfl (SlV.lit wr 119 #[.int .u64 (wd (gq L j).2 k : Int)] 1 1 rfl (by unfold maxLen; omega)) (words_one [wd (gq L j).2 k]) (by unfold maxLen; omega) (by omega) (by have := HFq.out.size; simp; omega) ?_)
            intro u1 w1 hown1 hf1 _
            have HO1 : Hid (w1.ownsRow wo.heap.size 119 1 u1 (j + 1) (words (row (L.take (j + 1)) k))) := by
              rw [HRT.out]; exact hown1
            have HF1 : Hid (Fx No wo w1) := (HFq.out.alloc (.cells #[.int .u64 (wd (gq L j).2 k : Int)] 119)).trans' hf1 (fun x hx hlt => by have := (World.ownsRow.lt HO.out _ hx).1; omega)
            clear hown1 hf1
            go_wp2
            go_roundw
            case rel => exact ⟨j + 1, by omega, by go_num, HO1.out, HF1.out⟩
            case measure => simp [intOf]; omega
          · obtain rfl : j = L.length := by omega
            have hsl := SlV.ofOwns HO.out
            rw [List.take_length] at hsl
            have HSL : Hid (SlV wr (Iv wo.heap.size wr.heap.size) u9 1 (row L k).length (words (row L k))) := by rw [row_length]; exact hsl
            clear hsl
            go_wp2_with fail
            refine (HTo.out _ _ _ _ HSL.out).mono ?_
            rintro e w' ⟨rfl, rfl⟩
            have hg0 := HFq.out.cell' hd0 (fun h => h)
            have hg1 := HFq.out.cell' hc2 (fun h => h)
            obtain ⟨hg3, hg4⟩ := HFq.out.cellF hd3 hd4 (fun h => h)
            have hkn : 64 * k ≤ n := by unfold nw at hlt; omega
            have hck := HCut.out k hkn
            have hxr := go_xor (wd X k) (wd Y k) (wd_lt _ _) (wd_lt _ _)
            have HT := Lib.hid (turn_words X Y k)
            have hpop := cntX_le 64 (wd X k ^^^ wd Y k)
            rw [← popN_cntX (by have := @Nat.xor_lt_two_pow (wd X k) (wd Y k) 64 (wd_lt X k) (wd_lt Y k); omega)] at hpop
            clear hd0 hd3 hd4 hc2
            by_cases hov : n - 64 * k < 64
            · rw [if_pos hov] at hck
              have hgc := go_cut (R k) (n - k * 64) (HRl.out k) (by omega)
              rw [show n - k * 64 = n - 64 * k by omega, ← hck, show n - 64 * k = n - k * 64 by omega] at hgc
              have hlt1 : (n : Int) - (k : Int) * 64 < 64 := by omega
              have hlt2 : (0 : Int) ≤ (n : Int) - (k : Int) * 64 := by omega
              clear hck hov
              go_wp2_with fail
              refine (ones_any _ _ (Nat.xor_lt_two_pow (n := 64) (wd_lt X k) (wd_lt Y k))).mono ?_
              rintro e w' ⟨rfl, rfl⟩
              go_wp2
              go_roundw
              case rel =>
                have hset := (HS.out.no HFq.out).setWord hg1 hlt (mixX_lt (k + 1) HX.out HYl.out) (mixX_step k X Y)
                rw [mixX_new] at hset
                refine ⟨k + 1, by go_num, by omega, by rw [HT.out]; go_num, (HF.out.transNo HFq.out).setCell (.inr (HD2.out (by omega)).1) _, ?_, hset⟩
                rw [World.cell?_setCell_other _ _ _ _ (addr_ne (by simpa using (HD2.out (by omega)).2))]
                exact hg1
              case measure => simp [intOf]; omega
            · rw [if_neg hov] at hck
              rw [hck] at hxr
              have hge : (64 : Int) ≤ (n : Int) - (k : Int) * 64 := by omega
              have HCK := Lib.hid hck
              rw [hck] at hpop
              clear hck hov
              go_wp2_with fail
              refine (ones_any _ _ (Nat.xor_lt_two_pow (n := 64) (wd_lt X k) (HRl.out k))).mono ?_
              rintro e w' ⟨rfl, rfl⟩
              go_wp2
              go_roundw
              case rel =>
                have hset := (HS.out.no HFq.out).setWord hg1 hlt (mixX_lt (k + 1) HX.out HYl.out) (mixX_step k X Y)
                rw [mixX_new] at hset
                rw [HCK.out] at hset
                refine ⟨k + 1, by go_num, by omega, by rw [HT.out, HCK.out]; go_num, (HF.out.transNo HFq.out).setCell (.inr (HD2.out (by omega)).1) _, ?_, hset⟩
                rw [World.cell?_setCell_other _ _ _ _ (addr_ne (by simpa using (HD2.out (by omega)).2))]
                exact hg1
              case measure => simp [intOf]; omega
      · obtain rfl : k = nw n := by omega
        have HA := Lib.hid (turn_all HX.out HYl.out)
        go_wp2
        go_ret
        refine ⟨by rw [← HA.out]; rfl, HF.out.mono fun j _ hj => hj.1, ?_⟩
        have := HS.out
        rw [mixX_all HX.out HYl.out] at this
        exact this.mono fun j hj => hj.1

/-- Join (0), Meet (1), Less (2) of sets -/
theorem does_any {w : World} {D E : Nat → Prop} {v : Value} {b n X : Nat} {L : List (Option Addr × Nat)} (how : Nat) (hhow : how ≤ 0) (h : SetIn w D b n X) (hv : SlV w E v 1 L.length (ptrs L)) (hL : ∀ q ∈ L, itemOk w E b 0 X q)
    (hDE : ∀ k, E k → ¬ D k) (hlen : L.length ≤ 100000) :
    Calls Tryz.prog 65 #[.pointer (some ⟨b, 0, none⟩), .func (.func (toFn how)) #[] #[], v] w fun e w' =>
      e = .returned (.int .i64 (turnN n X (rawX how X (L.map (·.2)) % 2 ^ n))) ∧ Fx D w w' ∧ SetIn w' D b n (rawX how X (L.map (·.2)) % 2 ^ n) := by
  refine does_fn (R := fun k => rawW how (wd X k) (row L k)) ?_ ?_ (fun k => rawW_lt _ _ _ (wd_lt X k) (row_lt L k)) (Nat.mod_lt _ (Nat.two_pow_pos n)) ?_ h hv hL hDE hlen
  · rfl
  · intro w D v k hs
    obtain rfl : how = 0 := by omega
    exact join1_any hs (wd_lt X k) (row_lt L k)
  · intro k hk
    rw [wd_cut _ _ _ hk, rawX_wd, List.map_map]
    rfl
#print axioms join1_any
#print axioms doesNil_any
#print axioms does_any
end Go.Proofs.YtfpggeiphbekoaaGreatDoor
