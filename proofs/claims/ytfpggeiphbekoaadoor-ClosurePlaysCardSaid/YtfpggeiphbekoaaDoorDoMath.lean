/- Join, Meet, Less, word by word: plain arithmetic. -/
import Derived.Test.YtfpggeiphbekoaaDoorBitsList
import Derived.Test.YtfpggeiphbekoaaDoorPop
namespace Go.Proofs.YtfpggeiphbekoaaDoor

/-- one step, on numbers of any length -/
def stepX (how : Nat) (a y : Nat) : Nat := if how = 0 then a ||| y else if how = 1 then a &&& y else diff a y
/-- the same on words -/
def stepW (how : Nat) (a y : Nat) : Nat := if how = 0 then a ||| y else if how = 1 then a &&& y else a &&& (18446744073709551615 - y)
def rawX (how : Nat) (X : Nat) (Ys : List Nat) : Nat := Ys.foldl (stepX how) X
def rawW (how : Nat) (x : Nat) (ys : List Nat) : Nat := ys.foldl (stepW how) x
theorem stepX_wd (how a y k : Nat) : wd (stepX how a y) k = stepW how (wd a k) (wd y k) := by
  unfold stepX stepW
  split
  · apply Nat.eq_of_testBit_eq; intro i; rw [wd_testBit, Nat.testBit_or, Nat.testBit_or, wd_testBit, wd_testBit]; cases decide (i < 64) <;> simp
  · split
    · apply Nat.eq_of_testBit_eq; intro i; rw [wd_testBit, Nat.testBit_and, Nat.testBit_and, wd_testBit, wd_testBit]; cases decide (i < 64) <;> simp
    · exact diff_wd a y k
theorem rawX_wd (how k : Nat) : ∀ (Ys : List Nat) (X : Nat), wd (rawX how X Ys) k = rawW how (wd X k) (Ys.map fun y => wd y k)
  | [], X => rfl
  | y :: Ys, X => by
    have := rawX_wd how k Ys (stepX how X y)
    rw [stepX_wd] at this
    exact this
theorem rawW_lt (how : Nat) : ∀ (ys : List Nat) (x : Nat), x < 18446744073709551616 → (∀ y ∈ ys, y < 18446744073709551616) → rawW how x ys < 18446744073709551616
  | [], x, h, _ => h
  | y :: ys, x, h, hy => by
    refine rawW_lt how ys (stepW how x y) ?_ (fun z hz => hy z (List.mem_cons_of_mem _ hz))
    have := hy y (List.mem_cons_self ..)
    unfold stepW
    split
    · have := @Nat.or_lt_two_pow x y 64 (by omega) (by omega); omega
    · split
      · exact Nat.lt_of_le_of_lt Nat.and_le_left h
      · exact Nat.lt_of_le_of_lt Nat.and_le_left h
theorem rawW_snoc (how x : Nat) (ys : List Nat) (y : Nat) : rawW how x (ys ++ [y]) = stepW how (rawW how x ys) y := by
  unfold rawW; rw [List.foldl_append]; rfl

/-- what the statement's reference does is this, of the first n bits -/
theorem doX_raw {n X : Nat} {L : List (Nat × Nat)} (how : Nat) (hX : X < 2 ^ n) : doX (how : Int) n X L = rawX how X (L.map (·.2)) % 2 ^ n := by
  unfold doX rawX
  rw [List.foldl_map]
  by_cases h0 : how = 0
  · subst h0; simp [stepX]
  · by_cases h1 : how = 1
    · subst h1
      have e : L.foldl (fun a p => a &&& p.2) X < 2 ^ n := by
        have := doX_lt (how := 1) (L := L) hX
        simpa [doX] using this
      simp only [Int.natCast_one, show ((1 : Int) = 0) = False by simp, if_false, if_true]
      rw [show (L.foldl (fun x y => stepX 1 x y.2) X) = L.foldl (fun a p => a &&& p.2) X from by simp [stepX], Nat.mod_eq_of_lt e]
    · have g0 : ¬ (how : Int) = 0 := by omega
      have g1 : ¬ (how : Int) = 1 := by omega
      have e : L.foldl (fun a p => diff a p.2) X < 2 ^ n := by
        have := doX_lt (how := (how : Int)) (L := L) hX
        unfold doX at this
        rwa [if_neg g0, if_neg g1] at this
      rw [if_neg g0, if_neg g1]
      rw [show (L.foldl (fun x y => stepX how x y.2) X) = L.foldl (fun a p => diff a p.2) X from by simp [stepX, h0, h1], Nat.mod_eq_of_lt e]

/-- a word cut at the set's size -/
theorem wd_cut (Z n k : Nat) (h : 64 * k ≤ n) : wd (Z % 2 ^ n) k = if n - 64 * k < 64 then wd Z k &&& (2 ^ (n - 64 * k) - 1) else wd Z k := by
  apply Nat.eq_of_testBit_eq
  intro i
  rw [wd_testBit, Nat.testBit_mod_two_pow]
  split
  · rename_i hc
    rw [Nat.testBit_and, wd_testBit, Nat.testBit_two_pow_sub_one]
    have e : decide (64 * k + i < n) = decide (i < n - 64 * k) := decide_eq_decide.2 (by omega)
    rw [e]
    cases decide (i < 64) <;> cases decide (i < n - 64 * k) <;> simp
  · rename_i hc
    rw [wd_testBit]
    by_cases hi : i < 64
    · have : 64 * k + i < n := by omega
      simp [hi, this]
    · simp [hi]
theorem wd_xor (X Y k : Nat) : wd (X ^^^ Y) k = wd X k ^^^ wd Y k := by
  apply Nat.eq_of_testBit_eq
  intro i
  rw [wd_testBit, Nat.testBit_xor, Nat.testBit_xor, wd_testBit, wd_testBit]
  cases decide (i < 64) <;> simp
theorem turn_words (X Y k : Nat) : cntX (64 * (k + 1)) (X ^^^ Y) = cntX (64 * k) (X ^^^ Y) + popN (wd X k ^^^ wd Y k) := by
  rw [cntX_words, wd_xor]
theorem turn_all {n X Y : Nat} (hX : X < 2 ^ n) (hY : Y < 2 ^ n) : cntX (64 * nw n) (X ^^^ Y) = turnN n X Y := cntX_all (Nat.xor_lt_two_pow hX hY)

/-- the first k words of Y, the others of X -/
def mixX (k X Y : Nat) : Nat := (Y % 2 ^ (64 * k)) ||| (X ^^^ X % 2 ^ (64 * k))
theorem mixX_testBit (k X Y i : Nat) : (mixX k X Y).testBit i = if i < 64 * k then Y.testBit i else X.testBit i := by
  unfold mixX
  rw [Nat.testBit_or, Nat.testBit_xor, Nat.testBit_mod_two_pow, Nat.testBit_mod_two_pow]
  by_cases h : i < 64 * k
  · simp [h]
  · simp [h]
theorem mixX_wd (k X Y j : Nat) : wd (mixX k X Y) j = if j < k then wd Y j else wd X j := by
  apply Nat.eq_of_testBit_eq
  intro i
  rw [wd_testBit, mixX_testBit]
  by_cases hi : i < 64
  · by_cases hj : j < k
    · have : 64 * j + i < 64 * k := by omega
      rw [if_pos this, if_pos hj, wd_testBit]
    · have : ¬ 64 * j + i < 64 * k := by omega
      rw [if_neg this, if_neg hj, wd_testBit]
  · have e : (if j < k then wd Y j else wd X j).testBit i = false := by
      split <;> (rw [wd_testBit]; simp [hi])
    rw [e]; simp [hi]
theorem mixX_lt {n X Y : Nat} (k : Nat) (hX : X < 2 ^ n) (hY : Y < 2 ^ n) : mixX k X Y < 2 ^ n := by
  apply Nat.lt_pow_two_of_testBit
  intro i hi
  rw [mixX_testBit]
  split
  · exact testBit_ge hY hi
  · exact testBit_ge hX hi
theorem mixX_zero (X Y : Nat) : mixX 0 X Y = X := by
  apply Nat.eq_of_testBit_eq
  intro i
  rw [mixX_testBit]; simp
theorem mixX_all {n X Y : Nat} (hX : X < 2 ^ n) (hY : Y < 2 ^ n) : mixX (nw n) X Y = Y := by
  apply Nat.eq_of_testBit_eq
  intro i
  rw [mixX_testBit]
  split
  · rfl
  · rw [testBit_ge hX (by unfold nw at *; omega), testBit_ge hY (by unfold nw at *; omega)]
theorem mixX_step (k X Y j : Nat) : wd (mixX (k + 1) X Y) j = if j = k then wd (mixX (k + 1) X Y) k else wd (mixX k X Y) j := by
  rw [mixX_wd, mixX_wd, mixX_wd]
  by_cases e : j = k
  · subst e; simp
  · have : j < k + 1 ↔ j < k := by omega
    simp [e, this]
theorem mixX_new (k X Y : Nat) : wd (mixX (k + 1) X Y) k = wd Y k := by rw [mixX_wd, if_pos (by omega)]
theorem mixX_old (k X Y : Nat) : wd (mixX k X Y) k = wd X k := by rw [mixX_wd, if_neg (by omega)]

/-! Go's operations on words -/
theorem go_or (x y : Nat) (hx : x < 18446744073709551616) (hy : y < 18446744073709551616) : bits .or .u64 (x : Int) (y : Int) = ((stepW 0 x y : Nat) : Int) := u64_or_nat x y hx hy
theorem go_and (x y : Nat) (hx : x < 18446744073709551616) (hy : y < 18446744073709551616) : bits .and .u64 (x : Int) (y : Int) = ((stepW 1 x y : Nat) : Int) := u64_and_nat x y hx hy
theorem go_andNot (x y : Nat) (hx : x < 18446744073709551616) (hy : y < 18446744073709551616) : bits .andNot .u64 (x : Int) (y : Int) = ((stepW 2 x y : Nat) : Int) := u64_andNot_nat x y hx hy
theorem go_xor (x y : Nat) (hx : x < 18446744073709551616) (hy : y < 18446744073709551616) : bits .xor .u64 (x : Int) (y : Int) = ((x ^^^ y : Nat) : Int) := u64_xor_nat x y hx hy
theorem go_cut (x c : Nat) (hx : x < 18446744073709551616) (hc : c < 64) : bits .and .u64 (x : Int) (IntKind.u64.wrap (IntKind.u64.wrap (2 ^ c) - 1)) = ((x &&& (2 ^ c - 1) : Nat) : Int) := by
  have hp : 2 ^ c < 2 ^ 64 := Nat.pow_lt_pow_right (by omega) (by omega)
  have hp0 : 0 < 2 ^ c := Nat.two_pow_pos _
  have e : ((2 : Int) ^ c) = ((2 ^ c : Nat) : Int) := by simp
  have e2 : IntKind.u64.wrap (IntKind.u64.wrap (2 ^ c) - 1) = ((2 ^ c - 1 : Nat) : Int) := by
    rw [e]
    generalize 2 ^ c = q at *
    rw [IntKind.wrap_u64, IntKind.wrap_u64]
    omega
  rw [e2]
  exact u64_and_nat _ _ hx (by omega)
#print axioms doX_raw
#print axioms wd_cut
end Go.Proofs.YtfpggeiphbekoaaDoor
