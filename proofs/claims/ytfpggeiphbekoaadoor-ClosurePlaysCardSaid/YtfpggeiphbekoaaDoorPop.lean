/- math/bits.OnesCount64's steps count the bits of a word: plain arithmetic, and the walk. -/
import Derived.Test.YtfpggeiphbekoaaDoorBitsList
import Derived.Test.YtfpggeiphbekoaaDoorProg
namespace Go.Proofs.YtfpggeiphbekoaaDoor
open Go.RowKit
set_option linter.unusedVariables false

def pc4 (n : Nat) : Nat := n % 2 + n / 2 % 2 + n / 4 % 2 + n / 8 % 2
/-- the masks, digit by digit -/
def mk (d b : Nat) : Nat → Nat
  | 0 => 0
  | k + 1 => d + b * mk d b k
theorem and_digit {a b X Y : Nat} (ha : a < 16) (hb : b < 16) : (a + 16 * X) &&& (b + 16 * Y) = (a &&& b) + 16 * (X &&& Y) := by
  have e1 : ∀ (a X : Nat), a < 16 → (a + 16 * X) % 16 = a := fun a X h => by omega
  have e2 : ∀ (a X : Nat), a < 16 → (a + 16 * X) / 16 = X := fun a X h => by omega
  have h1 : ((a + 16 * X) &&& (b + 16 * Y)) % 16 = a &&& b := by
    have := @Nat.and_mod_two_pow (a + 16 * X) (b + 16 * Y) 4
    rw [show (2 : Nat) ^ 4 = 16 from rfl, e1 a X ha, e1 b Y hb] at this
    exact this
  have h2 : ((a + 16 * X) &&& (b + 16 * Y)) / 16 = X &&& Y := by
    have := @Nat.and_div_two_pow (a + 16 * X) (b + 16 * Y) 4
    rw [show (2 : Nat) ^ 4 = 16 from rfl, e2 a X ha, e2 b Y hb] at this
    exact this
  omega
/-- the packed counts of the four-bit digits -/
def packed : Nat → Nat → Nat
  | 0, _ => 0
  | k + 1, x => pc4 (x % 16) + 16 * packed k (x / 16)
def s1 (x m : Nat) : Nat := (x / 2 &&& m) + (x &&& m)
def s2 (y m : Nat) : Nat := (y / 4 &&& m) + (y &&& m)
theorem and_digit' {a b X Y m n : Nat} (ha : a < 16) (hb : b < 16) (hm : m = a + 16 * X) (hn : n = b + 16 * Y) : m &&& n = (a &&& b) + 16 * (X &&& Y) := by
  subst hm hn; exact and_digit ha hb
theorem s1_digit (a : Nat) (ha : a < 16) (r : Nat) (hr : r < 2) : (a / 2 + 8 * r) &&& 5 = a / 2 &&& 5 := by
  have : ∀ a, a < 16 → ∀ r, r < 2 → (a / 2 + 8 * r) &&& 5 = a / 2 &&& 5 := by decide
  exact this a ha r hr
theorem s2_digit (a : Nat) (ha : a < 16) (r : Nat) (hr : r < 4) : (a / 4 + 4 * r) &&& 3 = a / 4 &&& 3 := by
  have : ∀ a, a < 16 → ∀ r, r < 4 → (a / 4 + 4 * r) &&& 3 = a / 4 &&& 3 := by decide
  exact this a ha r hr
theorem s1_step {a R m : Nat} (ha : a < 16) : s1 (a + 16 * R) (5 + 16 * m) = ((a / 2 &&& 5) + (a &&& 5)) + 16 * s1 R m := by
  unfold s1
  rw [and_digit' (a := a / 2 + 8 * (R % 2)) (X := R / 2) (b := 5) (Y := m) (by omega) (by omega) (by omega) rfl, and_digit ha (by omega), s1_digit a ha _ (by omega)]
  omega
theorem s2_step {a R m : Nat} (ha : a < 16) : s2 (a + 16 * R) (3 + 16 * m) = ((a / 4 &&& 3) + (a &&& 3)) + 16 * s2 R m := by
  unfold s2
  rw [and_digit' (a := a / 4 + 4 * (R % 4)) (X := R / 4) (b := 3) (Y := m) (by omega) (by omega) (by omega) rfl, and_digit ha (by omega), s2_digit a ha _ (by omega)]
  omega
theorem s12_packed : ∀ (k x : Nat), x < 16 ^ k → s2 (s1 x (mk 5 16 k)) (mk 3 16 k) = packed k x
  | 0, x, h => by
    obtain rfl : x = 0 := by simpa using h
    rfl
  | k + 1, x, h => by
    have hq : x / 16 < 16 ^ k := by rw [Nat.pow_succ] at h; omega
    have hx : x = x % 16 + 16 * (x / 16) := by omega
    have hd : ∀ a, a < 16 → (a / 2 &&& 5) + (a &&& 5) < 16 ∧ (((a / 2 &&& 5) + (a &&& 5)) / 4 &&& 3) + (((a / 2 &&& 5) + (a &&& 5)) &&& 3) = pc4 a := by decide
    have h1 := hd (x % 16) (Nat.mod_lt _ (by omega))
    show s2 (s1 x (5 + 16 * mk 5 16 k)) (3 + 16 * mk 3 16 k) = pc4 (x % 16) + 16 * packed k (x / 16)
    rw [← s12_packed k (x / 16) hq]
    generalize mk 5 16 k = m5
    generalize mk 3 16 k = m3
    have e1 : s1 x (5 + 16 * m5) = ((x % 16 / 2 &&& 5) + (x % 16 &&& 5)) + 16 * s1 (x / 16) m5 := by
      have := s1_step (a := x % 16) (R := x / 16) (m := m5) (Nat.mod_lt _ (by omega))
      rwa [← hx] at this
    rw [e1, s2_step h1.1, h1.2]

theorem and_byte {a X Y : Nat} (ha : a < 256) : (a + 256 * X) &&& (15 + 256 * Y) = (a &&& 15) + 256 * (X &&& Y) := by
  have h1 : ((a + 256 * X) &&& (15 + 256 * Y)) % 256 = a &&& 15 := by
    have := @Nat.and_mod_two_pow (a + 256 * X) (15 + 256 * Y) 8
    rw [show (2 : Nat) ^ 8 = 256 from rfl, show (a + 256 * X) % 256 = a by omega, show (15 + 256 * Y) % 256 = 15 by omega] at this
    exact this
  have h2 : ((a + 256 * X) &&& (15 + 256 * Y)) / 256 = X &&& Y := by
    have := @Nat.and_div_two_pow (a + 256 * X) (15 + 256 * Y) 8
    rw [show (2 : Nat) ^ 8 = 256 from rfl, show (a + 256 * X) / 256 = X by omega, show (15 + 256 * Y) / 256 = Y by omega] at this
    exact this
  omega
theorem and_byte' {p q X Y n m : Nat} (hp : p ≤ 8) (hq : q < 16) (hn : n = p + 16 * q + 256 * X) (hm : m = 15 + 256 * Y) : n &&& m = p + 256 * (X &&& Y) := by
  subst hn hm
  rw [and_byte (a := p + 16 * q) (by omega)]
  have : (p + 16 * q) &&& 15 = p := by
    have := Nat.and_two_pow_sub_one_eq_mod (p + 16 * q) 4
    rw [show (2 : Nat) ^ 4 - 1 = 15 from rfl, show (2 : Nat) ^ 4 = 16 from rfl] at this
    omega
  rw [this]

/-- the sum of the counts of k four-bit digits -/
def pcs : Nat → Nat → Nat
  | 0, _ => 0
  | k + 1, x => pc4 (x % 16) + pcs k (x / 16)
theorem pc4_le (n : Nat) : pc4 n ≤ 4 := by unfold pc4; omega

def s3 (z m : Nat) : Nat := (z / 16 + z) &&& m
def s4 (a : Nat) : Nat := a + a / 256
def s5 (a : Nat) : Nat := a + a / 65536
def s6 (a : Nat) : Nat := a + a / 4294967296

theorem s3_digits (p0 p1 p2 p3 p4 p5 p6 p7 p8 p9 p10 p11 p12 p13 p14 p15 : Nat)
    (h0 : p0 ≤ 4) (h1 : p1 ≤ 4) (h2 : p2 ≤ 4) (h3 : p3 ≤ 4) (h4 : p4 ≤ 4) (h5 : p5 ≤ 4) (h6 : p6 ≤ 4) (h7 : p7 ≤ 4) (h8 : p8 ≤ 4) (h9 : p9 ≤ 4) (h10 : p10 ≤ 4) (h11 : p11 ≤ 4) (h12 : p12 ≤ 4) (h13 : p13 ≤ 4) (h14 : p14 ≤ 4) (h15 : p15 ≤ 4) :
    s3 (p0 + 16 * (p1 + 16 * (p2 + 16 * (p3 + 16 * (p4 + 16 * (p5 + 16 * (p6 + 16 * (p7 + 16 * (p8 + 16 * (p9 + 16 * (p10 + 16 * (p11 + 16 * (p12 + 16 * (p13 + 16 * (p14 + 16 * p15))))))))))))))) 1085102592571150095 =
      (p0 + p1) + 256 * ((p2 + p3) + 256 * ((p4 + p5) + 256 * ((p6 + p7) + 256 * ((p8 + p9) + 256 * ((p10 + p11) + 256 * ((p12 + p13) + 256 * (p14 + p15))))))) := by
  unfold s3
  rw [and_byte' (p := p0 + p1) (q := p1 + p2) (X := (p2 + p3) + 16 * (p3 + p4) + 256 * ((p4 + p5) + 16 * (p5 + p6) + 256 * ((p6 + p7) + 16 * (p7 + p8) + 256 * ((p8 + p9) + 16 * (p9 + p10) + 256 * ((p10 + p11) + 16 * (p11 + p12) + 256 * ((p12 + p13) + 16 * (p13 + p14) + 256 * ((p14 + p15) + 16 * p15)))))))
    (Y := 4238682002231055) (by omega) (by omega) (by omega) (by omega)]
  rw [and_byte' (p := p2 + p3) (q := p3 + p4) (Y := 16557351571215) (by omega) (by omega) rfl (by omega)]
  rw [and_byte' (p := p4 + p5) (q := p5 + p6) (Y := 64677154575) (by omega) (by omega) rfl (by omega)]
  rw [and_byte' (p := p6 + p7) (q := p7 + p8) (Y := 252645135) (by omega) (by omega) rfl (by omega)]
  rw [and_byte' (p := p8 + p9) (q := p9 + p10) (Y := 986895) (by omega) (by omega) rfl (by omega)]
  rw [and_byte' (p := p10 + p11) (q := p11 + p12) (Y := 3855) (by omega) (by omega) rfl (by omega)]
  rw [and_byte' (p := p12 + p13) (q := p13 + p14) (Y := 15) (by omega) (by omega) rfl (by omega)]
  rw [and_byte' (p := p14 + p15) (q := p15) (X := 0) (Y := 0) (by omega) (by omega) (by omega) (by omega)]
  simp

theorem s456 (q0 q1 q2 q3 q4 q5 q6 q7 : Nat) (h0 : q0 ≤ 8) (h1 : q1 ≤ 8) (h2 : q2 ≤ 8) (h3 : q3 ≤ 8) (h4 : q4 ≤ 8) (h5 : q5 ≤ 8) (h6 : q6 ≤ 8) (h7 : q7 ≤ 8) :
    s6 (s5 (s4 (q0 + 256 * (q1 + 256 * (q2 + 256 * (q3 + 256 * (q4 + 256 * (q5 + 256 * (q6 + 256 * q7))))))))) % 128 = q0 + q1 + q2 + q3 + q4 + q5 + q6 + q7 := by
  have e4 : s4 (q0 + 256 * (q1 + 256 * (q2 + 256 * (q3 + 256 * (q4 + 256 * (q5 + 256 * (q6 + 256 * q7))))))) =
      (q0 + q1) + 256 * ((q1 + q2) + 256 * ((q2 + q3) + 256 * ((q3 + q4) + 256 * ((q4 + q5) + 256 * ((q5 + q6) + 256 * ((q6 + q7) + 256 * q7)))))) := by
    unfold s4; omega
  rw [e4]
  have e5 : s5 ((q0 + q1) + 256 * ((q1 + q2) + 256 * ((q2 + q3) + 256 * ((q3 + q4) + 256 * ((q4 + q5) + 256 * ((q5 + q6) + 256 * ((q6 + q7) + 256 * q7))))))) =
      (q0 + q1 + q2 + q3) + 256 * ((q1 + q2 + q3 + q4) + 256 * ((q2 + q3 + q4 + q5) + 256 * ((q3 + q4 + q5 + q6) + 256 * ((q4 + q5 + q6 + q7) + 256 * ((q5 + q6 + q7) + 256 * ((q6 + q7) + 256 * q7)))))) := by
    unfold s5; omega
  rw [e5]
  clear e4 e5
  unfold s6
  have fin : ∀ a b c d e f g h : Nat, a ≤ 32 → b ≤ 32 → c ≤ 32 → d ≤ 32 → ((a + 256 * (b + 256 * (c + 256 * (d + 256 * (e + 256 * (f + 256 * (g + 256 * h))))))) + (a + 256 * (b + 256 * (c + 256 * (d + 256 * (e + 256 * (f + 256 * (g + 256 * h))))))) / 4294967296) % 128 = (a + e) % 128 := by
    intro a b c d e f g h ha hb hc hd
    have e1 : (a + 256 * (b + 256 * (c + 256 * (d + 256 * (e + 256 * (f + 256 * (g + 256 * h))))))) / 4294967296 = e + 256 * (f + 256 * (g + 256 * h)) := by
      generalize e + 256 * (f + 256 * (g + 256 * h)) = t
      omega
    rw [e1]
    generalize f + 256 * (g + 256 * h) = t
    omega
  rw [fin _ _ _ _ _ _ _ _ (by omega) (by omega) (by omega) (by omega)]
  omega

/-- the count of the bits of a word -/
def popN (x : Nat) : Nat := s6 (s5 (s4 (s3 (s2 (s1 x 6148914691236517205) 3689348814741910323) 1085102592571150095))) % 128
theorem packed_le : ∀ k x, packed k x < 16 ^ k
  | 0, _ => by simp [packed]
  | k + 1, x => by
    have := packed_le k (x / 16)
    have := pc4_le (x % 16)
    unfold packed; rw [Nat.pow_succ]; omega
theorem s12_eq {x : Nat} (h : x < 18446744073709551616) : s2 (s1 x 6148914691236517205) 3689348814741910323 = packed 16 x := by
  have := s12_packed 16 x (by omega)
  rwa [show mk 5 16 16 = 6148914691236517205 from by decide, show mk 3 16 16 = 3689348814741910323 from by decide] at this
theorem popN_pcs {x : Nat} (h : x < 18446744073709551616) : popN x = pcs 16 x := by
  unfold popN
  rw [s12_eq h]
  simp only [packed, pcs, Nat.mul_zero, Nat.add_zero]
  rw [s3_digits _ _ _ _ _ _ _ _ _ _ _ _ _ _ _ _ (pc4_le _) (pc4_le _) (pc4_le _) (pc4_le _) (pc4_le _) (pc4_le _) (pc4_le _) (pc4_le _) (pc4_le _) (pc4_le _) (pc4_le _) (pc4_le _) (pc4_le _) (pc4_le _) (pc4_le _) (pc4_le _)]
  have hp := pc4_le
  rw [s456 _ _ _ _ _ _ _ _ (by have := hp (x % 16); have := hp (x / 16 % 16); omega) (by have := hp (x / 16 / 16 % 16); have := hp (x / 16 / 16 / 16 % 16); omega)
    (by have := hp (x / 16 / 16 / 16 / 16 % 16); have := hp (x / 16 / 16 / 16 / 16 / 16 % 16); omega) (by have := hp (x / 16 / 16 / 16 / 16 / 16 / 16 % 16); have := hp (x / 16 / 16 / 16 / 16 / 16 / 16 / 16 % 16); omega)
    (by have := hp (x / 16 / 16 / 16 / 16 / 16 / 16 / 16 / 16 % 16); have := hp (x / 16 / 16 / 16 / 16 / 16 / 16 / 16 / 16 / 16 % 16); omega)
    (by have := hp (x / 16 / 16 / 16 / 16 / 16 / 16 / 16 / 16 / 16 / 16 % 16); have := hp (x / 16 / 16 / 16 / 16 / 16 / 16 / 16 / 16 / 16 / 16 / 16 % 16); omega)
    (by have := hp (x / 16 / 16 / 16 / 16 / 16 / 16 / 16 / 16 / 16 / 16 / 16 / 16 % 16); have := hp (x / 16 / 16 / 16 / 16 / 16 / 16 / 16 / 16 / 16 / 16 / 16 / 16 / 16 % 16); omega)
    (by have := hp (x / 16 / 16 / 16 / 16 / 16 / 16 / 16 / 16 / 16 / 16 / 16 / 16 / 16 / 16 % 16); have := hp (x / 16 / 16 / 16 / 16 / 16 / 16 / 16 / 16 / 16 / 16 / 16 / 16 / 16 / 16 / 16 % 16); omega)]
  omega

/-- how many numbers below m -/
def cntX (m X : Nat) : Nat := (allX m X).length
theorem cntX_succ (m X : Nat) : cntX (m + 1) X = cntX m X + if X.testBit m then 1 else 0 := by
  unfold cntX; rw [allX_succ, List.length_append]; cases X.testBit m <;> rfl
theorem cntX_add (a b X : Nat) : cntX (a + b) X = cntX a X + cntX b (X / 2 ^ a) := by
  induction b with
  | zero => simp [cntX, allX_zero]
  | succ b ih => rw [← Nat.add_assoc, cntX_succ, cntX_succ, ih, Nat.testBit_div_two_pow, Nat.add_assoc, Nat.add_comm b a]
theorem cntX_congr {m X Y : Nat} (h : ∀ i, i < m → X.testBit i = Y.testBit i) : cntX m X = cntX m Y := by
  induction m with
  | zero => rfl
  | succ m ih => rw [cntX_succ, cntX_succ, ih fun i hi => h i (by omega), h m (by omega)]
theorem cntX_four (x : Nat) : cntX 4 x = pc4 (x % 16) := by
  have e : ∀ i, i < 4 → x.testBit i = (x % 16).testBit i := by
    intro i hi
    rw [show (16 : Nat) = 2 ^ 4 from rfl, Nat.testBit_mod_two_pow]; simp [hi]
  rw [cntX_congr e]
  have : ∀ y, y < 16 → cntX 4 y = pc4 y := by decide
  exact this _ (Nat.mod_lt _ (by omega))
theorem pcs_cntX : ∀ k x, pcs k x = cntX (4 * k) x
  | 0, x => by simp [pcs, cntX, allX_zero]
  | k + 1, x => by
    rw [pcs, pcs_cntX k, show 4 * (k + 1) = 4 + 4 * k by omega, cntX_add, cntX_four]
theorem popN_cntX {x : Nat} (h : x < 18446744073709551616) : popN x = cntX 64 x := by rw [popN_pcs h, pcs_cntX]
theorem cntX_words (X k : Nat) : cntX (64 * (k + 1)) X = cntX (64 * k) X + popN (wd X k) := by
  rw [popN_cntX (wd_lt X k), show 64 * (k + 1) = 64 * k + 64 by omega, cntX_add]
  congr 1
  apply cntX_congr
  intro i hi
  rw [wd_testBit, Nat.testBit_div_two_pow]; simp [hi, Nat.add_comm]
theorem cntX_all {n X : Nat} (h : X < 2 ^ n) : cntX (64 * nw n) X = cntX n X := by
  unfold cntX; rw [allX_over h (by unfold nw; omega)]
theorem cntX_le (m X : Nat) : cntX m X ≤ m := allX_length_le _ _

/-! the walk's spelling of the steps -/
theorem go_s1 (x : Nat) (h : x < 18446744073709551616) : IntKind.u64.wrap (bits .and .u64 ((x : Int) / 2) 6148914691236517205 + bits .and .u64 (x : Int) 6148914691236517205) = ((s1 x 6148914691236517205 : Nat) : Int) ∧ s1 x 6148914691236517205 < 18446744073709551616 := by
  have h1 : bits .and .u64 ((x : Int) / 2) 6148914691236517205 = ((x / 2 &&& 6148914691236517205 : Nat) : Int) := u64_and_nat (x / 2) 6148914691236517205 (by omega) (by omega)
  have h2 : bits .and .u64 (x : Int) 6148914691236517205 = ((x &&& 6148914691236517205 : Nat) : Int) := u64_and_nat x 6148914691236517205 h (by omega)
  have l1 : x / 2 &&& 6148914691236517205 ≤ 6148914691236517205 := Nat.and_le_right
  have l2 : x &&& 6148914691236517205 ≤ 6148914691236517205 := Nat.and_le_right
  rw [h1, h2, IntKind.wrap_u64]
  unfold s1
  omega
theorem go_s2 (x : Nat) (h : x < 18446744073709551616) : IntKind.u64.wrap (bits .and .u64 ((x : Int) / 4) 3689348814741910323 + bits .and .u64 (x : Int) 3689348814741910323) = ((s2 x 3689348814741910323 : Nat) : Int) ∧ s2 x 3689348814741910323 ≤ 7378697629483820646 := by
  have h1 : bits .and .u64 ((x : Int) / 4) 3689348814741910323 = ((x / 4 &&& 3689348814741910323 : Nat) : Int) := u64_and_nat (x / 4) 3689348814741910323 (by omega) (by omega)
  have h2 : bits .and .u64 (x : Int) 3689348814741910323 = ((x &&& 3689348814741910323 : Nat) : Int) := u64_and_nat x 3689348814741910323 h (by omega)
  have l1 : x / 4 &&& 3689348814741910323 ≤ 3689348814741910323 := Nat.and_le_right
  have l2 : x &&& 3689348814741910323 ≤ 3689348814741910323 := Nat.and_le_right
  rw [h1, h2, IntKind.wrap_u64]
  unfold s2
  omega
theorem go_s3 (x : Nat) (h : x ≤ 7378697629483820646) : bits .and .u64 (IntKind.u64.wrap ((x : Int) / 16 + (x : Int))) 1085102592571150095 = ((s3 x 1085102592571150095 : Nat) : Int) ∧ s3 x 1085102592571150095 ≤ 1085102592571150095 := by
  have e : IntKind.u64.wrap ((x : Int) / 16 + (x : Int)) = ((x / 16 + x : Nat) : Int) := by rw [IntKind.wrap_u64]; omega
  rw [e]
  exact ⟨u64_and_nat (x / 16 + x) 1085102592571150095 (by omega) (by omega), Nat.and_le_right⟩
theorem go_s4 (x : Nat) (h : x ≤ 1085102592571150095) : IntKind.u64.wrap ((x : Int) + (x : Int) / 256) = ((s4 x : Nat) : Int) ∧ s4 x ≤ 1100000000000000000 := by
  rw [IntKind.wrap_u64]; unfold s4; omega
theorem go_s5 (x : Nat) (h : x ≤ 1100000000000000000) : IntKind.u64.wrap ((x : Int) + (x : Int) / 65536) = ((s5 x : Nat) : Int) ∧ s5 x ≤ 1200000000000000000 := by
  rw [IntKind.wrap_u64]; unfold s5; omega
theorem go_s6 (x : Nat) (h : x ≤ 1200000000000000000) : IntKind.u64.wrap ((x : Int) + (x : Int) / 4294967296) = ((s6 x : Nat) : Int) ∧ s6 x ≤ 1300000000000000000 := by
  rw [IntKind.wrap_u64]; unfold s6; omega

theorem ones_any (x : Nat) (w : World) (h : x < 18446744073709551616) : Calls Tryd.prog 70 #[.int .u64 (x : Int)] w fun e w' => e = .returned (.int .i64 (popN x)) ∧ w = w' := by
  obtain ⟨e1, b1⟩ := go_s1 x h
  obtain ⟨y1, hy1⟩ : ∃ y, s1 x 6148914691236517205 = y := ⟨_, rfl⟩
  rw [hy1] at e1 b1
  obtain ⟨e2, b2⟩ := go_s2 y1 b1
  obtain ⟨y2, hy2⟩ : ∃ y, s2 y1 3689348814741910323 = y := ⟨_, rfl⟩
  rw [hy2] at e2 b2
  obtain ⟨e3, b3⟩ := go_s3 y2 b2
  obtain ⟨y3, hy3⟩ : ∃ y, s3 y2 1085102592571150095 = y := ⟨_, rfl⟩
  rw [hy3] at e3 b3
  obtain ⟨e4, b4⟩ := go_s4 y3 b3
  obtain ⟨y4, hy4⟩ : ∃ y, s4 y3 = y := ⟨_, rfl⟩
  rw [hy4] at e4 b4
  obtain ⟨e5, b5⟩ := go_s5 y4 b4
  obtain ⟨y5, hy5⟩ : ∃ y, s5 y4 = y := ⟨_, rfl⟩
  rw [hy5] at e5 b5
  obtain ⟨e6, b6⟩ := go_s6 y5 b5
  obtain ⟨y6, hy6⟩ : ∃ y, s6 y5 = y := ⟨_, rfl⟩
  rw [hy6] at e6 b6
  have hp : popN x = y6 % 128 := by unfold popN; rw [hy1, hy2, hy3, hy4, hy5, hy6]
  have HP := Lib.hid hp
  have B6 := Lib.hid b6
  clear hy1 hy2 hy3 hy4 hy5 hy6 b1 b2 b3 b4 b5 b6 hp h
  go_enter Tryd.func70, Tryd.ntmps70
  go_wp2
  go_ret
  refine ⟨?_, rfl⟩
  have e7 : bits .and .i64 (wrap64 (y6 : Int)) 127 = ((y6 % 128 : Nat) : Int) := by
    have b := B6.out
    rw [IntWalk.wrap64_in _ ⟨by omega, by omega⟩]
    have := bits_mask .i64 63 (by decide) (fun n h0 h1 => by rw [IntKind.wrap_i64]; omega) 7 (by decide) (y6 : Int) (by omega) (by omega)
    rw [show (127 : Int) = 2 ^ 7 - 1 from rfl, this]
    omega
  rw [HP.out, ← e7]
  rfl
#print axioms ones_any
end Go.Proofs.YtfpggeiphbekoaaDoor
