/- Plain: as many rows in the tree as the count over masks tells. -/
import Derived.Test.YtddpdjbgidmdlaaTree3
import Derived.Test.YtddpdjbgidmdlaaCount
namespace Go.Proofs.Ytddpdjbgidmdlaa
open Go.RowKit
set_option linter.unusedVariables false

def exts (ps : List (Int × Int)) (n : Nat) (r : List Int) : List (List Int) := (candTo ps r 0 n).map fun i : Nat => r ++ [(i : Int)]
/-- the rows of so many numbers -/
def lev (ps : List (Int × Int)) (n : Nat) : Nat → List (List Int)
  | 0 => [[]]
  | m + 1 => (lev ps n m).flatMap (exts ps n)
theorem treeT_exts (ps : List (Int × Int)) (n m : Nat) (row : List Int) : treeT ps n (m + 1) row = (exts ps n row).flatMap (treeT ps n m) := by
  unfold exts
  rw [List.flatMap_map]; rfl
theorem flatMap_one (l : List (List Int)) : (l.flatMap fun r => [r]) = l := by
  induction l with
  | nil => rfl
  | cons a l ih => rw [List.flatMap_cons, ih]; rfl
theorem lev_tree (ps : List (Int × Int)) (n : Nat) : ∀ m k, m + k = n → (lev ps n m).flatMap (treeT ps n k) = treeT ps n n []
  | 0, k, h => by
    obtain rfl : k = n := by omega
    simp [lev]
  | m + 1, k, h => by
    rw [← lev_tree ps n m (k + 1) (by omega)]
    show ((lev ps n m).flatMap (exts ps n)).flatMap (treeT ps n k) = _
    rw [List.flatMap_assoc]
    congr 1
    funext r
    exact (treeT_exts ps n k r).symm
theorem lev_all (ps : List (Int × Int)) (n : Nat) : lev ps n n = treeT ps n n [] := by
  rw [← lev_tree ps n n 0 (by omega)]
  exact (flatMap_one _).symm
theorem lev_v {ps : List (Int × Int)} {n : Nat} : ∀ {m : Nat}, ∀ r ∈ lev ps n m, VRow ps n r ∧ r.length = m
  | 0, r, hr => by
    obtain rfl : r = [] := by simpa [lev] using hr
    exact ⟨VRow.nil, rfl⟩
  | m + 1, r, hr => by
    obtain ⟨s, hs, hr⟩ := List.mem_flatMap.1 hr
    obtain ⟨i, hi, rfl⟩ := List.mem_map.1 hr
    obtain ⟨h1, h2⟩ := lev_v s hs
    obtain ⟨h3, _, h4⟩ := mem_candTo.1 hi
    exact ⟨VRow.snoc h1 h3 h4, by rw [List.length_append, List.length_singleton, h2]⟩
def msk (r : List Int) : Nat := (r.map fun x => 2 ^ x.toNat).sum
theorem msk_snoc (r : List Int) (i : Nat) : msk (r ++ [(i : Int)]) = msk r + 2 ^ i := by
  unfold msk
  rw [List.map_append, List.sum_append]
  simp
theorem msk_bit {ps : List (Int × Int)} {n : Nat} {r : List Int} (h : VRow ps n r) : ∀ j : Nat, (msk r).testBit j = decide ((j : Int) ∈ r) := by
  induction h with
  | nil => intro j; simp [msk]
  | @snoc row i hv hi hm ih =>
    intro j
    have hb : (msk row).testBit i = false := by rw [ih]; exact decide_eq_false (mayI_iff.1 hm).1
    rw [msk_snoc, add_bit hb, ih, Bool.eq_iff_iff]
    simp only [Bool.or_eq_true, decide_eq_true_eq, List.mem_append, List.mem_singleton]
    exact or_congr Iff.rfl ⟨fun h => by omega, fun h => by omega⟩
theorem msk_lt {ps : List (Int × Int)} {n : Nat} {r : List Int} (h : VRow ps n r) : msk r < 2 ^ n := by
  refine Nat.lt_pow_two_of_testBit _ fun i hi => ?_
  rw [msk_bit h]
  exact decide_eq_false fun hm => by have := h.rg.2 _ hm; omega
/-- who may stand next, by masks -/
theorem may_mask {ps : List (Int × Int)} {n : Nat} {M : Nat → Nat} (hok : PsOk ps n) (hn : n ≤ 16) (hM : MaskOf n ps M) {r : List Int} (h : VRow ps n r) {i : Nat} (hi : i < n) : mayI ps r i = (!(msk r).testBit i && inM (M i) (msk r)) := by
  have hp : 2 ^ n ≤ 65536 := Nat.pow_le_pow_right (n := 2) (i := n) (j := 16) (by omega) hn
  have h1 := (hM i hi).1
  have h2 := msk_lt h
  rw [Bool.eq_iff_iff, mayI_iff, ahN_zero, Bool.and_eq_true, inM_iff (by omega) (by omega), msk_bit h]
  simp only [Bool.not_eq_true', decide_eq_false_iff_not]
  refine and_congr_right fun _ => ?_
  constructor
  · intro h3 b hb
    have hbn : b < n := by
      apply Classical.byContradiction
      intro hc
      have h4 : 2 ^ n ≤ 2 ^ b := Nat.pow_le_pow_right (by omega) (by omega)
      rw [Nat.testBit_lt_two_pow (Nat.lt_of_lt_of_le h1 h4)] at hb
      cases hb
    rw [(hM i hi).2 b hbn, decide_eq_true_eq] at hb
    obtain ⟨q, hq, e⟩ := List.mem_map.1 hb
    obtain ⟨hq1, hq2⟩ := List.mem_filter.1 hq
    rw [beq_iff_eq] at hq2
    rw [msk_bit h, ← hq2]
    exact decide_eq_true (h3 q hq1 e)
  · intro h3 q hq e
    obtain ⟨p1, p2, _, _⟩ := hok q hq
    obtain ⟨b, hb⟩ := Int.eq_ofNat_of_zero_le p1
    have h4 := h3 b (by
      rw [(hM i hi).2 b (by omega), decide_eq_true_eq]
      exact List.mem_map.2 ⟨q, List.mem_filter.2 ⟨hq, by rw [hb]; simp⟩, e⟩)
    rw [msk_bit h, decide_eq_true_eq] at h4
    rw [hb]; exact h4
theorem grow_mask {ps : List (Int × Int)} {n : Nat} {M : Nat → Nat} (hok : PsOk ps n) (hn : n ≤ 16) (hM : MaskOf n ps M) {r : List Int} (h : VRow ps n r) {i : Nat} (hi : i < n) (t : Nat) :
    (mayI ps r i && (msk (r ++ [(i : Int)]) == t)) = (okJ M t i && (msk r == t - 2 ^ i)) := by
  rw [may_mask hok hn hM h hi, msk_snoc]
  have h1 := okJ_iff (M := M) (t := t) (s := msk r) (i := i)
  rw [Bool.eq_iff_iff]
  have h2 : (okJ M t i && (msk r == t - 2 ^ i)) = true ↔ (okJ M t i && decide (t - 2 ^ i = msk r)) = true := by
    simp only [Bool.and_eq_true, beq_iff_eq, decide_eq_true_eq]
    exact ⟨fun h => ⟨h.1, h.2.symm⟩, fun h => ⟨h.1, h.2.symm⟩⟩
  rw [h2, h1]
  simp only [Bool.and_eq_true, Bool.not_eq_true', beq_iff_eq]
  exact ⟨fun h => ⟨h.2.symm, h.1.1, h.1.2⟩, fun h => ⟨⟨h.2.1, h.2.2⟩, h.1.symm⟩⟩
theorem sumR_add (n : Nat) (f g : Nat → Nat) : sumR n (fun i => f i + g i) = sumR n f + sumR n g := by
  induction n with
  | zero => rfl
  | succ n ih => rw [sumR_succ, sumR_succ, sumR_succ, ih]; omega
theorem countP_range (n : Nat) (p : Nat → Bool) : (List.range n).countP p = sumR n fun i => if p i then 1 else 0 := by
  induction n with
  | zero => rfl
  | succ n ih => rw [List.range_succ, List.countP_append, ih, sumR_succ, List.countP_singleton]
theorem exts_count {ps : List (Int × Int)} {n : Nat} {M : Nat → Nat} (hok : PsOk ps n) (hn : n ≤ 16) (hM : MaskOf n ps M) {r : List Int} (h : VRow ps n r) (t : Nat) :
    (exts ps n r).countP (fun s => msk s == t) = sumR n fun i => if okJ M t i && (msk r == t - 2 ^ i) then 1 else 0 := by
  unfold exts candTo
  rw [List.countP_map, List.countP_filter, countP_range]
  refine sumR_congr fun i hi => ?_
  have e : (((fun s => msk s == t) ∘ fun i : Nat => r ++ [(i : Int)]) i && (decide (0 ≤ i) && mayI ps r i)) = (okJ M t i && (msk r == t - 2 ^ i)) := by
    rw [← grow_mask hok hn hM h hi]
    simp [Bool.and_comm]
  rw [e]
theorem lev_count {ps : List (Int × Int)} {n : Nat} {M : Nat → Nat} (hok : PsOk ps n) (hn : n ≤ 16) (hM : MaskOf n ps M) (t : Nat) : ∀ {l : List (List Int)}, (∀ r ∈ l, VRow ps n r) →
    (l.flatMap (exts ps n)).countP (fun s => msk s == t) = sumR n fun i => if okJ M t i then l.countP (fun s => msk s == t - 2 ^ i) else 0
  | [], _ => by
    rw [sumR_zero fun j _ => by simp]; rfl
  | r :: l, h => by
    rw [List.flatMap_cons, List.countP_append, lev_count hok hn hM t fun r hr => h r (List.mem_cons_of_mem _ hr), exts_count hok hn hM (h r (by simp)), ← sumR_add]
    refine sumR_congr fun i hi => ?_
    rw [List.countP_cons]
    cases okJ M t i with
    | false => simp
    | true => simp; omega
theorem pop_zero {n t : Nat} (h : pop n t = 0) (ht : t < 2 ^ n) : t = 0 := by
  apply Nat.eq_of_testBit_eq
  intro j
  rw [Nat.zero_testBit]
  by_cases hj : j < n
  · cases hb : t.testBit j with
    | false => rfl
    | true => have := pop_sub hj hb; omega
  · have h4 : 2 ^ n ≤ 2 ^ j := Nat.pow_le_pow_right (by omega) (by omega)
    exact Nat.testBit_lt_two_pow (Nat.lt_of_lt_of_le ht h4)
theorem lev_cnt {ps : List (Int × Int)} {n : Nat} {M : Nat → Nat} (hok : PsOk ps n) (hn : n ≤ 16) (hM : MaskOf n ps M) : ∀ {m t : Nat}, t < 2 ^ n → pop n t = m → (lev ps n m).countP (fun s => msk s == t) = cnt n M t
  | 0, t, ht, hp => by
    obtain rfl := pop_zero hp ht
    rfl
  | m + 1, t, ht, hp => by
    have h0 : 0 < t := by
      apply Nat.pos_of_ne_zero
      intro h
      subst h
      have : pop n 0 = 0 := sumR_zero fun j _ => by simp
      omega
    show ((lev ps n m).flatMap (exts ps n)).countP _ = _
    rw [lev_count hok hn hM t fun r hr => (lev_v r hr).1, cnt_pos h0]
    refine sumR_congr fun j hj => ?_
    cases hb : okJ M t j with
    | false => rfl
    | true =>
      have hbit : t.testBit j = true := by unfold okJ at hb; simp only [Bool.and_eq_true] at hb; exact hb.1
      have h5 := pop_sub hj hbit
      exact lev_cnt hok hn hM (Nat.lt_of_le_of_lt (Nat.sub_le _ _) ht) (by omega)
theorem ones_bit (n j : Nat) : (2 ^ n - 1).testBit j = decide (j < n) := Nat.testBit_two_pow_sub_one n j
theorem pop_ones (n : Nat) : pop n (2 ^ n - 1) = n := by
  have h1 : pop n (2 ^ n - 1) = sumR n fun _ => 1 := sumR_congr fun j hj => by rw [ones_bit, decide_eq_true hj]; rfl
  rw [h1]
  clear h1
  induction n with
  | zero => rfl
  | succ n ih => rw [sumR_succ, ih]
/-- as many rows as the count -/
theorem cnt_tree {ps : List (Int × Int)} {n : Nat} {M : Nat → Nat} (hok : PsOk ps n) (hn : n ≤ 16) (hM : MaskOf n ps M) : cnt n M (2 ^ n - 1) = (treeT ps n n []).length := by
  have hp : 0 < 2 ^ n := Nat.pos_of_ne_zero (by simp)
  rw [← lev_cnt hok hn hM (m := n) (by omega) (pop_ones n), ← lev_all, List.countP_eq_length]
  intro r hr
  obtain ⟨h1, h2⟩ := lev_v r hr
  rw [beq_iff_eq]
  apply Nat.eq_of_testBit_eq
  intro j
  rw [msk_bit h1, ones_bit, decide_eq_decide]
  exact ⟨fun h => by have := h1.rg.2 _ h; omega, fun h => h1.mem_all h2 h⟩
#print axioms cnt_tree
end Go.Proofs.Ytddpdjbgidmdlaa
