/- Orders of a rank, and the next one: plain lemmas. -/
import Derived.Test.YtddpdjbgidmdlaaRankMath
namespace Go.Proofs.Ytddpdjbgidmdlaa

/-- the order of a rank, out of numbers that are left -/
def unr : Nat → List Int → Nat → List Int
  | 0, _, _ => []
  | m + 1, left, k => gi left (k / fact m) :: unr m (left.eraseIdx (k / fact m)) (k % fact m)
theorem unr_length : ∀ m left k, (unr m left k).length = m
  | 0, _, _ => rfl
  | m + 1, left, k => by simp [unr, unr_length m]
/-- rising -/
def Rise (l : List Int) : Prop := l.Pairwise (· < ·)
def Fall (l : List Int) : Prop := l.Pairwise (fun a b => b < a)
def below (x : Int) (l : List Int) : Nat := l.countP fun y => decide (y < x)
theorem below_perm {x : Int} {l m : List Int} (h : l.Perm m) : below x l = below x m := h.countP_eq _
theorem below_none {x : Int} {l : List Int} (h : ∀ y ∈ l, x ≤ y) : below x l = 0 := by
  unfold below
  rw [List.countP_eq_zero]
  intro y hy
  have := h y hy
  simp; omega
theorem below_all {x : Int} {l : List Int} (h : ∀ y ∈ l, y < x) : below x l = l.length := by
  unfold below
  rw [List.countP_eq_length]
  intro y hy
  have := h y hy
  simp; omega
theorem below_cons (x a : Int) (l : List Int) : below x (a :: l) = below x l + if a < x then 1 else 0 := by
  unfold below
  rw [List.countP_cons]
  simp
theorem below_append (x : Int) (l m : List Int) : below x (l ++ m) = below x l + below x m := List.countP_append
theorem rk_cons (x : Int) (t : List Int) : rk (x :: t) = below x t * fact t.length + rk t := rfl
theorem gi_zero (a : Int) (l : List Int) : gi (a :: l) 0 = a := rfl
theorem gi_succ (a : Int) (l : List Int) (i : Nat) : gi (a :: l) (i + 1) = gi l i := by simp [gi]
theorem rise_below : ∀ {l : List Int} {i : Nat}, Rise l → i < l.length → below (gi l i) l = i
  | [], i, _, h => by simp at h
  | a :: l, 0, hr, _ => by
    rw [gi_zero, below_cons, below_none (fun y hy => Int.le_of_lt ((List.pairwise_cons.1 hr).1 y hy)), if_neg (by omega)]
  | a :: l, i + 1, hr, h => by
    have hr' := List.pairwise_cons.1 hr
    have hi : i < l.length := by simpa using h
    rw [gi_succ, below_cons, rise_below hr'.2 hi, if_pos (hr'.1 _ (gi_mem hi))]
theorem rise_erase {l : List Int} (h : Rise l) (i : Nat) : Rise (l.eraseIdx i) := h.sublist (List.eraseIdx_sublist _ _)
theorem perm_erase : ∀ {l : List Int} {i : Nat}, i < l.length → (gi l i :: l.eraseIdx i).Perm l
  | [], i, h => by simp at h
  | a :: l, 0, _ => List.Perm.refl _
  | a :: l, i + 1, h => by
    have ih := perm_erase (l := l) (i := i) (by simpa using h)
    rw [gi_succ, List.eraseIdx_cons_succ]
    exact (List.Perm.swap _ _ _).trans (List.Perm.cons _ ih)
theorem below_erase {l : List Int} {i : Nat} (hr : Rise l) (h : i < l.length) : below (gi l i) (l.eraseIdx i) = i := by
  have h1 := below_perm (x := gi l i) (perm_erase h)
  rw [below_cons, if_neg (by omega), rise_below hr h] at h1
  omega
theorem unr_perm : ∀ {m : Nat} {left : List Int} {k : Nat}, left.length = m → k < fact m → (unr m left k).Perm left
  | 0, left, k, hl, _ => by
    have := List.eq_nil_of_length_eq_zero hl
    subst this; exact List.Perm.refl _
  | m + 1, left, k, hl, hk => by
    have hat : k / fact m < m + 1 := Nat.div_lt_of_lt_mul hk
    have hm : k % fact m < fact m := Nat.mod_lt _ (fact_pos m)
    have hi : k / fact m < left.length := by omega
    refine List.Perm.trans (List.Perm.cons _ (unr_perm (by rw [List.length_eraseIdx_of_lt hi]; omega) hm)) (perm_erase hi)
theorem rk_unr : ∀ {m : Nat} {left : List Int} {k : Nat}, left.length = m → Rise left → k < fact m → rk (unr m left k) = k
  | 0, left, k, _, _, hk => by
    have : fact 0 = 1 := rfl
    show 0 = k; omega
  | m + 1, left, k, hl, hr, hk => by
    have hat : k / fact m < m + 1 := Nat.div_lt_of_lt_mul hk
    have hm : k % fact m < fact m := Nat.mod_lt _ (fact_pos m)
    have hi : k / fact m < left.length := by omega
    have hl' : (left.eraseIdx (k / fact m)).length = m := by rw [List.length_eraseIdx_of_lt hi]; omega
    show rk (gi left (k / fact m) :: unr m (left.eraseIdx (k / fact m)) (k % fact m)) = k
    rw [rk_cons, below_perm (unr_perm hl' hm), below_erase hr hi, unr_length, rk_unr hl' (rise_erase hr _) hm, Nat.mul_comm]
    exact Nat.div_add_mod _ _
theorem rise_find : ∀ {l : List Int} {x : Int}, Rise l → x ∈ l → below x l < l.length ∧ gi l (below x l) = x
  | [], x, _, h => by simp at h
  | a :: l, x, hr, h => by
    have hr' := List.pairwise_cons.1 hr
    rw [List.mem_cons] at h
    by_cases e : x = a
    · subst e
      rw [below_cons, if_neg (by omega), below_none (fun y hy => Int.le_of_lt (hr'.1 y hy))]
      exact ⟨by simp, rfl⟩
    · have hx : x ∈ l := by rcases h with h | h; exact absurd h e; exact h
      obtain ⟨h1, h2⟩ := rise_find hr'.2 hx
      rw [below_cons, if_pos (hr'.1 _ hx)]
      exact ⟨by simp; omega, by rw [gi_succ]; exact h2⟩
theorem unr_rk : ∀ {p left : List Int}, p.Perm left → Rise left → unr p.length left (rk p) = p
  | [], left, _, _ => rfl
  | x :: t, left, hp, hr => by
    have hx : x ∈ left := hp.mem_iff.1 (by simp)
    obtain ⟨h1, h2⟩ := rise_find hr hx
    have hb : below x left = below x t := by rw [← below_perm hp, below_cons, if_neg (by omega)]; rfl
    rw [hb] at h1 h2
    have hrt := rk_lt t
    have hdiv : rk (x :: t) / fact t.length = below x t := by
      rw [rk_cons, Nat.mul_comm, Nat.mul_add_div (fact_pos _), Nat.div_eq_of_lt hrt]; omega
    have hmod : rk (x :: t) % fact t.length = rk t := by
      rw [rk_cons, Nat.mul_comm, Nat.mul_add_mod, Nat.mod_eq_of_lt hrt]
    have hp' : t.Perm (left.eraseIdx (below x t)) := by
      have h3 := perm_erase h1
      rw [h2] at h3
      exact (List.perm_cons x).1 (hp.trans h3.symm)
    show gi left (rk (x :: t) / fact t.length) :: unr t.length (left.eraseIdx (rk (x :: t) / fact t.length)) (rk (x :: t) % fact t.length) = x :: t
    rw [hdiv, hmod, h2, unr_rk hp' (rise_erase hr _)]
/-! the next one -/
theorem rk_fall : ∀ {l : List Int}, Fall l → rk l + 1 = fact l.length
  | [], _ => rfl
  | x :: t, h => by
    have h' := List.pairwise_cons.1 h
    have ih := rk_fall h'.2
    rw [rk_cons, below_all h'.1]
    show t.length * fact t.length + rk t + 1 = fact t.length * (t.length + 1)
    rw [Nat.mul_add, Nat.mul_one, Nat.mul_comm (fact t.length)]
    omega
theorem rk_rise : ∀ {l : List Int}, Rise l → rk l = 0
  | [], _ => rfl
  | x :: t, h => by
    have h' := List.pairwise_cons.1 h
    rw [rk_cons, below_none (fun y hy => Int.le_of_lt (h'.1 y hy)), rk_rise h'.2]
    simp
theorem rk_app : ∀ (a : List Int) {s s' : List Int}, s.Perm s' → rk (a ++ s') + rk s = rk (a ++ s) + rk s'
  | [], s, s', _ => by simp; omega
  | x :: a, s, s', h => by
    have ih := rk_app a h
    have hp : (a ++ s).Perm (a ++ s') := List.Perm.append_left a h
    show rk (x :: (a ++ s')) + _ = rk (x :: (a ++ s)) + _
    rw [rk_cons, rk_cons, below_perm hp, hp.length_eq]
    omega
/-- the last pair that rises, and who is exchanged -/
theorem rk_next {a A B : List Int} {x y : Int} (hf : Fall (A ++ y :: B)) (hxy : x < y) (hB : ∀ z ∈ B, z < x) :
    (a ++ x :: (A ++ y :: B)).Perm (a ++ y :: (A ++ x :: B).reverse) ∧ rk (a ++ y :: (A ++ x :: B).reverse) = rk (a ++ x :: (A ++ y :: B)) + 1 := by
  obtain ⟨hA, hyB, hAy⟩ := List.pairwise_append.1 hf
  have hyB' := List.pairwise_cons.1 hyB
  have hAgt : ∀ z ∈ A, y < z := fun z hz => hAy z hz y (by simp)
  have hf2 : Fall (A ++ x :: B) := by
    refine List.pairwise_append.2 ⟨hA, List.pairwise_cons.2 ⟨hB, hyB'.2⟩, fun z hz u hu => ?_⟩
    rw [List.mem_cons] at hu
    have h1 := hAgt z hz
    rcases hu with rfl | hu
    · omega
    · have := hB u hu; omega
  have hrev : Rise (A ++ x :: B).reverse := List.pairwise_reverse.2 hf2
  have hp1 : (x :: (A ++ y :: B)).Perm (y :: (A ++ x :: B).reverse) := by
    have e1 : (x :: (A ++ y :: B)).Perm (x :: y :: (A ++ B)) := List.Perm.cons _ List.perm_middle
    have e2 : (y :: (A ++ x :: B)).Perm (y :: x :: (A ++ B)) := List.Perm.cons _ List.perm_middle
    exact (e1.trans (List.Perm.swap _ _ _)).trans (e2.symm.trans (List.Perm.cons _ (List.reverse_perm _).symm))
  refine ⟨List.Perm.append_left a hp1, ?_⟩
  have hk := rk_app a hp1
  have e1 : rk (x :: (A ++ y :: B)) + 1 = (B.length + 1) * fact (A ++ y :: B).length := by
    have hb : below x (A ++ y :: B) = B.length := by
      rw [below_append, below_none (fun z hz => by have := hAgt z hz; omega), below_cons, if_neg (by omega), below_all hB]; omega
    rw [rk_cons, hb, Nat.add_mul, Nat.one_mul, ← rk_fall hf]
    omega
  have e2 : rk (y :: (A ++ x :: B).reverse) = (B.length + 1) * fact (A ++ y :: B).length := by
    have hb : below y (A ++ x :: B) = B.length + 1 := by
      rw [below_append, below_none (fun z hz => by have := hAgt z hz; omega), below_cons, if_pos hxy, below_all hyB'.1]; omega
    have hl : ((A ++ x :: B).reverse).length = (A ++ y :: B).length := by simp; omega
    rw [rk_cons, rk_rise hrev, below_perm (List.reverse_perm _), hb, hl]; omega
  omega
#print axioms rk_next
#print axioms unr_rk
#print axioms rk_unr
/-! the rising row of all numbers -/
def upTo (n : Nat) : List Int := (List.range n).map fun i : Nat => (i : Int)
theorem upTo_length (n : Nat) : (upTo n).length = n := by simp [upTo]
theorem upTo_rise (n : Nat) : Rise (upTo n) := by
  unfold Rise upTo
  rw [List.pairwise_map]
  exact List.pairwise_lt_range.imp fun h => by omega
theorem upTo_nodup (n : Nat) : (upTo n).Nodup := (upTo_rise n).imp fun h => by omega
theorem mem_upTo {n : Nat} {x : Int} : x ∈ upTo n ↔ 0 ≤ x ∧ x < n := by
  unfold upTo
  rw [List.mem_map]
  constructor
  · rintro ⟨i, hi, rfl⟩
    rw [List.mem_range] at hi; omega
  · rintro ⟨h1, h2⟩
    exact ⟨x.toNat, by rw [List.mem_range]; omega, by omega⟩
theorem okP_perm {p : List Int} (h : okP p) : p.Perm (upTo p.length) := by
  obtain ⟨h1, h2⟩ := (good_iff p).2 h
  rw [List.perm_iff_count]
  intro x
  rw [List.Nodup.count (upTo_nodup _)]
  by_cases hx : x ∈ p
  · have := h1 x hx
    rw [List.Nodup.count h2, if_pos hx, if_pos (mem_upTo.2 this)]
  · have h3 : ¬ x ∈ upTo p.length := by
      intro h3
      obtain ⟨h4, h5⟩ := mem_upTo.1 h3
      have := h x.toNat (by omega)
      rw [Int.toNat_of_nonneg h4, List.count_eq_zero_of_not_mem hx] at this
      omega
    rw [List.count_eq_zero_of_not_mem hx, if_neg h3]
theorem perm_okP {p : List Int} {n : Nat} (h : p.Perm (upTo n)) : p.length = n ∧ okP p := by
  have hl : p.length = n := by rw [h.length_eq, upTo_length]
  refine ⟨hl, fun i hi => ?_⟩
  rw [h.count_eq, List.Nodup.count (upTo_nodup _), if_pos (mem_upTo.2 ⟨by omega, by omega⟩)]
theorem unr_ok {n k : Nat} (h : k < fact n) : okP (unr n (upTo n) k) ∧ rk (unr n (upTo n) k) = k :=
  ⟨(perm_okP (unr_perm (upTo_length n) h)).2, rk_unr (upTo_length n) (upTo_rise n) h⟩
theorem unr_of {p : List Int} (h : okP p) : unr p.length (upTo p.length) (rk p) = p := unr_rk (okP_perm h) (upTo_rise _)
/-- an order's next one -/
theorem next_unr {a A B : List Int} {x y : Int} (hp : okP (a ++ x :: (A ++ y :: B))) (hf : Fall (A ++ y :: B)) (hxy : x < y) (hB : ∀ z ∈ B, z < x) :
    okP (a ++ y :: (A ++ x :: B).reverse) ∧ a ++ y :: (A ++ x :: B).reverse = unr (a ++ x :: (A ++ y :: B)).length (upTo (a ++ x :: (A ++ y :: B)).length) (rk (a ++ x :: (A ++ y :: B)) + 1)
    ∧ rk (a ++ x :: (A ++ y :: B)) + 1 < fact (a ++ x :: (A ++ y :: B)).length := by
  obtain ⟨h1, h2⟩ := rk_next (a := a) hf hxy hB
  have h3 := h1.symm.trans (okP_perm hp)
  obtain ⟨h4, h5⟩ := perm_okP h3
  refine ⟨h5, ?_, ?_⟩
  · have := unr_of h5
    rw [h4, h2] at this
    exact this.symm
  · rw [← h2, ← h4]; exact rk_lt _
#print axioms next_unr
end Go.Proofs.Ytddpdjbgidmdlaa
