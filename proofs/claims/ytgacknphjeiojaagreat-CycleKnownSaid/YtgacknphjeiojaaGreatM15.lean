/- What the shortest walks are: closed, simple, least; parts of them: plain. | The law CycleLeast. -/
import Derived.Test.YtgacknphjeiojaaGreatM13
import Derived.Deep.CutRange
import Derived.Deep.DeepCutAuto

namespace Go.Proofs.YtgacknphjeiojaaGreat
open Go.RowKit
set_option linter.unusedVariables false

/-- the node behind so many edges of the walk -/
def nodeR (L : List Ed) (t : Nat) : Nat → Nat → Nat → Nat
  | _, n, 0 => n
  | 0, n, _ + 1 => n
  | k + 1, n, i + 1 => nodeR L t k (stepR L t k n).t.toNat i
section
variable {L : List Ed} {N t : Nat}
theorem jB_step {k m : Nat} {e : Ed} (he : e ∈ L) (hf : e.f = (m : Int)) (h : jB L t k e.t.toNat = true) : jB L t (k + 1) m = true := by
  rw [jB, List.any_eq_true]
  exact ⟨e, he, by simp [hf, h]⟩
theorem jB_comp {u : Nat} : ∀ {a b m : Nat}, jB L u a m = true → jB L t b u = true → jB L t (a + b) m = true
  | 0, b, m, h, h2 => by
    have : m = u := by simpa [jB] using h
    subst this
    simpa using h2
  | a + 1, b, m, h, h2 => by
    rw [jB, List.any_eq_true] at h
    obtain ⟨e, he, h3⟩ := h
    simp only [Bool.and_eq_true, decide_eq_true_eq] at h3
    rw [show a + 1 + b = (a + b) + 1 by omega]
    exact jB_step he h3.1 (jB_comp h3.2 h2)
theorem node_zero (k n : Nat) : nodeR L t k n 0 = n := by cases k <;> rfl
theorem node_tail : ∀ {k n i : Nat}, jB L t k n = true → i ≤ k → jB L t (k - i) (nodeR L t k n i) = true
  | k, n, 0, h, _ => by rw [node_zero, Nat.sub_zero]; exact h
  | 0, n, i + 1, h, hi => by omega
  | k + 1, n, i + 1, h, hi => by
    obtain ⟨_, _, h3⟩ := stepR_spec h
    rw [show k + 1 - (i + 1) = k - i by omega]
    exact node_tail h3 (by omega)
theorem node_last {k n : Nat} (h : jB L t k n = true) : nodeR L t k n k = t := by
  have := node_tail h (Nat.le_refl k)
  rw [Nat.sub_self] at this
  simpa [jB] using this
theorem node_head (hL : ∀ x ∈ L, (0 ≤ x.f ∧ x.f < (N : Int)) ∧ 0 ≤ x.t ∧ x.t < (N : Int)) : ∀ {k n i : Nat}, jB L t k n = true → i ≤ k → jB L (nodeR L t k n i) i n = true
  | k, n, 0, h, _ => by rw [node_zero]; simp [jB]
  | 0, n, i + 1, h, hi => by omega
  | k + 1, n, i + 1, h, hi => by
    obtain ⟨h1, h2, h3⟩ := stepR_spec h
    exact jB_step h1 h2 (node_head hL h3 (by omega))
theorem node_comp : ∀ {k n i j : Nat}, i ≤ j → j ≤ k → nodeR L t k n j = nodeR L t (k - i) (nodeR L t k n i) (j - i)
  | k, n, 0, j, _, _ => by rw [node_zero]; rfl
  | 0, n, i + 1, j, h1, h2 => by omega
  | k + 1, n, i + 1, 0, h1, h2 => by omega
  | k + 1, n, i + 1, j + 1, h1, h2 => by
    rw [show k + 1 - (i + 1) = k - i by omega, show j + 1 - (i + 1) = j - i by omega]
    exact node_comp (k := k) (n := (stepR L t k n).t.toNat) (i := i) (j := j) (by omega) (by omega)
theorem node_seg (hL : ∀ x ∈ L, (0 ≤ x.f ∧ x.f < (N : Int)) ∧ 0 ≤ x.t ∧ x.t < (N : Int)) {k n i j : Nat} (h : jB L t k n = true) (hij : i ≤ j) (hj : j ≤ k) : jB L (nodeR L t k n j) (j - i) (nodeR L t k n i) = true := by
  rw [node_comp hij hj]
  exact node_head hL (node_tail h (by omega)) (by omega)
theorem node_lt (hL : ∀ x ∈ L, (0 ≤ x.f ∧ x.f < (N : Int)) ∧ 0 ≤ x.t ∧ x.t < (N : Int)) : ∀ {k n i : Nat}, n < N → jB L t k n = true → i ≤ k → nodeR L t k n i < N
  | k, n, 0, hn, _, _ => by rw [node_zero]; exact hn
  | 0, n, i + 1, _, h, hi => by omega
  | k + 1, n, i + 1, _, h, hi => by
    obtain ⟨h1, h2, h3⟩ := stepR_spec h
    have := (hL _ h1).2
    exact node_lt (k := k) (n := (stepR L t k n).t.toNat) (i := i) hL (by omega) h3 (by omega)
theorem gt_zero (x : Ed) (l : List Ed) : gt (x :: l) 0 = x := rfl
theorem gt_succ (x : Ed) (l : List Ed) (i : Nat) : gt (x :: l) (i + 1) = gt l i := rfl
theorem walk_at (hL : ∀ x ∈ L, (0 ≤ x.f ∧ x.f < (N : Int)) ∧ 0 ≤ x.t ∧ x.t < (N : Int)) : ∀ {k n i : Nat}, jB L t k n = true → i < k → gt (walkR L t k n) i ∈ L ∧ (gt (walkR L t k n) i).f = (nodeR L t k n i : Int) ∧ (gt (walkR L t k n) i).t = (nodeR L t k n (i + 1) : Int)
  | 0, n, i, h, hi => by omega
  | k + 1, n, 0, h, hi => by
    obtain ⟨h1, h2, h3⟩ := stepR_spec h
    have := (hL _ h1).2
    rw [walkR, gt_zero]
    refine ⟨h1, h2, ?_⟩
    show _ = ((nodeR L t k (stepR L t k n).t.toNat 0 : Nat) : Int)
    rw [node_zero]
    omega
  | k + 1, n, i + 1, h, hi => by
    obtain ⟨h1, h2, h3⟩ := stepR_spec h
    rw [walkR, gt_succ]
    exact walk_at hL h3 (by omega)
theorem walk_mem (hL : ∀ x ∈ L, (0 ≤ x.f ∧ x.f < (N : Int)) ∧ 0 ≤ x.t ∧ x.t < (N : Int)) {k n : Nat} (h : jB L t k n = true) : ∀ x ∈ walkR L t k n, x ∈ L := fun x hx => by
  obtain ⟨i, hi, rfl⟩ := List.getElem_of_mem hx
  have hk : i < k := by rw [← walkR_len L t k n]; exact hi
  have := (walk_at hL h hk).1
  simpa [gt, hi] using this
theorem walk_chain (hL : ∀ x ∈ L, (0 ≤ x.f ∧ x.f < (N : Int)) ∧ 0 ≤ x.t ∧ x.t < (N : Int)) {k n : Nat} (h : jB L t k n = true) : chainB (walkR L t k n) = true := chain_iff.2 fun i h0 hi => by
  rw [walkR_len] at hi
  have h1 := (walk_at hL h (show i - 1 < k by omega)).2.2
  have h2 := (walk_at hL h hi).2.1
  rw [h1, h2, show i - 1 + 1 = i by omega]
theorem walk_walkB (hL : ∀ x ∈ L, (0 ≤ x.f ∧ x.f < (N : Int)) ∧ 0 ≤ x.t ∧ x.t < (N : Int)) {k n : Nat} (h : jB L t k n = true) : walkB (fun x => decide (x ∈ L)) (walkR L t k n) = true := by
  unfold walkB
  rw [walk_chain hL h, Bool.true_and, List.all_eq_true]
  exact fun x hx => decide_eq_true (walk_mem hL h x hx)
theorem walk_round (hL : ∀ x ∈ L, (0 ≤ x.f ∧ x.f < (N : Int)) ∧ 0 ≤ x.t ∧ x.t < (N : Int)) {k : Nat} (hk : 0 < k) (h : jB L t k t = true) : roundB (walkR L t k t) = true := by
  unfold roundB
  rw [walk_chain hL h, walkR_len, decide_eq_true hk, (walk_at hL h (show k - 1 < k by omega)).2.2, (walk_at hL h hk).2.1, show k - 1 + 1 = k by omega, node_last h, node_zero]
  simp
theorem walk_closedB (hL : ∀ x ∈ L, (0 ≤ x.f ∧ x.f < (N : Int)) ∧ 0 ≤ x.t ∧ x.t < (N : Int)) {k : Nat} (hk : 0 < k) (h : jB L t k t = true) : closedB (fun x => decide (x ∈ L)) (walkR L t k t) = true := by
  unfold closedB
  rw [walk_round hL hk h, walk_walkB hL h]; rfl
theorem closed_nil (p : Ed → Bool) : closedB p [] = false := rfl
/-! Path -/
theorem path_ok (hL : ∀ x ∈ L, (0 ≤ x.f ∧ x.f < (N : Int)) ∧ 0 ≤ x.t ∧ x.t < (N : Int)) {f k : Nat} (hf : f < N) (ht : t < N) (h : jB L t k f = true) : ∃ d : Nat, d ≤ k ∧ jB L t d f = true ∧ (∀ j, j < d → jB L t j f = false) ∧ pathR L N (f : Int) (t : Int) = (walkR L t d f, 0) := by
  obtain ⟨d, hd, hD⟩ := J.least k ((jB_iff hL k f).1 h)
  have hdN := Ds.lt (fun n m => preN_lt hL m) hf hD
  have h1 : jB L t d f = true := (jB_iff hL d f).2 hD.1
  have h2 : ∀ j, j < d → jB L t j f = false := fun j hj => by
    cases e : jB L t j f with
    | false => rfl
    | true => exact absurd ((jB_iff hL j f).1 e) (hD.2 j hj)
  refine ⟨d, hd, h1, h2, ?_⟩
  have h3 : firstJ L t N f 0 = (d : Int) := by
    rcases firstJ_spec (L := L) (t := t) (N := N) (m := f) 0 with ⟨_, h4⟩ | ⟨q, h3, _, h4, h5, h6⟩
    · rw [h4 d (by omega) (by omega)] at h1; cases h1
    · rw [h3]
      rcases Nat.lt_trichotomy q d with e | e | e
      · rw [h2 q e] at h5; cases h5
      · rw [e]
      · rw [h6 d (by omega) e] at h1; cases h1
  unfold pathR
  rw [if_pos ⟨⟨by omega, by omega⟩, by omega, by omega⟩]
  simp only [Int.toNat_natCast, h3]
  rw [if_neg (by omega)]
theorem path_part (hL : ∀ x ∈ L, (0 ≤ x.f ∧ x.f < (N : Int)) ∧ 0 ≤ x.t ∧ x.t < (N : Int)) {f d a b : Nat} (hf : f < N) (ht : t < N) (h : jB L t d f = true) (hmin : ∀ j, j < d → jB L t j f = false) (hab : a < b) (hb : b ≤ d) :
    ∃ l, pathR L N (gt (walkR L t d f) a).f (gt (walkR L t d f) (b - 1)).t = (l, 0) ∧ l.length = b - a := by
  rw [(walk_at hL h (show a < d by omega)).2.1, (walk_at hL h (show b - 1 < d by omega)).2.2, show b - 1 + 1 = b by omega]
  have hs := node_seg hL h (show a ≤ b by omega) hb
  obtain ⟨q, hq, h1, h2, h3⟩ := path_ok hL (node_lt hL hf h (show a ≤ d by omega)) (node_lt hL hf h hb) hs
  refine ⟨_, h3, ?_⟩
  rw [walkR_len]
  rcases Nat.lt_or_ge q (b - a) with e | e
  · have h4 := jB_comp (jB_comp (node_head hL h (show a ≤ d by omega)) h1) (node_tail h hb)
    rw [hmin (a + q + (d - b)) (by omega)] at h4
    cases h4
  · omega
/-! Through -/
theorem through_some (hL : ∀ x ∈ L, (0 ≤ x.f ∧ x.f < (N : Int)) ∧ 0 ≤ x.t ∧ x.t < (N : Int)) {n k : Nat} (hn : n < N) (hk : 0 < k) (h : jB L n k n = true) :
    ∃ d : Nat, 0 < d ∧ d ≤ k ∧ jB L n d n = true ∧ (∀ j, 0 < j → j < d → jB L n j n = false) ∧ throughR L N (n : Int) = (walkR L n d n, 0) := by
  obtain ⟨j, rfl⟩ : ∃ j, k = j + 1 := ⟨k - 1, by omega⟩
  have h' := h
  rw [jB, List.any_eq_true] at h'
  obtain ⟨e, he, h3⟩ := h'
  simp only [Bool.and_eq_true, decide_eq_true_eq] at h3
  obtain ⟨d0, hd0, hD⟩ := J.least j ((jB_iff hL j _).1 h3.2)
  have het := (hL _ he).2
  have hdN := Ds.lt (fun n m => preN_lt hL m) (show e.t.toNat < N by omega) hD
  have hd1 : jB L n (d0 + 1) n = true := jB_step he h3.1 ((jB_iff hL d0 _).2 hD.1)
  rcases firstJ_spec (L := L) (t := n) (N := N) (m := n) 1 with ⟨_, h4⟩ | ⟨q, h4, h5, h6, h7, h8⟩
  · rw [h4 (d0 + 1) (by omega) (by omega)] at hd1; cases hd1
  · refine ⟨q, by omega, ?_, h7, fun j h1 h2 => h8 j (by omega) h2, ?_⟩
    · rcases Nat.lt_or_ge (d0 + 1) q with e | e
      · rw [h8 (d0 + 1) (by omega) e] at hd1; cases hd1
      · omega
    · unfold throughR
      rw [if_pos ⟨by omega, by omega⟩]
      simp only [Int.toNat_natCast, h4]
      rw [if_neg (by omega)]
/-- what Through tells: a closed walk of least length, or none -/
theorem through_cases (hL : ∀ x ∈ L, (0 ≤ x.f ∧ x.f < (N : Int)) ∧ 0 ≤ x.t ∧ x.t < (N : Int)) {n : Nat} (hn : n < N) :
    (throughR L N (n : Int) = ([], 150) ∧ ∀ k, 0 < k → jB L n k n = false) ∨ ∃ d : Nat, 0 < d ∧ jB L n d n = true ∧ (∀ j, 0 < j → j < d → jB L n j n = false) ∧ throughR L N (n : Int) = (walkR L n d n, 0) := by
  by_cases h : ∃ k, 0 < k ∧ jB L n k n = true
  · obtain ⟨k, hk, h⟩ := h
    obtain ⟨d, h1, _, h2, h3, h4⟩ := through_some hL hn hk h
    exact .inr ⟨d, h1, h2, h3, h4⟩
  · left
    have h' : ∀ k, 0 < k → jB L n k n = false := fun k hk => by
      cases e : jB L n k n with
      | false => rfl
      | true => exact absurd ⟨k, hk, e⟩ h
    refine ⟨?_, h'⟩
    rcases firstJ_spec (L := L) (t := n) (N := N) (m := n) 1 with ⟨h4, _⟩ | ⟨q, h4, h5, h6, h7, h8⟩
    · unfold throughR
      rw [if_pos ⟨by omega, by omega⟩]
      simp only [Int.toNat_natCast, h4]
      rfl
    · rw [h' q (by omega)] at h7; cases h7
/-- it is simple -/
theorem through_apart (hL : ∀ x ∈ L, (0 ≤ x.f ∧ x.f < (N : Int)) ∧ 0 ≤ x.t ∧ x.t < (N : Int)) {n d : Nat} (h : jB L n d n = true) (hmin : ∀ j, 0 < j → j < d → jB L n j n = false) : apartB (walkR L n d n) = true := apart_iff.2 fun i k hk hi he => by
  rw [walkR_len] at hi
  rw [(walk_at hL h hi).2.1, (walk_at hL h (show k < d by omega)).2.1] at he
  have he' : nodeR L n d n i = nodeR L n d n k := by omega
  have h1 := node_head hL h (show k ≤ d by omega)
  have h2 := node_tail h (show i ≤ d by omega)
  rw [he'] at h2
  have h3 := jB_comp h1 h2
  rw [hmin (k + (d - i)) (by omega) (by omega)] at h3
  cases h3
/-! Shortest -/
/-- the least of the closed walks through the first so many nodes -/
structure Best (L : List Ed) (N k : Nat) (best : List Ed) : Prop where
  none_ : best = [] → ∀ m, m < k → (throughR L N (m : Int)).2 ≠ 0
  some_ : best ≠ [] → ∃ n, n < k ∧ throughR L N (n : Int) = (best, 0) ∧ (∀ m, m < n → (throughR L N (m : Int)).2 = 0 → best.length < (throughR L N (m : Int)).1.length) ∧ ∀ m, m < k → (throughR L N (m : Int)).2 = 0 → best.length ≤ (throughR L N (m : Int)).1.length
theorem best_is (L : List Ed) (N : Nat) : ∀ k, Best L N k (bestR L N k)
  | 0 => ⟨fun _ m hm => by omega, fun h => absurd rfl h⟩
  | k + 1 => by
    have ih := best_is L N k
    rw [bestR]
    by_cases h : (throughR L N (k : Int)).2 = 0 ∧ (bestR L N k = [] ∨ (throughR L N (k : Int)).1.length < (bestR L N k).length)
    · rw [if_pos h]
      have hpos := through_pos h.1
      refine ⟨fun e => ?_, fun _ => ⟨k, by omega, Prod.ext rfl h.1, fun m hm h0 => ?_, fun m hm h0 => ?_⟩⟩
      · rw [e] at hpos; simp at hpos
      · rcases h.2 with e | e
        · exact absurd h0 (ih.none_ e m hm)
        · by_cases e2 : bestR L N k = []
          · exact absurd h0 (ih.none_ e2 m hm)
          · obtain ⟨n, h1, h2, h3, h4⟩ := ih.some_ e2
            have := h4 m hm h0
            omega
      · by_cases e1 : m = k
        · subst e1; exact Nat.le_refl _
        · rcases h.2 with e | e
          · exact absurd h0 (ih.none_ e m (by omega))
          · by_cases e2 : bestR L N k = []
            · exact absurd h0 (ih.none_ e2 m (by omega))
            · obtain ⟨n, h1, h2, h3, h4⟩ := ih.some_ e2
              have := h4 m (by omega) h0
              omega
    · rw [if_neg h]
      refine ⟨fun e m hm h0 => ?_, fun e => ?_⟩
      · by_cases e1 : m = k
        · subst e1; exact h ⟨h0, .inl e⟩
        · exact ih.none_ e m (by omega) h0
      · obtain ⟨n, h1, h2, h3, h4⟩ := ih.some_ e
        refine ⟨n, by omega, h2, h3, fun m hm h0 => ?_⟩
        by_cases e1 : m = k
        · subst e1
          rcases Nat.lt_or_ge (throughR L N (m : Int)).1.length (bestR L N m).length with q | q
          · exact absurd ⟨h0, .inr q⟩ h
          · exact q
        · exact h4 m (by omega) h0
/-- what Shortest tells -/
theorem short_cases (hL : ∀ x ∈ L, (0 ≤ x.f ∧ x.f < (N : Int)) ∧ 0 ≤ x.t ∧ x.t < (N : Int)) :
    (shortR L N = ([], 150) ∧ ∀ n, n < N → ∀ k, 0 < k → jB L n k n = false) ∨
    ∃ best, shortR L N = (best, 0) ∧ closedB (fun x => decide (x ∈ L)) best = true ∧ apartB best = true ∧ roundB best = true ∧ (∀ i, 0 < i → i < best.length → (gt best 0).f < (gt best i).f) ∧ ∀ n, n < N → ∀ k, 0 < k → jB L n k n = true → best.length ≤ k := by
  have hB := best_is L N N
  by_cases e : bestR L N N = []
  · left
    refine ⟨by unfold shortR; rw [if_pos e], fun n hn k hk => ?_⟩
    cases h : jB L n k n with
    | false => rfl
    | true =>
      obtain ⟨d, _, _, _, _, h4⟩ := through_some hL hn hk h
      exact absurd (by rw [h4]) (hB.none_ e n hn)
  · right
    obtain ⟨n0, h1, h2, h3, h4⟩ := hB.some_ e
    rcases through_cases hL h1 with ⟨h5, _⟩ | ⟨d, hd, hj, hmin, h5⟩
    · rw [h2] at h5; simp at h5
    have hb : bestR L N N = walkR L n0 d n0 := by rw [h2] at h5; exact (Prod.mk.inj h5).1
    have hlen : (bestR L N N).length = d := by rw [hb, walkR_len]
    have hless : ∀ n, n < N → ∀ k, 0 < k → jB L n k n = true → (bestR L N N).length ≤ k := fun n hn k hk h => by
      obtain ⟨q, _, hq, _, _, h6⟩ := through_some hL hn hk h
      have h7 := h4 n hn (by rw [h6])
      rw [h6] at h7
      simp only [walkR_len] at h7
      omega
    refine ⟨_, by unfold shortR; rw [if_neg e], ?_, ?_, ?_, fun i h0 hi => ?_, hless⟩
    · rw [hb]; exact walk_closedB hL hd hj
    · rw [hb]; exact through_apart hL hj hmin
    · rw [hb]; exact walk_round hL hd hj
    · rw [hlen] at hi
      have hap := apart_iff.1 (through_apart hL hj hmin) i 0 h0 (by rw [walkR_len]; exact hi)
      rw [hb]
      rw [(walk_at hL hj hi).2.1, (walk_at hL hj hd).2.1, node_zero] at hap ⊢
      have hu : nodeR L n0 d n0 i < N := node_lt hL h1 hj (by omega)
      have hrot : jB L (nodeR L n0 d n0 i) ((d - i) + i) (nodeR L n0 d n0 i) = true := jB_comp (node_tail hj (show i ≤ d by omega)) (node_head hL hj (show i ≤ d by omega))
      obtain ⟨q, _, hq, _, _, h6⟩ := through_some hL hu (show 0 < (d - i) + i by omega) hrot
      rcases Nat.lt_trichotomy (nodeR L n0 d n0 i) n0 with c | c | c
      · have h7 := h3 _ c (by rw [h6])
        rw [h6] at h7
        simp only [walkR_len] at h7
        omega
      · exact absurd (by rw [c]) hap
      · omega
end
#print axioms short_cases
end Go.Proofs.YtgacknphjeiojaaGreat

namespace Go.Proofs.YtgacknphjeiojaaGreat
open Go.RowKit
set_option linter.unusedVariables false

/-- a walk's nodes: each so many edges from where it stands -/
structure NW (L : List Ed) (N a : Nat) (ns : List Nat) : Prop where
  pos : 0 < ns.length
  at_ : a < N
  each : ∀ j, j < ns.length → gt ns j < N ∧ jB L a (ns.length - 1 - j) (gt ns j) = true
theorem NW.start {L : List Ed} {N a : Nat} (h : a < N) : NW L N a [a] := ⟨by simp, h, fun j hj => by
  obtain rfl : j = 0 := by simp at hj; omega
  exact ⟨h, by simp [jB, gt]⟩⟩
theorem jB_edge {L : List Ed} {a b : Nat} {e : Ed} (he : e ∈ L) (hf : e.f = (a : Int)) (ht : e.t = (b : Int)) : jB L b 1 a = true := jB_step he hf (by rw [ht]; simp [jB])
theorem NW.more {L : List Ed} {N a b : Nat} {ns : List Nat} {e : Ed} (h : NW L N a ns) (he : e ∈ L) (hf : e.f = (a : Int)) (ht : e.t = (b : Int)) {j : Nat} (hj : j < ns.length) : jB L b (ns.length - j) (gt ns j) = true := by
  have h1 := jB_comp (h.each j hj).2 (jB_edge he hf ht)
  rwa [show ns.length - 1 - j + 1 = ns.length - j by omega] at h1
theorem NW.step {L : List Ed} {N a b : Nat} {ns : List Nat} {e : Ed} (h : NW L N a ns) (he : e ∈ L) (hf : e.f = (a : Int)) (ht : e.t = (b : Int)) (hb : b < N) : NW L N b (ns ++ [b]) := ⟨by simp, hb, fun j hj => by
  rw [List.length_append, List.length_singleton] at hj ⊢
  by_cases e1 : j < ns.length
  · have h2 : gt (ns ++ [b]) j = gt ns j := by simp only [gt, List.getD]; rw [List.getElem?_append_left e1]
    rw [h2]
    refine ⟨(h.each j e1).1, ?_⟩
    rw [show ns.length + 1 - 1 - j = ns.length - j by omega]
    exact h.more he hf ht e1
  · obtain rfl : j = ns.length := by omega
    have h2 : gt (ns ++ [b]) ns.length = b := by simp [gt, List.getD]
    rw [h2]
    exact ⟨hb, by rw [show ns.length + 1 - 1 - ns.length = 0 by omega]; simp [jB]⟩⟩
def nI (ns : List Nat) : List Int := ns.map fun (x : Nat) => (x : Int)
theorem nI_len (ns : List Nat) : (nI ns).length = ns.length := by simp [nI]
theorem nI_at {ns : List Nat} {j : Nat} (h : j < ns.length) : gi (nI ns) j = ((gt ns j : Nat) : Int) := by simp [nI, gi, gt, h]
theorem nI_snoc (ns : List Nat) (b : Nat) : ints (nI (ns ++ [b])) = ints (nI ns) ++ [.int .i64 (b : Int)] := by simp [nI, ints]
section
variable {w w' : World} {E E2 : Nat → Prop} {l : List Ed} {zs : List Int} {v u : Value}
set_option maxRecDepth 100000 in
set_option maxHeartbeats 8000000 in
theorem least_any (n : Int) (h : EdsV w E v l) (hok : ∀ x ∈ l, x.ok) (start : Int) (h2 : IntsV w E2 u zs) (cut fin : Int) : Calls Tryz.prog 6 #[.int .i64 n, v, .int .i64 start, u, .int .i64 cut, .int .i64 fin] w fun e w' => e = .returned (.bool true) ∧ Fx No w w' := by
  obtain ⟨iii, hii, hzi, hsi, hbi⟩ := info_intY
  have HE := Lib.hid h
  have HOk := Lib.hid hok
  obtain ⟨ao, cap, rfl, hcl, hcm, _⟩ := EdsV.facts h
  obtain ⟨uo, ucap, rfl, hul, huc⟩ := IntsV.facts h2
  have HU := Lib.hid huc
  clear h hok h2 huc
  by_cases h1 : 30 < l.length
  · have d1 : decide ((30 : Int) < (l.length : Int)) = true := decide_eq_true (by omega)
    go_enter Tryz.func6, Tryz.ntmps6
    go_wp2_with fail
    refine (works_any _).mono ?_
    rintro e w1 ⟨rfl, hf⟩
    have HF := Lib.hid hf
    clear hf
    go_wp2
    go_ret
    exact ⟨rfl, HF.out⟩
  · have d1 : decide ((30 : Int) < (l.length : Int)) = false := decide_eq_false (by omega)
    have hl30 : l.length ≤ 30 := by omega
    clear h1
    by_cases h1 : 30 < zs.length
    · have d2 : decide ((30 : Int) < (zs.length : Int)) = true := decide_eq_true (by omega)
      go_enter Tryz.func6, Tryz.ntmps6
      go_wp2_with fail
      refine (works_any _).mono ?_
      rintro e w1 ⟨rfl, hf⟩
      have HF := Lib.hid hf
      clear hf
      go_wp2
      go_ret
      exact ⟨rfl, HF.out⟩
    · have d2 : decide ((30 : Int) < (zs.length : Int)) = false := decide_eq_false (by omega)
      have hz30 : zs.length ≤ 30 := by omega
      clear h1
      go_enter Tryz.func6, Tryz.ntmps6
      go_wp2_with fail
      refine (drawn_any HE.out HOk.out (by omega) n 10 (by omega)).mono ?_
      rintro e w1 ⟨gb, N, L, rv, D, R, rfl, hD, hN, hL⟩
      obtain ⟨ro, rc, rfl, _⟩ := EdsV.facts hD.row
      have HD1 := Lib.hid hD
      have hL30 : L.length ≤ 30 := by omega
      clear hD
      go_wp2_with fail
      refine calls_hold (fun W => Fx No w1 W) ((Fx.refl No _).alloc _) ?_
      rintro wa hfa
      have HGa := Lib.hid (HD1.out.g.no hfa)
      have HFa := Lib.hid (HD1.out.fx.trans hfa)
      have HNd := Lib.hid HGa.out.nodes
      have HLk := Lib.hid HGa.out.ok
      clear hfa HD1
      refine (short_any HGa.out (by omega)).mono ?_
      have hbl := short_len L N
      have hsc := short_cases HNd.out
      obtain ⟨sr, hsr⟩ : ∃ s, s = shortR L N := ⟨_, rfl⟩
      rw [← hsr] at hbl hsc ⊢
      clear hsr
      obtain ⟨best, cd⟩ := sr
      simp only [Prod.mk.injEq] at hbl hsc ⊢
      rintro e wb ⟨bv, rfl, hf, ho⟩
      obtain ⟨bo, bc, rfl, _, _, hbc⟩ := EdsV.facts (OwnT.row ho)
      have HFb := Lib.hid (HFa.out.trans hf)
      have HGb := Lib.hid (HGa.out.no hf)
      have HBb := Lib.hid (OwnT.row ho)
      have HBok : Hid (∀ W, Fx No wb W → EdsV W (fun _ => True) (.slice bo best.length bc) best) := Lib.hid fun W h => RowV.mono (RowV.no (OwnT.row ho) h) fun _ _ => trivial
      have hb12 : best.length ≤ 10 := Nat.le_trans hbl hN
      have HBm : Hid (∀ x ∈ best, x.ok) := Lib.hid fun x hx => HLk.out x (by
        rcases hsc with ⟨⟨h1, _⟩, _⟩ | ⟨b', ⟨h1, _⟩, h2, _⟩
        · rw [h1] at hx; simp at hx
        · rw [← h1] at h2; unfold closedB walkB at h2; simp only [Bool.and_eq_true, List.all_eq_true] at h2; exact of_decide_eq_true (h2.2.2 x hx))
      have HLo : Hid (∀ i, 0 < i → i < best.length → (gt best 0).f < (gt best i).f) := Lib.hid (by
        rcases hsc with ⟨⟨h1, _⟩, _⟩ | ⟨b', ⟨h1, _⟩, _, _, _, h2, _⟩
        · rw [h1]; intro i h3 h4; simp at h4
        · rw [h1]; exact h2)
      have HCyc : Hid (∀ n, n < N → ∀ k, 0 < k → jB L n k n = true → cd = 0 ∧ best.length ≤ k) := Lib.hid (by
        rcases hsc with ⟨_, h2⟩ | ⟨b', ⟨h1, h0⟩, _, _, _, _, h2⟩
        · intro n hn k hk h3; rw [h2 n hn k hk] at h3; cases h3
        · intro n hn k hk h3; rw [h1]; exact ⟨h0, h2 n hn k hk h3⟩)
      have HSc := Lib.hid hsc
      clear hf ho hbc hbl hsc
      go_upto_region 5 with fail
      go_cut [75] from 53 to 75 (fun c ws => c = .bool false ∧ Fx No wb ws)
      case first =>
        rcases HSc.out with ⟨⟨hs, hs2⟩, hno⟩ | ⟨best', ⟨hs, hs2⟩, hcl1, hap, hro, _, _⟩
        · subst hs hs2
          go_wp2_with fail
          refine (closed_any HBb.out (HasP.graph HGb.out HBm.out)).mono ?_
          rw [closed_nil]
          rintro e wc ⟨rfl, hf⟩
          have HFc := Lib.hid hf
          clear hf hno
          go_wp2
          go_meet
          exact ⟨rfl, HFc.out⟩
        · subst hs hs2
          have HCl := Lib.hid hcl1
          have HAp := Lib.hid hap
          have HRo := Lib.hid hro
          clear hcl1 hap hro
          go_wp2_with fail
          refine (closed_any HBb.out (HasP.graph HGb.out HBm.out)).mono ?_
          rw [HCl.out]
          rintro e wc ⟨rfl, hf⟩
          have HFc := Lib.hid hf
          clear hf
          go_wp2_with fail
          refine (simple_any (HBok.out _ HFc.out) (by omega)).mono ?_
          rw [HAp.out, HRo.out]
          rintro e wd ⟨rfl, hf⟩
          have HFd := Lib.hid (HFc.out.trans hf)
          clear hf
          go_wp2
          go_meet
          exact ⟨rfl, HFd.out⟩
      case rest =>
      obtain ⟨rfl, hfd⟩ := hcut
      have HFd := Lib.hid hfd
      clear hfd HSc
      go_wp2
      go_loopw [17] (fun i ws => ∃ k : Nat, i = .int .i64 k ∧ 0 < k ∧ (k ≤ best.length ∨ k = 1) ∧ Fx No wb ws) (fun i _ => best.length - (intOf i).toNat)
      case atStart => exact ⟨1, rfl, by omega, .inr rfl, HFd.out⟩
      case round =>
        obtain ⟨k, rfl, hk0, hk, hf⟩ := hrel
        have HFk := Lib.hid hf
        clear hf
        by_cases hlt : k < best.length
        · obtain ⟨b1, o1, e1, _, p0, p1, p2⟩ := (EdsV.facts (HBok.out _ HFk.out)).elim fun a h => h.elim fun c h => (by obtain ⟨h1, _, _, h4⟩ := h; simp only [Value.slice.injEq, true_and] at h1; obtain ⟨rfl, rfl⟩ := h1; exact h4 k hlt)
          obtain ⟨b2, o2, e2, _, q0, q1, q2⟩ := (EdsV.facts (HBok.out _ HFk.out)).elim fun a h => h.elim fun c h => (by obtain ⟨h1, _, _, h4⟩ := h; simp only [Value.slice.injEq, true_and] at h1; obtain ⟨rfl, rfl⟩ := h1; exact h4 0 (by omega))
          subst e1
          obtain ⟨rfl, rfl⟩ : b1 = b2 ∧ o1 = o2 := by simpa using e2
          rw [Nat.zero_mul, Nat.add_zero] at q0
          have hz0 : (0 : Int) ≤ (k : Int) := by omega
          have hz1 : (k : Int) < (best.length : Int) := by omega
          have hz2 : (0 : Int) < (best.length : Int) := by omega
          have dl : decide ((gt best k).f ≤ (gt best 0).f) = false := decide_eq_false (by have := HLo.out k hk0 hlt; omega)
          clear p1 p2 q1 q2 e2
          go_wp2
          go_quiet (fail)
          go_wp2
          go_roundw
          case rel => exact ⟨k + 1, by go_num, by omega, .inl (by omega), HFk.out.drewN _⟩
          case measure => simp [intOf]; omega
        · have hz1 : ¬ ((k : Int) < (best.length : Int)) := by omega
          have dz : decide ((k : Int) < (best.length : Int)) = false := decide_eq_false hz1
          clear hk hlt
          go_wp2_with fail
          refine (gLen_any (HGb.out.no HFk.out)).mono ?_
          rintro e we ⟨rfl, rfl⟩
          by_cases hN0 : N = 0
          · have dn : ((N : Int) == 0) = true := by simp [hN0]
            clear hN0
            go_wp2_with fail
            refine (works_any _).mono ?_
            rintro e wf ⟨rfl, hf⟩
            have HFf := Lib.hid (HFb.out.trans (HFk.out.trans hf))
            clear hf
            go_wp2
            go_ret
            exact ⟨rfl, HFf.out⟩
          · have dn : ((N : Int) == 0) = false := by simpa using hN0
            go_wp2_with fail
            refine (gLen_any (HGb.out.no HFk.out)).mono ?_
            rintro e wf ⟨rfl, rfl⟩
            go_wp2_with fail
            refine (pick_any _ N (by omega) (by omega) _).mono ?_
            rintro e wg ⟨c, hc, rfl, rfl⟩
            have HNs := Lib.hid (NW.start (L := L) hc)
            have HFg := HFk
            clear dz hz1 dn hN0
            go_wp2
            have HFx := HFb
            go_loopw [18, 19, 20] (fun at' nd i ws => ∃ (k a : Nat) (ns : List Nat), i = .int .i64 k ∧ at' = .int .i64 a ∧ k ≤ zs.length ∧ ns.length = k + 1 ∧ Fx No wb ws ∧ ws.ownsRow wb.heap.size 3 1 nd ns.length (ints (nI ns)) ∧ Hid (NW L N a ns)) (fun _ _ i _ => zs.length - (intOf i).toNat)
            case atStart =>
              have hlit := World.ownsRow_lit (base := wb.heap.size) (e := 3) (size := 1) wr #[.int .i64 (c : Nat)] 1 HFg.out.size (by unfold maxLen; omega) rfl
              exact ⟨0, c, [c], rfl, rfl, Nat.zero_le _, rfl, HFg.out.alloc _, hlit, HNs⟩
            case round =>
              obtain ⟨k2, a, ns, rfl, rfl, hk2, hnl, hf, ho, HNW⟩ := hrel
              obtain ⟨wo, hwo⟩ : ∃ x, x = wr := ⟨_, rfl⟩
              subst hwo
              have HF := Lib.hid hf
              have HO := Lib.hid ho
              have hin : IntsV wo (Iv wb.heap.size wo.heap.size) u19 (nI ns) := (RowI.ofOwn (l := nI ns) (by rw [nI_len]; exact ho)).toInts
              obtain ⟨nv, nc, rfl, _, hnc⟩ := IntsV.facts hin
              rw [nI_len] at HO ⊢
              have hns31 : ns.length ≤ 31 := by omega
              have HNc : Hid (∀ W, Fx No wo W → ∀ j, j < ns.length → ∃ b o, nv = some ⟨b, o, none⟩ ∧ W.cell? ⟨b, o + j, none⟩ = some (.int .i64 ((gt ns j : Nat) : Int))) := Lib.hid fun W hW j hj => by
                obtain ⟨b, o, h1, _, h3⟩ := hnc j (by rw [nI_len]; exact hj)
                rw [nI_at hj] at h3
                exact ⟨b, o, h1, hW.cell' h3 (fun q => q)⟩
              have HNl := Lib.hid hnl
              have hzo := hf.size
              clear hf ho hin hnc hnl
              by_cases hlt2 : k2 < zs.length
              · have hk20 : (0 : Int) ≤ (k2 : Int) := by omega
                have hk21 : (k2 : Int) < (zs.length : Int) := by omega
                go_wp2_with fail
                refine (gOut_any (HGb.out.no HF.out) _).mono ?_
                rintro e wp ⟨ov, rfl, hf, hr⟩
                have HFp := Lib.hid hf
                obtain ⟨rr, hrr⟩ : ∃ x, x = rowI (outE L) N (a : Int) := ⟨_, rfl⟩
                rw [← hrr] at hr
                have HRm : Hid (∀ x ∈ rr, x ∈ L ∧ x.f = (a : Int)) := Lib.hid (by
                  rw [hrr]
                  intro x hx
                  have h1 := HNW.out.at_
                  unfold rowI at hx
                  rw [if_pos ⟨by omega, by omega⟩] at hx
                  unfold outE at hx
                  rw [Int.toNat_natCast] at hx
                  have h2 := List.mem_filter.1 hx
                  exact ⟨h2.1, by simpa using h2.2⟩)
                have hrl : rr.length ≤ 1000000 := by rw [hrr]; exact rowI_len (by omega)
                obtain ⟨rro, rrc, rfl, _, _, hrw⟩ := EdsV.facts (OwnT.row hr)
                have HRw := Lib.hid hrw
                clear hf hr hrw hrr
                by_cases hR0 : rr.length = 0
                · have dR : ((rr.length : Int) == 0) = true := by simpa using hR0
                  have HFE := Lib.hid (HF.out.trans HFp.out)
                  have HFoE := HFp
                  clear hR0 hlt2 hk20 hk21
                  obtain ⟨nb, no, rfl, n0⟩ := HNc.out _ HFoE.out 0 HNW.out.pos
                  rw [Nat.add_zero] at n0
                  have hnp : (0 : Int) < (ns.length : Int) := by have := HNW.out.pos; omega
                  have hu := HNW.out.each 0 HNW.out.pos
                  have ha := HNW.out.at_
                  obtain ⟨d, hd, hpj, hpm, hpe⟩ := path_ok HNd.out hu.1 ha hu.2
                  have HPe := Lib.hid hpe
                  have hPl : (walkR L a d (gt ns 0)).length = d := walkR_len _ _ _ _
                  have HPart : Hid (∀ x y, x < y → y ≤ (walkR L a d (gt ns 0)).length → ∃ q, pathR L N (gt (walkR L a d (gt ns 0)) x).f (gt (walkR L a d (gt ns 0)) (y - 1)).t = (q, 0) ∧ q.length = y - x) := Lib.hid fun x y h1 h2 => path_part HNd.out hu.1 ha hpj hpm h1 (by rw [hPl] at h2; exact h2)
                  have hPN : (walkR L a d (gt ns 0)).length ≤ N := by have h1 := path_len L N ((gt ns 0 : Nat) : Int) (a : Int); rw [hpe] at h1; exact h1
                  obtain ⟨P, hP⟩ : ∃ P, P = walkR L a d (gt ns 0) := ⟨_, rfl⟩
                  rw [← hP] at HPe HPart hPN
                  clear hpj hpm hpe hP hPl hd hu
                  go_wp2_with fail
                  refine (path_any (HGb.out.no HFE.out) (by omega) _ _).mono ?_
                  rw [HPe.out]
                  rintro e wy ⟨pv, rfl, hf, hp⟩
                  obtain ⟨po, pc, rfl, _, _, hpc⟩ := EdsV.facts (OwnT.row hp)
                  have HFy := Lib.hid (HFE.out.trans hf)
                  have HPc := Lib.hid hpc
                  clear hf hp n0 hpc
                  by_cases hP0 : 0 < P.length
                  · have dP : decide ((0 : Int) < (P.length : Int)) = true := decide_eq_true (by omega)
                    go_wp2_with fail
                    refine (pick_any _ P.length hP0 (by omega) _).mono ?_
                    rintro e wq ⟨x, hx, rfl, rfl⟩
                    obtain ⟨m, hm⟩ : ∃ m, m = P.length - x := ⟨_, rfl⟩
                    have hw1 : IntKind.i64.wrap ((P.length : Int) - (x : Int)) = (m : Int) := by rw [IntKind.wrap_i64]; omega
                    have hw2 : IntKind.i64.wrap ((x : Int) + 1) = (x : Int) + 1 := by rw [IntKind.wrap_i64]; omega
                    have hm0 : 0 < m := by omega
                    have hm1 : m ≤ 1000000 := by omega
                    have HM := Lib.hid hm
                    clear hm
                    go_wp2_with fail
                    refine (pick_any _ m hm0 hm1 _).mono ?_
                    rintro e wq ⟨c3, hc3, rfl, rfl⟩
                    obtain ⟨b1, hb1⟩ : ∃ b, b = x + c3 := ⟨_, rfl⟩
                    have hb1P : b1 < P.length := by have := HM.out; omega
                    have hw3 : IntKind.i64.wrap ((x : Int) + 1 + (c3 : Int)) = (b1 : Int) + 1 := by rw [IntKind.wrap_i64]; omega
                    have hw4 : IntKind.i64.wrap (b1 : Int) = (b1 : Int) := by rw [IntKind.wrap_i64]; omega
                    obtain ⟨Q, hQe, hQl⟩ := HPart.out x (b1 + 1) (by omega) (by omega)
                    rw [Nat.add_sub_cancel] at hQe
                    have CP : Hid (∀ W, Fx No wy W → Calls Tryz.prog 27 #[.pointer (some ⟨gb, 0, none⟩), .int .i64 (gt P x).f, .int .i64 (gt P b1).t] W fun e w' => ∃ v', e = .returned (.tuple #[v', .int .i64 0]) ∧ Fx No W w' ∧ OwnT 25 e3 3 w' W.heap.size v' Q) := Lib.hid fun W hW => by
                      have h1 := path_any (HGb.out.no (HFy.out.trans hW)) (show L.length ≤ 999999 by omega) (gt P x).f (gt P b1).t
                      rw [hQe] at h1
                      exact h1
                    obtain ⟨ib1, io1, e1, _, p0, _, _⟩ := HPc.out x hx
                    obtain ⟨ib2, io2, e2, _, _, r1, _⟩ := HPc.out b1 hb1P
                    subst e1
                    obtain ⟨rfl, rfl⟩ : ib1 = ib2 ∧ io1 = io2 := by simpa using e2
                    have g0 : ∀ W, Fx No wy W → W.cell? ⟨ib1, io1 + x * 3, none⟩ = some (.int .i64 (gt P x).f) := fun W h => h.cell' p0 (fun q => q)
                    have g1 : ∀ W, Fx No wy W → W.cell? ⟨ib1, io1 + b1 * 3 + 1, none⟩ = some (.int .i64 (gt P b1).t) := fun W h => h.cell' r1 (fun q => q)
                    have hx0 : (0 : Int) ≤ (x : Int) := by omega
                    have hx1 : (x : Int) < (P.length : Int) := by omega
                    have hb0 : (0 : Int) ≤ (b1 : Int) := by omega
                    have hb2 : (b1 : Int) < (P.length : Int) := by omega
                    have hw5 : IntKind.i64.wrap ((b1 : Int) + 1 - (x : Int)) = (Q.length : Int) := by rw [IntKind.wrap_i64]; omega
                    have HQl := Lib.hid hQl
                    clear p0 r1 e2 hQe hQl hb1
                    go_wp2
                    refine wp_region_H (fun W => Fx No wy W) (by kernel_rfl) ((Fx.refl _ _).drew) ?_
                    intro hS
                    refine wpAnyH_hold (fun W' => Fx No wy W') hS ?_
                    clear hS
                    rintro y0 hS
                    have hS0 := hS
                    refine wpAnyH_take (i := 0) (v := ?_) rfl (by kernel_rfl) (by kernel_rfl) (by kernel_rfl) (fun _ _ _ h => h) (Or.inl ⟨by rfl, ?_⟩) hS ?_
                    rotate_left
                    · (intro W hs; go_simp; first | done | with_reducible rfl)
                    try simp only [Act.put, List.getElem_toArray, List.getElem_cons_zero, List.getElem_cons_succ, List.setIfInBounds_toArray, List.set_cons_zero, List.set_cons_succ]
                    refine wpAnyH_take (i := 1) (v := ?_) rfl (by kernel_rfl) (by kernel_rfl) (by kernel_rfl) (fun _ _ _ h => h) (Or.inl ⟨by rfl, ?_⟩) hS ?_
                    rotate_left
                    · (intro W hs; go_simp; first | done | with_reducible rfl)
                    try simp only [Act.put, List.getElem_toArray, List.getElem_cons_zero, List.getElem_cons_succ, List.setIfInBounds_toArray, List.set_cons_zero, List.set_cons_succ]
                    refine wpAnyH_take (i := 2) (v := ?_) rfl (by kernel_rfl) (by kernel_rfl) (by kernel_rfl) (fun _ _ _ h => h) (Or.inl ⟨by rfl, ?_⟩) hS ?_
                    rotate_left
                    · (intro W hs; go_simp; first | done | with_reducible rfl)
                    try simp only [Act.put, List.getElem_toArray, List.getElem_cons_zero, List.getElem_cons_succ, List.setIfInBounds_toArray, List.set_cons_zero, List.set_cons_succ]
                    refine wpAnyH_take (i := 6) (v := ?_) rfl (by kernel_rfl) (by kernel_rfl) (by kernel_rfl) (fun _ _ _ h => h) (Or.inl ⟨by rfl, ?_⟩) hS ?_
                    rotate_left
                    · (intro W hs; go_simp; first | done | with_reducible rfl)
                    try simp only [Act.put, List.getElem_toArray, List.getElem_cons_zero, List.getElem_cons_succ, List.setIfInBounds_toArray, List.set_cons_zero, List.set_cons_succ]
                    refine wpAnyH_take (i := 7) (v := ?_) rfl (by kernel_rfl) (by kernel_rfl) (by kernel_rfl) (fun _ _ _ h => h) (Or.inl ⟨by rfl, ?_⟩) hS ?_
                    rotate_left
                    · (intro W hs; go_simp; first | done | with_reducible rfl)
                    try simp only [Act.put, List.getElem_toArray, List.getElem_cons_zero, List.getElem_cons_succ, List.setIfInBounds_toArray, List.set_cons_zero, List.set_cons_succ]
                    refine wpAnyH_take (i := 3) (v := ?_) rfl (by kernel_rfl) (by kernel_rfl) (by kernel_rfl) (fun _ _ _ h => h) (Or.inl ⟨by rfl, ?_⟩) hS ?_
                    rotate_left
                    · (intro W hs; go_simp; first | done | with_reducible rfl)
                    try simp only [Act.put, List.getElem_toArray, List.getElem_cons_zero, List.getElem_cons_succ, List.setIfInBounds_toArray, List.set_cons_zero, List.set_cons_succ]
                    refine wpAnyH_take (i := 8) (v := ?_) rfl (by kernel_rfl) (by kernel_rfl) (by kernel_rfl) (fun _ _ _ h => h) (Or.inl ⟨by rfl, ?_⟩) hS ?_
                    rotate_left
                    · (intro W hs; go_simp; first | done | with_reducible rfl)
                    try simp only [Act.put, List.getElem_toArray, List.getElem_cons_zero, List.getElem_cons_succ, List.setIfInBounds_toArray, List.set_cons_zero, List.set_cons_succ]
                    refine wpAnyH_take (i := 4) (v := ?_) rfl (by kernel_rfl) (by kernel_rfl) (by kernel_rfl) (fun _ _ _ h => h) (Or.inl ⟨by rfl, ?_⟩) hS ?_
                    rotate_left
                    · (intro W hs; go_simp; first | done | with_reducible rfl)
                    try simp only [Act.put, List.getElem_toArray, List.getElem_cons_zero, List.getElem_cons_succ, List.setIfInBounds_toArray, List.set_cons_zero, List.set_cons_succ]
                    refine wpAnyH_take (i := 9) (v := ?_) rfl (by kernel_rfl) (by kernel_rfl) (by kernel_rfl) (fun _ _ _ h => h) (Or.inl ⟨by rfl, ?_⟩) hS ?_
                    rotate_left
                    · (intro W hs; go_simp; first | done | with_reducible rfl)
                    try simp only [Act.put, List.getElem_toArray, List.getElem_cons_zero, List.getElem_cons_succ, List.setIfInBounds_toArray, List.set_cons_zero, List.set_cons_succ]
                    refine wpAnyH_take (i := 5) (v := ?_) rfl (by kernel_rfl) (by kernel_rfl) (by kernel_rfl) (fun _ _ _ h => h) (Or.inl ⟨by rfl, ?_⟩) hS ?_
                    rotate_left
                    · (intro W hs; go_simp; first | done | with_reducible rfl)
                    try simp only [Act.put, List.getElem_toArray, List.getElem_cons_zero, List.getElem_cons_succ, List.setIfInBounds_toArray, List.set_cons_zero, List.set_cons_succ]
                    refine wpAnyH_take (i := 10) (v := ?_) rfl (by kernel_rfl) (by kernel_rfl) (by kernel_rfl) (fun _ _ _ h => h) (Or.inl ⟨by rfl, ?_⟩) hS ?_
                    rotate_left
                    · (intro W hs; go_simp; first | done | with_reducible rfl)
                    try simp only [Act.put, List.getElem_toArray, List.getElem_cons_zero, List.getElem_cons_succ, List.setIfInBounds_toArray, List.set_cons_zero, List.set_cons_succ]
                    refine wpAnyH_take (i := 11) (v := ?_) rfl (by kernel_rfl) (by kernel_rfl) (by kernel_rfl) (fun _ _ _ h => h) (Or.inl ⟨by rfl, ?_⟩) hS ?_
                    rotate_left
                    · (intro W hs; go_simp; first | done | with_reducible rfl)
                    try simp only [Act.put, List.getElem_toArray, List.getElem_cons_zero, List.getElem_cons_succ, List.setIfInBounds_toArray, List.set_cons_zero, List.set_cons_succ]
                    refine wpH_one (i := 12) (by kernel_rfl) rfl (fun K hK => ?_)
                    go_simp
                    refine (CP.out _ hS).mono ?_
                    rintro e y1 ⟨qv, rfl, hfi, ho⟩
                    obtain ⟨qo, qc, rfl, _⟩ := EdsV.facts (OwnT.row ho)
                    clear ho
                    have HZy1 : Hid (y0.heap.size ≤ y1.heap.size) := Lib.hid hfi.size
                    have HSy1 : Hid (Fx No y0 y1) := Lib.hid hfi
                    refine hK.out _ _ (hS.trans hfi) (fun hS' => ?_)
                    clear hK K hS hfi 
                    have hS := hS'
                    clear hS'
                    try simp only [Act.put, List.getElem_toArray, List.getElem_cons_zero, List.getElem_cons_succ, List.setIfInBounds_toArray, List.set_cons_zero, List.set_cons_succ]
                    refine wpAnyH_take (i := 13) (v := ?_) rfl (by kernel_rfl) (by kernel_rfl) (by kernel_rfl) (fun _ _ _ h => h) (Or.inl ⟨by rfl, ?_⟩) hS ?_
                    rotate_left
                    · (intro W hs; go_simp; first | done | with_reducible rfl)
                    try simp only [Act.put, List.getElem_toArray, List.getElem_cons_zero, List.getElem_cons_succ, List.setIfInBounds_toArray, List.set_cons_zero, List.set_cons_succ]
                    refine wpAnyH_take (i := 14) (v := ?_) rfl (by kernel_rfl) (by kernel_rfl) (by kernel_rfl) (fun _ _ _ h => h) (Or.inl ⟨by rfl, ?_⟩) hS ?_
                    rotate_left
                    · (intro W hs; go_simp; first | done | with_reducible rfl)
                    try simp only [Act.put, List.getElem_toArray, List.getElem_cons_zero, List.getElem_cons_succ, List.setIfInBounds_toArray, List.set_cons_zero, List.set_cons_succ]
                    refine wpAnyH_take (i := 15) (v := ?_) rfl (by kernel_rfl) (by kernel_rfl) (by kernel_rfl) (fun _ _ _ h => h) (Or.inl ⟨by rfl, ?_⟩) hS ?_
                    rotate_left
                    · (intro W hs; go_simp; first | done | with_reducible rfl)
                    try simp only [Act.put, List.getElem_toArray, List.getElem_cons_zero, List.getElem_cons_succ, List.setIfInBounds_toArray, List.set_cons_zero, List.set_cons_succ]
                    refine wpAnyH_take (i := 16) (v := ?_) rfl (by kernel_rfl) (by kernel_rfl) (by kernel_rfl) (fun _ _ _ h => h) (Or.inl ⟨by rfl, ?_⟩) hS ?_
                    rotate_left
                    · (intro W hs; go_simp; first | done | with_reducible rfl)
                    try simp only [Act.put, List.getElem_toArray, List.getElem_cons_zero, List.getElem_cons_succ, List.setIfInBounds_toArray, List.set_cons_zero, List.set_cons_succ]
                    refine wpAnyH_take (i := 17) (v := ?_) rfl (by kernel_rfl) (by kernel_rfl) (by kernel_rfl) (fun _ _ _ h => h) (Or.inl ⟨by rfl, ?_⟩) hS ?_
                    rotate_left
                    · (intro W hs; go_simp; first | done | with_reducible rfl)
                    try simp only [Act.put, List.getElem_toArray, List.getElem_cons_zero, List.getElem_cons_succ, List.setIfInBounds_toArray, List.set_cons_zero, List.set_cons_succ]
                    refine wpAnyH_done (by kernel_rfl) ?_ _
                    have HZ := Lib.hid hS
                    clear hS hS0 g0 g1
                    have HFT := Lib.hid (HFy.out.trans HZ.out)
                    rcases through_cases HNd.out HNW.out.at_ with ⟨ht, _⟩ | ⟨dt, hdt, htj, htm, ht⟩
                    · have HTe := Lib.hid ht
                      clear ht
                      go_wp2_with fail
                      refine (through_any (HGb.out.no HFT.out) (by omega) _).mono ?_
                      rw [HTe.out]
                      rintro e wt ⟨tv, rfl, hf, ho⟩
                      obtain ⟨tob, tc, rfl, _⟩ := EdsV.facts (OwnT.row ho)
                      have HFt := Lib.hid (HFT.out.trans hf)
                      have HTr := Lib.hid (OwnT.row ho)
                      clear hf ho
                      go_wp2_with fail
                      refine (closed_any HTr.out (HasP.graph (HGb.out.no HFt.out) (by simp))).mono ?_
                      rw [closed_nil]
                      rintro e wu ⟨rfl, hf⟩
                      have HFu := Lib.hid (HFt.out.trans hf)
                      clear hf
                      go_wp2_with fail
                      refine (works_any _).mono ?_
                      rintro e wv ⟨rfl, hf⟩
                      have HFv := Lib.hid (HFb.out.trans (HFu.out.trans hf))
                      clear hf
                      go_wp2
                      go_ret
                      exact ⟨rfl, HFv.out⟩
                    · have HTe := Lib.hid ht
                      have HTc := Lib.hid (walk_closedB HNd.out hdt htj)
                      have HTa := Lib.hid (through_apart HNd.out htj htm)
                      have HTr2 := Lib.hid (walk_round HNd.out hdt htj)
                      have HTm := Lib.hid (walk_mem HNd.out htj)
                      have hTf := (walk_at HNd.out htj hdt).2.1
                      rw [node_zero] at hTf
                      have hTl : (walkR L a dt a).length = dt := walkR_len _ _ _ _
                      obtain ⟨rfl, hTb⟩ := HCyc.out a HNW.out.at_ dt hdt htj
                      obtain ⟨T, hT⟩ : ∃ T, T = walkR L a dt a := ⟨_, rfl⟩
                      rw [← hT] at HTe HTc HTa HTr2 HTm hTf hTl
                      have dT : decide ((best.length : Int) ≤ (T.length : Int)) = true := decide_eq_true (by omega)
                      have hbT : best.length ≤ T.length := by omega
                      have hTp : (0 : Int) < (T.length : Int) := by omega
                      have hT0 : 0 < T.length := by omega
                      have hTl2 : T.length ≤ N := by have h1 := through_len L N (a : Int); rw [HTe.out] at h1; exact h1
                      clear ht htj htm hdt hTb hT hTl
                      go_wp2_with fail
                      refine (through_any (HGb.out.no HFT.out) (by omega) _).mono ?_
                      rw [HTe.out]
                      rintro e wt ⟨tv, rfl, hf, ho⟩
                      obtain ⟨tob, tc, rfl, _, _, htc⟩ := EdsV.facts (OwnT.row ho)
                      have HFt := Lib.hid (HFT.out.trans hf)
                      have HTr := Lib.hid (OwnT.row ho)
                      obtain ⟨tb, to2, rfl, _, t0, _, _⟩ := htc 0 hT0
                      rw [Nat.zero_mul, Nat.add_zero, hTf] at t0
                      have HT0 := Lib.hid t0
                      clear hf ho htc t0 hTf
                      go_wp2_with fail
                      refine (closed_any HTr.out (HasP.graph (HGb.out.no HFt.out) fun x hx => HLk.out x (HTm.out x hx))).mono ?_
                      rw [HTc.out]
                      rintro e wu ⟨rfl, hf⟩
                      have HFu := Lib.hid (HFt.out.trans hf)
                      have HTr3 := Lib.hid (RowV.no HTr.out hf)
                      have HT1 := Lib.hid (hf.cell' HT0.out (fun q => q))
                      clear hf
                      go_wp2_with fail
                      refine (simple_any HTr3.out (by omega)).mono ?_
                      rw [HTa.out, HTr2.out]
                      rintro e wv ⟨rfl, hf⟩
                      have HFv := Lib.hid (HFu.out.trans hf)
                      have t0 := hf.cell' HT1.out (fun q => q)
                      clear hf
                      go_wp2_with fail
                      refine (works_any _).mono ?_
                      rintro e wl ⟨rfl, hf⟩
                      have HFl := Lib.hid (HFb.out.trans (HFv.out.trans hf))
                      clear hf t0
                      go_wp2
                      go_ret
                      exact ⟨rfl, HFl.out⟩
                  · have dP : decide ((0 : Int) < (P.length : Int)) = false := decide_eq_false (by omega)
                    have HFT := HFy
                    rcases through_cases HNd.out HNW.out.at_ with ⟨ht, _⟩ | ⟨dt, hdt, htj, htm, ht⟩
                    · have HTe := Lib.hid ht
                      clear ht
                      go_wp2_with fail
                      refine (through_any (HGb.out.no HFT.out) (by omega) _).mono ?_
                      rw [HTe.out]
                      rintro e wt ⟨tv, rfl, hf, ho⟩
                      obtain ⟨tob, tc, rfl, _⟩ := EdsV.facts (OwnT.row ho)
                      have HFt := Lib.hid (HFT.out.trans hf)
                      have HTr := Lib.hid (OwnT.row ho)
                      clear hf ho
                      go_wp2_with fail
                      refine (closed_any HTr.out (HasP.graph (HGb.out.no HFt.out) (by simp))).mono ?_
                      rw [closed_nil]
                      rintro e wu ⟨rfl, hf⟩
                      have HFu := Lib.hid (HFt.out.trans hf)
                      clear hf
                      go_wp2_with fail
                      refine (works_any _).mono ?_
                      rintro e wv ⟨rfl, hf⟩
                      have HFv := Lib.hid (HFb.out.trans (HFu.out.trans hf))
                      clear hf
                      go_wp2
                      go_ret
                      exact ⟨rfl, HFv.out⟩
                    · have HTe := Lib.hid ht
                      have HTc := Lib.hid (walk_closedB HNd.out hdt htj)
                      have HTa := Lib.hid (through_apart HNd.out htj htm)
                      have HTr2 := Lib.hid (walk_round HNd.out hdt htj)
                      have HTm := Lib.hid (walk_mem HNd.out htj)
                      have hTf := (walk_at HNd.out htj hdt).2.1
                      rw [node_zero] at hTf
                      have hTl : (walkR L a dt a).length = dt := walkR_len _ _ _ _
                      obtain ⟨rfl, hTb⟩ := HCyc.out a HNW.out.at_ dt hdt htj
                      obtain ⟨T, hT⟩ : ∃ T, T = walkR L a dt a := ⟨_, rfl⟩
                      rw [← hT] at HTe HTc HTa HTr2 HTm hTf hTl
                      have dT : decide ((best.length : Int) ≤ (T.length : Int)) = true := decide_eq_true (by omega)
                      have hbT : best.length ≤ T.length := by omega
                      have hTp : (0 : Int) < (T.length : Int) := by omega
                      have hT0 : 0 < T.length := by omega
                      have hTl2 : T.length ≤ N := by have h1 := through_len L N (a : Int); rw [HTe.out] at h1; exact h1
                      clear ht htj htm hdt hTb hT hTl
                      go_wp2_with fail
                      refine (through_any (HGb.out.no HFT.out) (by omega) _).mono ?_
                      rw [HTe.out]
                      rintro e wt ⟨tv, rfl, hf, ho⟩
                      obtain ⟨tob, tc, rfl, _, _, htc⟩ := EdsV.facts (OwnT.row ho)
                      have HFt := Lib.hid (HFT.out.trans hf)
                      have HTr := Lib.hid (OwnT.row ho)
                      obtain ⟨tb, to2, rfl, _, t0, _, _⟩ := htc 0 hT0
                      rw [Nat.zero_mul, Nat.add_zero, hTf] at t0
                      have HT0 := Lib.hid t0
                      clear hf ho htc t0 hTf
                      go_wp2_with fail
                      refine (closed_any HTr.out (HasP.graph (HGb.out.no HFt.out) fun x hx => HLk.out x (HTm.out x hx))).mono ?_
                      rw [HTc.out]
                      rintro e wu ⟨rfl, hf⟩
                      have HFu := Lib.hid (HFt.out.trans hf)
                      have HTr3 := Lib.hid (RowV.no HTr.out hf)
                      have HT1 := Lib.hid (hf.cell' HT0.out (fun q => q))
                      clear hf
                      go_wp2_with fail
                      refine (simple_any HTr3.out (by omega)).mono ?_
                      rw [HTa.out, HTr2.out]
                      rintro e wv ⟨rfl, hf⟩
                      have HFv := Lib.hid (HFu.out.trans hf)
                      have t0 := hf.cell' HT1.out (fun q => q)
                      clear hf
                      go_wp2_with fail
                      refine (works_any _).mono ?_
                      rintro e wl ⟨rfl, hf⟩
                      have HFl := Lib.hid (HFb.out.trans (HFv.out.trans hf))
                      clear hf t0
                      go_wp2
                      go_ret
                      exact ⟨rfl, HFl.out⟩
                · have dR : ((rr.length : Int) == 0) = false := by simpa using hR0
                  obtain ⟨zb, zo, rfl, _, z0⟩ := HU.out k2 hlt2
                  have z0 := (HFb.out.trans (HF.out.trans HFp.out)).cell' z0 (fun q => q)
                  go_wp2_with fail
                  refine (pick_any _ rr.length (by omega) hrl _).mono ?_
                  rintro e wq ⟨c2, hc2, rfl, rfl⟩
                  obtain ⟨b2, o2, rfl, _, s0, s1, s2⟩ := HRw.out c2 hc2
                  obtain ⟨hsm, hsf⟩ := HRm.out _ (gt_mem hc2)
                  obtain ⟨s, hs⟩ : ∃ s, s = gt rr c2 := ⟨_, rfl⟩
                  rw [← hs] at s0 s1 s2 hsm hsf
                  obtain ⟨sf, st, sl⟩ := s
                  simp only at s0 s1 s2 hsf
                  have hst := (HNd.out _ hsm).2
                  simp only at hst
                  obtain ⟨b9, rfl⟩ := Int.eq_ofNat_of_zero_le hst.1
                  have hb9 : b9 < N := by omega
                  have HMore : Hid (∀ j, j < ns.length → jB L b9 (ns.length - j) (gt ns j) = true) := Lib.hid fun j hj => HNW.out.more hsm hsf rfl hj
                  have HStep := Lib.hid (HNW.out.step hsm hsf rfl hb9)
                  have hc20 : (0 : Int) ≤ (c2 : Int) := by omega
                  have hc21 : (c2 : Int) < (rr.length : Int) := by omega
                  have HFq := Lib.hid HFp.out
                  clear hs hsm hsf hst s0 s2
                  go_wp2
                  clear z0 s1
                  go_loopw [22] (fun i ws => ∃ j : Nat, i = .int .i64 j ∧ j ≤ ns.length ∧ Fx No wo ws) (fun i _ => ns.length - (intOf i).toNat)
                  case atStart => exact ⟨0, rfl, Nat.zero_le _, HFq.out⟩
                  case round =>
                    obtain ⟨j, rfl, hj, hf⟩ := hrel
                    have HFj := Lib.hid hf
                    clear hf
                    by_cases hjl : j < ns.length
                    · have hj0 : (0 : Int) ≤ (j : Int) := by omega
                      have hj1 : (j : Int) < (ns.length : Int) := by omega
                      obtain ⟨nb, no, rfl, n0⟩ := HNc.out _ HFj.out j hjl
                      obtain ⟨hu, _⟩ := HNW.out.each j hjl
                      obtain ⟨d, hd, hpj, hpm, hpe⟩ := path_ok HNd.out hu hb9 (HMore.out j hjl)
                      have HPe := Lib.hid hpe
                      have HPw := Lib.hid (walk_walkB HNd.out hpj)
                      have HPm := Lib.hid (walk_mem HNd.out hpj)
                      have hPl : (walkR L b9 d (gt ns j)).length = d := walkR_len _ _ _ _
                      obtain ⟨P, hP⟩ : ∃ P, P = walkR L b9 d (gt ns j) := ⟨_, rfl⟩
                      rw [← hP] at HPe HPw HPm hPl
                      have HPl := Lib.hid hPl
                      have hPl30 : P.length ≤ 31 := by omega
                      clear hpj hpm hpe hP hPl
                      go_wp2_with fail
                      refine (path_any (HGb.out.no (HF.out.trans HFj.out)) (by omega) _ _).mono ?_
                      rw [HPe.out]
                      rintro e wy ⟨pv, rfl, hf, hp⟩
                      obtain ⟨po, pc, rfl, _⟩ := EdsV.facts (OwnT.row hp)
                      have HFy := Lib.hid (HFj.out.trans hf)
                      have HPr := Lib.hid (OwnT.row hp)
                      have dp : decide ((ns.length : Int) - (j : Int) < (P.length : Int)) = false := decide_eq_false (by have := HPl.out; omega)
                      have hw1 : IntKind.i64.wrap ((ns.length : Int) - (j : Int)) = (ns.length : Int) - (j : Int) := by rw [IntKind.wrap_i64]; omega
                      clear hf hp n0
                      go_wp2_with fail
                      refine (walk_any HPr.out (HasP.graph (HGb.out.no (HF.out.trans HFy.out)) fun x hx => HLk.out x (HPm.out x hx))).mono ?_
                      rw [HPw.out]
                      rintro e wz ⟨rfl, hf⟩
                      have HFz := Lib.hid (HFy.out.trans hf)
                      obtain ⟨nb', no', hno', n0⟩ := HNc.out _ HFz.out j hjl
                      obtain ⟨rfl, rfl⟩ : nb = nb' ∧ no = no' := by simpa using hno'
                      clear hf hno'
                      by_cases he : gt ns j = b9
                      · have de : (((gt ns j : Nat) : Int) == (b9 : Int)) = true := by simp [he]
                        obtain ⟨rfl, hle⟩ := HCyc.out b9 hb9 (ns.length - j) (by omega) (by have h2 := HMore.out j hjl; rw [he] at h2; exact h2)
                        have dc : decide ((ns.length : Int) - (j : Int) < (best.length : Int)) = false := decide_eq_false (by omega)
                        clear he hle
                        go_wp2
                        go_roundw
                        case rel => exact ⟨j + 1, by go_num, by omega, HFz.out⟩
                        case measure => simp [intOf]; omega
                      · have de : (((gt ns j : Nat) : Int) == (b9 : Int)) = false := by
                          have h9 : ¬ (((gt ns j : Nat) : Int) = (b9 : Int)) := by omega
                          simpa using h9
                        clear he
                        go_wp2
                        go_roundw
                        case rel => exact ⟨j + 1, by go_num, by omega, HFz.out⟩
                        case measure => simp [intOf]; omega
                    · obtain rfl : j = ns.length := by omega
                      go_wp2_with (at_builtin; refine wpList_append_sl rfl _ _ 23 rfl wb.heap.size 3 Tryz.underlying23 hii hzi hsi hbi rfl (by decide) rfl (World.ownsRow.alloc (ownsRow_fx HO.out HFj.out fun _ _ q => q) _) rfl (SlV.lit _ 3 #[.int .i64 b9] 1 1 rfl (by unfold maxLen; omega)) (ints_one [_]) (by unfold maxLen; omega) (by omega) (by have h1 := HFj.out.size; simp; omega) ?_)
                      intro v2 w2 ho hf _
                      have HO2 : Hid (w2.ownsRow wb.heap.size 3 1 v2 (ns ++ [b9]).length (ints (nI (ns ++ [b9])))) := Lib.hid (by
                        rw [List.length_append, List.length_singleton, nI_snoc]
                        exact ho)
                      have HF2 : Hid (Fx No wb w2) := Lib.hid (((HF.out.trans HFj.out).alloc _).trans' hf fun j h1 h2 => by have := (World.ownsRow.lt HO.out j h1).1; omega)
                      clear ho hf
                      go_wp2
                      go_roundw
                      case rel => exact ⟨k2 + 1, b9, ns ++ [b9], by go_num, rfl, by omega, by have := HNl.out; simp; omega, HF2.out, HO2.out, HStep⟩
                      case measure => simp [intOf]; omega
              · obtain rfl : k2 = zs.length := by omega
                have HFE := HF
                have HFoE := Lib.hid (Fx.refl No wo)
                clear hlt2
                obtain ⟨nb, no, rfl, n0⟩ := HNc.out _ HFoE.out 0 HNW.out.pos
                rw [Nat.add_zero] at n0
                have hnp : (0 : Int) < (ns.length : Int) := by have := HNW.out.pos; omega
                have hu := HNW.out.each 0 HNW.out.pos
                have ha := HNW.out.at_
                obtain ⟨d, hd, hpj, hpm, hpe⟩ := path_ok HNd.out hu.1 ha hu.2
                have HPe := Lib.hid hpe
                have hPl : (walkR L a d (gt ns 0)).length = d := walkR_len _ _ _ _
                have HPart : Hid (∀ x y, x < y → y ≤ (walkR L a d (gt ns 0)).length → ∃ q, pathR L N (gt (walkR L a d (gt ns 0)) x).f (gt (walkR L a d (gt ns 0)) (y - 1)).t = (q, 0) ∧ q.length = y - x) := Lib.hid fun x y h1 h2 => path_part HNd.out hu.1 ha hpj hpm h1 (by rw [hPl] at h2; exact h2)
                have hPN : (walkR L a d (gt ns 0)).length ≤ N := by have h1 := path_len L N ((gt ns 0 : Nat) : Int) (a : Int); rw [hpe] at h1; exact h1
                obtain ⟨P, hP⟩ : ∃ P, P = walkR L a d (gt ns 0) := ⟨_, rfl⟩
                rw [← hP] at HPe HPart hPN
                clear hpj hpm hpe hP hPl hd hu
                go_wp2_with fail
                refine (path_any (HGb.out.no HFE.out) (by omega) _ _).mono ?_
                rw [HPe.out]
                rintro e wy ⟨pv, rfl, hf, hp⟩
                obtain ⟨po, pc, rfl, _, _, hpc⟩ := EdsV.facts (OwnT.row hp)
                have HFy := Lib.hid (HFE.out.trans hf)
                have HPc := Lib.hid hpc
                clear hf hp n0 hpc
                by_cases hP0 : 0 < P.length
                · have dP : decide ((0 : Int) < (P.length : Int)) = true := decide_eq_true (by omega)
                  go_wp2_with fail
                  refine (pick_any _ P.length hP0 (by omega) _).mono ?_
                  rintro e wq ⟨x, hx, rfl, rfl⟩
                  obtain ⟨m, hm⟩ : ∃ m, m = P.length - x := ⟨_, rfl⟩
                  have hw1 : IntKind.i64.wrap ((P.length : Int) - (x : Int)) = (m : Int) := by rw [IntKind.wrap_i64]; omega
                  have hw2 : IntKind.i64.wrap ((x : Int) + 1) = (x : Int) + 1 := by rw [IntKind.wrap_i64]; omega
                  have hm0 : 0 < m := by omega
                  have hm1 : m ≤ 1000000 := by omega
                  have HM := Lib.hid hm
                  clear hm
                  go_wp2_with fail
                  refine (pick_any _ m hm0 hm1 _).mono ?_
                  rintro e wq ⟨c3, hc3, rfl, rfl⟩
                  obtain ⟨b1, hb1⟩ : ∃ b, b = x + c3 := ⟨_, rfl⟩
                  have hb1P : b1 < P.length := by have := HM.out; omega
                  have hw3 : IntKind.i64.wrap ((x : Int) + 1 + (c3 : Int)) = (b1 : Int) + 1 := by rw [IntKind.wrap_i64]; omega
                  have hw4 : IntKind.i64.wrap (b1 : Int) = (b1 : Int) := by rw [IntKind.wrap_i64]; omega
                  obtain ⟨Q, hQe, hQl⟩ := HPart.out x (b1 + 1) (by omega) (by omega)
                  rw [Nat.add_sub_cancel] at hQe
                  have CP : Hid (∀ W, Fx No wy W → Calls Tryz.prog 27 #[.pointer (some ⟨gb, 0, none⟩), .int .i64 (gt P x).f, .int .i64 (gt P b1).t] W fun e w' => ∃ v', e = .returned (.tuple #[v', .int .i64 0]) ∧ Fx No W w' ∧ OwnT 25 e3 3 w' W.heap.size v' Q) := Lib.hid fun W hW => by
                    have h1 := path_any (HGb.out.no (HFy.out.trans hW)) (show L.length ≤ 999999 by omega) (gt P x).f (gt P b1).t
                    rw [hQe] at h1
                    exact h1
                  obtain ⟨ib1, io1, e1, _, p0, _, _⟩ := HPc.out x hx
                  obtain ⟨ib2, io2, e2, _, _, r1, _⟩ := HPc.out b1 hb1P
                  subst e1
                  obtain ⟨rfl, rfl⟩ : ib1 = ib2 ∧ io1 = io2 := by simpa using e2
                  have g0 : ∀ W, Fx No wy W → W.cell? ⟨ib1, io1 + x * 3, none⟩ = some (.int .i64 (gt P x).f) := fun W h => h.cell' p0 (fun q => q)
                  have g1 : ∀ W, Fx No wy W → W.cell? ⟨ib1, io1 + b1 * 3 + 1, none⟩ = some (.int .i64 (gt P b1).t) := fun W h => h.cell' r1 (fun q => q)
                  have hx0 : (0 : Int) ≤ (x : Int) := by omega
                  have hx1 : (x : Int) < (P.length : Int) := by omega
                  have hb0 : (0 : Int) ≤ (b1 : Int) := by omega
                  have hb2 : (b1 : Int) < (P.length : Int) := by omega
                  have hw5 : IntKind.i64.wrap ((b1 : Int) + 1 - (x : Int)) = (Q.length : Int) := by rw [IntKind.wrap_i64]; omega
                  have HQl := Lib.hid hQl
                  clear p0 r1 e2 hQe hQl hb1
                  go_wp2
                  refine wp_region_H (fun W => Fx No wy W) (by kernel_rfl) ((Fx.refl _ _).drew) ?_
                  intro hS
                  refine wpAnyH_hold (fun W' => Fx No wy W') hS ?_
                  clear hS
                  rintro y0 hS
                  have hS0 := hS
                  refine wpAnyH_take (i := 0) (v := ?_) rfl (by kernel_rfl) (by kernel_rfl) (by kernel_rfl) (fun _ _ _ h => h) (Or.inl ⟨by rfl, ?_⟩) hS ?_
                  rotate_left
                  · (intro W hs; go_simp; first | done | with_reducible rfl)
                  try simp only [Act.put, List.getElem_toArray, List.getElem_cons_zero, List.getElem_cons_succ, List.setIfInBounds_toArray, List.set_cons_zero, List.set_cons_succ]
                  refine wpAnyH_take (i := 1) (v := ?_) rfl (by kernel_rfl) (by kernel_rfl) (by kernel_rfl) (fun _ _ _ h => h) (Or.inl ⟨by rfl, ?_⟩) hS ?_
                  rotate_left
                  · (intro W hs; go_simp; first | done | with_reducible rfl)
                  try simp only [Act.put, List.getElem_toArray, List.getElem_cons_zero, List.getElem_cons_succ, List.setIfInBounds_toArray, List.set_cons_zero, List.set_cons_succ]
                  refine wpAnyH_take (i := 2) (v := ?_) rfl (by kernel_rfl) (by kernel_rfl) (by kernel_rfl) (fun _ _ _ h => h) (Or.inl ⟨by rfl, ?_⟩) hS ?_
                  rotate_left
                  · (intro W hs; go_simp; first | done | with_reducible rfl)
                  try simp only [Act.put, List.getElem_toArray, List.getElem_cons_zero, List.getElem_cons_succ, List.setIfInBounds_toArray, List.set_cons_zero, List.set_cons_succ]
                  refine wpAnyH_take (i := 6) (v := ?_) rfl (by kernel_rfl) (by kernel_rfl) (by kernel_rfl) (fun _ _ _ h => h) (Or.inl ⟨by rfl, ?_⟩) hS ?_
                  rotate_left
                  · (intro W hs; go_simp; first | done | with_reducible rfl)
                  try simp only [Act.put, List.getElem_toArray, List.getElem_cons_zero, List.getElem_cons_succ, List.setIfInBounds_toArray, List.set_cons_zero, List.set_cons_succ]
                  refine wpAnyH_take (i := 7) (v := ?_) rfl (by kernel_rfl) (by kernel_rfl) (by kernel_rfl) (fun _ _ _ h => h) (Or.inl ⟨by rfl, ?_⟩) hS ?_
                  rotate_left
                  · (intro W hs; go_simp; first | done | with_reducible rfl)
                  try simp only [Act.put, List.getElem_toArray, List.getElem_cons_zero, List.getElem_cons_succ, List.setIfInBounds_toArray, List.set_cons_zero, List.set_cons_succ]
                  refine wpAnyH_take (i := 3) (v := ?_) rfl (by kernel_rfl) (by kernel_rfl) (by kernel_rfl) (fun _ _ _ h => h) (Or.inl ⟨by rfl, ?_⟩) hS ?_
                  rotate_left
                  · (intro W hs; go_simp; first | done | with_reducible rfl)
                  try simp only [Act.put, List.getElem_toArray, List.getElem_cons_zero, List.getElem_cons_succ, List.setIfInBounds_toArray, List.set_cons_zero, List.set_cons_succ]
                  refine wpAnyH_take (i := 8) (v := ?_) rfl (by kernel_rfl) (by kernel_rfl) (by kernel_rfl) (fun _ _ _ h => h) (Or.inl ⟨by rfl, ?_⟩) hS ?_
                  rotate_left
                  · (intro W hs; go_simp; first | done | with_reducible rfl)
                  try simp only [Act.put, List.getElem_toArray, List.getElem_cons_zero, List.getElem_cons_succ, List.setIfInBounds_toArray, List.set_cons_zero, List.set_cons_succ]
                  refine wpAnyH_take (i := 4) (v := ?_) rfl (by kernel_rfl) (by kernel_rfl) (by kernel_rfl) (fun _ _ _ h => h) (Or.inl ⟨by rfl, ?_⟩) hS ?_
                  rotate_left
                  · (intro W hs; go_simp; first | done | with_reducible rfl)
                  try simp only [Act.put, List.getElem_toArray, List.getElem_cons_zero, List.getElem_cons_succ, List.setIfInBounds_toArray, List.set_cons_zero, List.set_cons_succ]
                  refine wpAnyH_take (i := 9) (v := ?_) rfl (by kernel_rfl) (by kernel_rfl) (by kernel_rfl) (fun _ _ _ h => h) (Or.inl ⟨by rfl, ?_⟩) hS ?_
                  rotate_left
                  · (intro W hs; go_simp; first | done | with_reducible rfl)
                  try simp only [Act.put, List.getElem_toArray, List.getElem_cons_zero, List.getElem_cons_succ, List.setIfInBounds_toArray, List.set_cons_zero, List.set_cons_succ]
                  refine wpAnyH_take (i := 5) (v := ?_) rfl (by kernel_rfl) (by kernel_rfl) (by kernel_rfl) (fun _ _ _ h => h) (Or.inl ⟨by rfl, ?_⟩) hS ?_
                  rotate_left
                  · (intro W hs; go_simp; first | done | with_reducible rfl)
                  try simp only [Act.put, List.getElem_toArray, List.getElem_cons_zero, List.getElem_cons_succ, List.setIfInBounds_toArray, List.set_cons_zero, List.set_cons_succ]
                  refine wpAnyH_take (i := 10) (v := ?_) rfl (by kernel_rfl) (by kernel_rfl) (by kernel_rfl) (fun _ _ _ h => h) (Or.inl ⟨by rfl, ?_⟩) hS ?_
                  rotate_left
                  · (intro W hs; go_simp; first | done | with_reducible rfl)
                  try simp only [Act.put, List.getElem_toArray, List.getElem_cons_zero, List.getElem_cons_succ, List.setIfInBounds_toArray, List.set_cons_zero, List.set_cons_succ]
                  refine wpAnyH_take (i := 11) (v := ?_) rfl (by kernel_rfl) (by kernel_rfl) (by kernel_rfl) (fun _ _ _ h => h) (Or.inl ⟨by rfl, ?_⟩) hS ?_
                  rotate_left
                  · (intro W hs; go_simp; first | done | with_reducible rfl)
                  try simp only [Act.put, List.getElem_toArray, List.getElem_cons_zero, List.getElem_cons_succ, List.setIfInBounds_toArray, List.set_cons_zero, List.set_cons_succ]
                  refine wpH_one (i := 12) (by kernel_rfl) rfl (fun K hK => ?_)
                  go_simp
                  refine (CP.out _ hS).mono ?_
                  rintro e y1 ⟨qv, rfl, hfi, ho⟩
                  obtain ⟨qo, qc, rfl, _⟩ := EdsV.facts (OwnT.row ho)
                  clear ho
                  have HZy1 : Hid (y0.heap.size ≤ y1.heap.size) := Lib.hid hfi.size
                  have HSy1 : Hid (Fx No y0 y1) := Lib.hid hfi
                  refine hK.out _ _ (hS.trans hfi) (fun hS' => ?_)
                  clear hK K hS hfi 
                  have hS := hS'
                  clear hS'
                  try simp only [Act.put, List.getElem_toArray, List.getElem_cons_zero, List.getElem_cons_succ, List.setIfInBounds_toArray, List.set_cons_zero, List.set_cons_succ]
                  refine wpAnyH_take (i := 13) (v := ?_) rfl (by kernel_rfl) (by kernel_rfl) (by kernel_rfl) (fun _ _ _ h => h) (Or.inl ⟨by rfl, ?_⟩) hS ?_
                  rotate_left
                  · (intro W hs; go_simp; first | done | with_reducible rfl)
                  try simp only [Act.put, List.getElem_toArray, List.getElem_cons_zero, List.getElem_cons_succ, List.setIfInBounds_toArray, List.set_cons_zero, List.set_cons_succ]
                  refine wpAnyH_take (i := 14) (v := ?_) rfl (by kernel_rfl) (by kernel_rfl) (by kernel_rfl) (fun _ _ _ h => h) (Or.inl ⟨by rfl, ?_⟩) hS ?_
                  rotate_left
                  · (intro W hs; go_simp; first | done | with_reducible rfl)
                  try simp only [Act.put, List.getElem_toArray, List.getElem_cons_zero, List.getElem_cons_succ, List.setIfInBounds_toArray, List.set_cons_zero, List.set_cons_succ]
                  refine wpAnyH_take (i := 15) (v := ?_) rfl (by kernel_rfl) (by kernel_rfl) (by kernel_rfl) (fun _ _ _ h => h) (Or.inl ⟨by rfl, ?_⟩) hS ?_
                  rotate_left
                  · (intro W hs; go_simp; first | done | with_reducible rfl)
                  try simp only [Act.put, List.getElem_toArray, List.getElem_cons_zero, List.getElem_cons_succ, List.setIfInBounds_toArray, List.set_cons_zero, List.set_cons_succ]
                  refine wpAnyH_take (i := 16) (v := ?_) rfl (by kernel_rfl) (by kernel_rfl) (by kernel_rfl) (fun _ _ _ h => h) (Or.inl ⟨by rfl, ?_⟩) hS ?_
                  rotate_left
                  · (intro W hs; go_simp; first | done | with_reducible rfl)
                  try simp only [Act.put, List.getElem_toArray, List.getElem_cons_zero, List.getElem_cons_succ, List.setIfInBounds_toArray, List.set_cons_zero, List.set_cons_succ]
                  refine wpAnyH_take (i := 17) (v := ?_) rfl (by kernel_rfl) (by kernel_rfl) (by kernel_rfl) (fun _ _ _ h => h) (Or.inl ⟨by rfl, ?_⟩) hS ?_
                  rotate_left
                  · (intro W hs; go_simp; first | done | with_reducible rfl)
                  try simp only [Act.put, List.getElem_toArray, List.getElem_cons_zero, List.getElem_cons_succ, List.setIfInBounds_toArray, List.set_cons_zero, List.set_cons_succ]
                  refine wpAnyH_done (by kernel_rfl) ?_ _
                  have HZ := Lib.hid hS
                  clear hS hS0 g0 g1
                  have HFT := Lib.hid (HFy.out.trans HZ.out)
                  rcases through_cases HNd.out HNW.out.at_ with ⟨ht, _⟩ | ⟨dt, hdt, htj, htm, ht⟩
                  · have HTe := Lib.hid ht
                    clear ht
                    go_wp2_with fail
                    refine (through_any (HGb.out.no HFT.out) (by omega) _).mono ?_
                    rw [HTe.out]
                    rintro e wt ⟨tv, rfl, hf, ho⟩
                    obtain ⟨tob, tc, rfl, _⟩ := EdsV.facts (OwnT.row ho)
                    have HFt := Lib.hid (HFT.out.trans hf)
                    have HTr := Lib.hid (OwnT.row ho)
                    clear hf ho
                    go_wp2_with fail
                    refine (closed_any HTr.out (HasP.graph (HGb.out.no HFt.out) (by simp))).mono ?_
                    rw [closed_nil]
                    rintro e wu ⟨rfl, hf⟩
                    have HFu := Lib.hid (HFt.out.trans hf)
                    clear hf
                    go_wp2_with fail
                    refine (works_any _).mono ?_
                    rintro e wv ⟨rfl, hf⟩
                    have HFv := Lib.hid (HFb.out.trans (HFu.out.trans hf))
                    clear hf
                    go_wp2
                    go_ret
                    exact ⟨rfl, HFv.out⟩
                  · have HTe := Lib.hid ht
                    have HTc := Lib.hid (walk_closedB HNd.out hdt htj)
                    have HTa := Lib.hid (through_apart HNd.out htj htm)
                    have HTr2 := Lib.hid (walk_round HNd.out hdt htj)
                    have HTm := Lib.hid (walk_mem HNd.out htj)
                    have hTf := (walk_at HNd.out htj hdt).2.1
                    rw [node_zero] at hTf
                    have hTl : (walkR L a dt a).length = dt := walkR_len _ _ _ _
                    obtain ⟨rfl, hTb⟩ := HCyc.out a HNW.out.at_ dt hdt htj
                    obtain ⟨T, hT⟩ : ∃ T, T = walkR L a dt a := ⟨_, rfl⟩
                    rw [← hT] at HTe HTc HTa HTr2 HTm hTf hTl
                    have dT : decide ((best.length : Int) ≤ (T.length : Int)) = true := decide_eq_true (by omega)
                    have hbT : best.length ≤ T.length := by omega
                    have hTp : (0 : Int) < (T.length : Int) := by omega
                    have hT0 : 0 < T.length := by omega
                    have hTl2 : T.length ≤ N := by have h1 := through_len L N (a : Int); rw [HTe.out] at h1; exact h1
                    clear ht htj htm hdt hTb hT hTl
                    go_wp2_with fail
                    refine (through_any (HGb.out.no HFT.out) (by omega) _).mono ?_
                    rw [HTe.out]
                    rintro e wt ⟨tv, rfl, hf, ho⟩
                    obtain ⟨tob, tc, rfl, _, _, htc⟩ := EdsV.facts (OwnT.row ho)
                    have HFt := Lib.hid (HFT.out.trans hf)
                    have HTr := Lib.hid (OwnT.row ho)
                    obtain ⟨tb, to2, rfl, _, t0, _, _⟩ := htc 0 hT0
                    rw [Nat.zero_mul, Nat.add_zero, hTf] at t0
                    have HT0 := Lib.hid t0
                    clear hf ho htc t0 hTf
                    go_wp2_with fail
                    refine (closed_any HTr.out (HasP.graph (HGb.out.no HFt.out) fun x hx => HLk.out x (HTm.out x hx))).mono ?_
                    rw [HTc.out]
                    rintro e wu ⟨rfl, hf⟩
                    have HFu := Lib.hid (HFt.out.trans hf)
                    have HTr3 := Lib.hid (RowV.no HTr.out hf)
                    have HT1 := Lib.hid (hf.cell' HT0.out (fun q => q))
                    clear hf
                    go_wp2_with fail
                    refine (simple_any HTr3.out (by omega)).mono ?_
                    rw [HTa.out, HTr2.out]
                    rintro e wv ⟨rfl, hf⟩
                    have HFv := Lib.hid (HFu.out.trans hf)
                    have t0 := hf.cell' HT1.out (fun q => q)
                    clear hf
                    go_wp2_with fail
                    refine (works_any _).mono ?_
                    rintro e wl ⟨rfl, hf⟩
                    have HFl := Lib.hid (HFb.out.trans (HFv.out.trans hf))
                    clear hf t0
                    go_wp2
                    go_ret
                    exact ⟨rfl, HFl.out⟩
                · have dP : decide ((0 : Int) < (P.length : Int)) = false := decide_eq_false (by omega)
                  have HFT := HFy
                  rcases through_cases HNd.out HNW.out.at_ with ⟨ht, _⟩ | ⟨dt, hdt, htj, htm, ht⟩
                  · have HTe := Lib.hid ht
                    clear ht
                    go_wp2_with fail
                    refine (through_any (HGb.out.no HFT.out) (by omega) _).mono ?_
                    rw [HTe.out]
                    rintro e wt ⟨tv, rfl, hf, ho⟩
                    obtain ⟨tob, tc, rfl, _⟩ := EdsV.facts (OwnT.row ho)
                    have HFt := Lib.hid (HFT.out.trans hf)
                    have HTr := Lib.hid (OwnT.row ho)
                    clear hf ho
                    go_wp2_with fail
                    refine (closed_any HTr.out (HasP.graph (HGb.out.no HFt.out) (by simp))).mono ?_
                    rw [closed_nil]
                    rintro e wu ⟨rfl, hf⟩
                    have HFu := Lib.hid (HFt.out.trans hf)
                    clear hf
                    go_wp2_with fail
                    refine (works_any _).mono ?_
                    rintro e wv ⟨rfl, hf⟩
                    have HFv := Lib.hid (HFb.out.trans (HFu.out.trans hf))
                    clear hf
                    go_wp2
                    go_ret
                    exact ⟨rfl, HFv.out⟩
                  · have HTe := Lib.hid ht
                    have HTc := Lib.hid (walk_closedB HNd.out hdt htj)
                    have HTa := Lib.hid (through_apart HNd.out htj htm)
                    have HTr2 := Lib.hid (walk_round HNd.out hdt htj)
                    have HTm := Lib.hid (walk_mem HNd.out htj)
                    have hTf := (walk_at HNd.out htj hdt).2.1
                    rw [node_zero] at hTf
                    have hTl : (walkR L a dt a).length = dt := walkR_len _ _ _ _
                    obtain ⟨rfl, hTb⟩ := HCyc.out a HNW.out.at_ dt hdt htj
                    obtain ⟨T, hT⟩ : ∃ T, T = walkR L a dt a := ⟨_, rfl⟩
                    rw [← hT] at HTe HTc HTa HTr2 HTm hTf hTl
                    have dT : decide ((best.length : Int) ≤ (T.length : Int)) = true := decide_eq_true (by omega)
                    have hbT : best.length ≤ T.length := by omega
                    have hTp : (0 : Int) < (T.length : Int) := by omega
                    have hT0 : 0 < T.length := by omega
                    have hTl2 : T.length ≤ N := by have h1 := through_len L N (a : Int); rw [HTe.out] at h1; exact h1
                    clear ht htj htm hdt hTb hT hTl
                    go_wp2_with fail
                    refine (through_any (HGb.out.no HFT.out) (by omega) _).mono ?_
                    rw [HTe.out]
                    rintro e wt ⟨tv, rfl, hf, ho⟩
                    obtain ⟨tob, tc, rfl, _, _, htc⟩ := EdsV.facts (OwnT.row ho)
                    have HFt := Lib.hid (HFT.out.trans hf)
                    have HTr := Lib.hid (OwnT.row ho)
                    obtain ⟨tb, to2, rfl, _, t0, _, _⟩ := htc 0 hT0
                    rw [Nat.zero_mul, Nat.add_zero, hTf] at t0
                    have HT0 := Lib.hid t0
                    clear hf ho htc t0 hTf
                    go_wp2_with fail
                    refine (closed_any HTr.out (HasP.graph (HGb.out.no HFt.out) fun x hx => HLk.out x (HTm.out x hx))).mono ?_
                    rw [HTc.out]
                    rintro e wu ⟨rfl, hf⟩
                    have HFu := Lib.hid (HFt.out.trans hf)
                    have HTr3 := Lib.hid (RowV.no HTr.out hf)
                    have HT1 := Lib.hid (hf.cell' HT0.out (fun q => q))
                    clear hf
                    go_wp2_with fail
                    refine (simple_any HTr3.out (by omega)).mono ?_
                    rw [HTa.out, HTr2.out]
                    rintro e wv ⟨rfl, hf⟩
                    have HFv := Lib.hid (HFu.out.trans hf)
                    have t0 := hf.cell' HT1.out (fun q => q)
                    clear hf
                    go_wp2_with fail
                    refine (works_any _).mono ?_
                    rintro e wl ⟨rfl, hf⟩
                    have HFl := Lib.hid (HFb.out.trans (HFv.out.trans hf))
                    clear hf t0
                    go_wp2
                    go_ret
                    exact ⟨rfl, HFl.out⟩
end
#print axioms least_any
end Go.Proofs.YtgacknphjeiojaaGreat
