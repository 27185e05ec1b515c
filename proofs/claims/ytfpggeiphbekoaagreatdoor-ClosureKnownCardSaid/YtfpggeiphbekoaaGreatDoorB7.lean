/- Shortest ways, found in breadth: plain. | Shortest ways in a graph of edges: plain. | Walks of just so many edges, as the document counts them: plain. | The least of the shortest walks: the code's and the document's: plain. | A node's shortest closed walk: the code's and the document's: plain. | A queue of ints behind a slice: what is taken off its front, what is put behind it. For every seat. No program in sight. | math/bits.Mul at small numbers; slices.Repeat of one number. | cycle.search: how far it is to a node: found in breadth. -/
import Derived.Test.YtfpggeiphbekoaaGreatDoorB10
import Derived.Test.YtfpggeiphbekoaaGreatDoorA1
import Derived.ArgAppend
import Derived.Test.YtfpggeiphbekoaaGreatDoorB1
import Derived.Shelf.Bits.Mul64
import Derived.Deep.LoopGhost
import Derived.Test.YtfpggeiphbekoaaGreatDoorB6

namespace Go.Proofs.YtfpggeiphbekoaaGreatDoor.Gr
set_option linter.unusedVariables false

/-- a walk of just k edges from m to t; pre n: the nodes with an edge to n -/
def J (N t : Nat) (pre : Nat → List Nat) : Nat → Nat → Prop
  | 0, m => m = t
  | k + 1, m => ∃ n, n < N ∧ m ∈ pre n ∧ J N t pre k n
/-- m is just k edges from t, and no fewer -/
def Ds (N t : Nat) (pre : Nat → List Nat) (m k : Nat) : Prop := J N t pre k m ∧ ∀ j, j < k → ¬ J N t pre j m
section
variable {N t : Nat} {pre : Nat → List Nat}
theorem Ds.uniq {m k k' : Nat} (h : Ds N t pre m k) (h' : Ds N t pre m k') : k = k' := by
  rcases Nat.lt_trichotomy k k' with q | q | q
  · exact absurd h.1 (h'.2 k q)
  · exact q
  · exact absurd h'.1 (h.2 k' q)
theorem J.least {m : Nat} : ∀ k, J N t pre k m → ∃ j, j ≤ k ∧ Ds N t pre m j := by
  intro k
  induction k using Nat.strongRecOn with
  | ind k ih =>
    intro h
    by_cases hx : ∃ j, j < k ∧ J N t pre j m
    · obtain ⟨j, hj, hJ⟩ := hx
      obtain ⟨i, hi, hD⟩ := ih j hj hJ
      exact ⟨i, by omega, hD⟩
    · exact ⟨k, Nat.le_refl _, h, fun j hj hJ => hx ⟨j, hj, hJ⟩⟩
theorem Ds.next {m k : Nat} (h : Ds N t pre m (k + 1)) : ∃ n, n < N ∧ m ∈ pre n ∧ Ds N t pre n k := by
  obtain ⟨n, hn, hm, hJ⟩ := h.1
  exact ⟨n, hn, hm, hJ, fun j hj hq => h.2 (j + 1) (by omega) ⟨n, hn, hm, hq⟩⟩
/-- what breadth has found: Q is what is still to be looked at -/
structure Bfs (N t : Nat) (pre : Nat → List Nat) (far : Nat → Int) (Q : List Nat) : Prop where
  tN : t < N
  t0 : far t = 0
  out : ∀ m, m < N → far m = -1 ∨ ∃ d : Nat, far m = (d : Int) ∧ Ds N t pre m d
  q : ∀ m ∈ Q, m < N ∧ far m ≠ -1
  srt : Q.Pairwise fun a b => far a ≤ far b
  gap : ∀ a ∈ Q, ∀ b ∈ Q, far b ≤ far a + 1
  done : ∀ n, n < N → far n ≠ -1 → n ∉ Q → ∀ m ∈ pre n, far m ≠ -1
theorem Bfs.start (ht : t < N) : Bfs N t pre (fun m => if m = t then 0 else -1) [t] := by
  refine ⟨ht, by simp, fun m hm => ?_, fun m hm => ?_, by simp, fun a ha b hb => ?_, fun n hn h1 h2 => ?_⟩
  · by_cases e : m = t
    · right
      refine ⟨0, by simp [e], ?_, fun j hj => by omega⟩
      exact e
    · left; simp [e]
  · obtain rfl : m = t := by simpa using hm
    exact ⟨ht, by simp⟩
  · obtain rfl : a = t := by simpa using ha
    obtain rfl : b = a := by simpa using hb
    omega
  · have : n = t := by
      by_cases e : n = t
      · exact e
      · simp [e] at h1
    exact absurd (by simp [this]) h2
/-- whatever is no farther than the head has been found -/
theorem Bfs.near {far : Nat → Int} {n : Nat} {Q : List Nat} (hpre : ∀ n m, m ∈ pre n → m < N) (h : Bfs N t pre far (n :: Q)) : ∀ (k m : Nat), m < N → Ds N t pre m k → (k : Int) ≤ far n → far m ≠ -1 := by
  intro k
  induction k with
  | zero =>
    intro m hm hD _ e
    have : m = t := hD.1
    rw [this, h.t0] at e
    omega
  | succ k ih =>
    intro m hm hD hk
    obtain ⟨x, hx, hmx, hDx⟩ := hD.next
    have hf := ih x hx hDx (by omega)
    refine h.done x hx hf (fun hq => ?_) m hmx
    rcases h.out x hx with h1 | ⟨d, h1, h2⟩
    · exact hf h1
    · have hdk := h2.uniq hDx
      subst hdk
      rcases List.mem_cons.1 hq with rfl | hq
      · omega
      · have := (List.pairwise_cons.1 h.srt).1 x hq
        omega
/-- one more is found -/
theorem Bfs.found {far : Nat → Int} {n m : Nat} {Q : List Nat} (hpre : ∀ n m, m ∈ pre n → m < N) (h : Bfs N t pre far (n :: Q)) (hm : m ∈ pre n) (hf : far m = -1) : Bfs N t pre (fun x => if x = m then far n + 1 else far x) (n :: (Q ++ [m])) := by
  have hmN := hpre n m hm
  obtain ⟨hnN, hnf⟩ := h.q n (by simp)
  obtain ⟨d, hd, hDn⟩ := (h.out n hnN).resolve_left hnf
  have hne : ∀ x, far x ≠ -1 → x ≠ m := fun x hx e => hx (e ▸ hf)
  have hDm : Ds N t pre m (d + 1) := by
    refine ⟨⟨n, hnN, hm, hDn.1⟩, fun j hj hJ => ?_⟩
    obtain ⟨i, hi, hD⟩ := J.least j hJ
    exact h.near hpre i m hmN hD (by omega) hf
  have hle : ∀ x ∈ n :: Q, far x ≤ far n + 1 := fun x hx => h.gap n (by simp) x hx
  have hge : ∀ x ∈ n :: Q, far n ≤ far x := fun x hx => by
    rcases List.mem_cons.1 hx with rfl | hx
    · exact Int.le_refl _
    · exact (List.pairwise_cons.1 h.srt).1 x hx
  have hold : ∀ x ∈ n :: Q, (if x = m then far n + 1 else far x) = far x := fun x hx => if_neg (hne x (h.q x hx).2)
  have hQ : n :: (Q ++ [m]) = (n :: Q) ++ [m] := rfl
  refine ⟨h.tN, ?_, fun x hx => ?_, fun x hx => ?_, ?_, fun a ha b hb => ?_, fun x hx h1 h2 y hy => ?_⟩
  · rw [if_neg (hne t (by rw [h.t0]; omega))]; exact h.t0
  · by_cases e : x = m
    · subst e
      right
      exact ⟨d + 1, by rw [if_pos rfl, hd]; rfl, hDm⟩
    · rw [if_neg e]; exact h.out x hx
  · rw [hQ] at hx
    rcases List.mem_append.1 hx with hx | hx
    · rw [hold x hx]; exact h.q x hx
    · obtain rfl : x = m := by simpa using hx
      exact ⟨hmN, by rw [if_pos rfl]; omega⟩
  · rw [hQ, List.pairwise_append]
    refine ⟨h.srt.imp_of_mem fun {a b} ha hb hab => by rw [hold a ha, hold b hb]; exact hab, by simp, fun a ha b hb => ?_⟩
    obtain rfl : b = m := by simpa using hb
    rw [hold a ha, if_pos rfl]
    exact hle a ha
  · rw [hQ] at ha hb
    have hA : far n ≤ (if a = m then far n + 1 else far a) := by
      rcases List.mem_append.1 ha with ha | ha
      · rw [hold a ha]; exact hge a ha
      · obtain rfl : a = m := by simpa using ha
        rw [if_pos rfl]; omega
    have hB : (if b = m then far n + 1 else far b) ≤ far n + 1 := by
      rcases List.mem_append.1 hb with hb | hb
      · rw [hold b hb]; exact hle b hb
      · obtain rfl : b = m := by simpa using hb
        rw [if_pos rfl]; exact Int.le_refl _
    omega
  · have hxm : x ≠ m := fun e => h2 (by simp [e])
    rw [if_neg hxm] at h1
    have := h.done x hx h1 (fun q => h2 (by rw [hQ]; exact List.mem_append_left _ q)) y hy
    by_cases e : y = m
    · rw [if_pos e]; omega
    · rw [if_neg e]; exact this
/-- the head has been looked at -/
theorem Bfs.pop {far : Nat → Int} {n : Nat} {Q : List Nat} (h : Bfs N t pre far (n :: Q)) (hall : ∀ m ∈ pre n, far m ≠ -1) : Bfs N t pre far Q := by
  refine ⟨h.tN, h.t0, h.out, fun m hm => h.q m (List.mem_cons_of_mem _ hm), (List.pairwise_cons.1 h.srt).2, fun a ha b hb => ?_, fun x hx h1 h2 => ?_⟩
  · exact h.gap a (List.mem_cons_of_mem _ ha) b (List.mem_cons_of_mem _ hb)
  · by_cases e : x = n
    · subst e; exact hall
    · exact h.done x hx h1 fun q => (List.mem_cons.1 q).elim e h2
/-- how far each node is -/
def FarOk (N t : Nat) (pre : Nat → List Nat) (far : Nat → Int) : Prop := ∀ m, m < N → (far m = -1 ∧ ∀ k, ¬ J N t pre k m) ∨ ∃ d : Nat, far m = (d : Int) ∧ Ds N t pre m d
theorem Bfs.empty {far : Nat → Int} (h : Bfs N t pre far []) : FarOk N t pre far := by
  have key : ∀ k m, m < N → J N t pre k m → far m ≠ -1 := by
    intro k
    induction k with
    | zero =>
      intro m _ hJ e
      have : m = t := hJ
      rw [this, h.t0] at e
      omega
    | succ k ih =>
      intro m _ hJ
      obtain ⟨n, hn, hm, hq⟩ := hJ
      exact h.done n hn (ih n hn hq) (by simp) m hm
  intro m hm
  rcases h.out m hm with h1 | h1
  · exact .inl ⟨h1, fun k hJ => key k m hm hJ h1⟩
  · exact .inr h1
theorem Bfs.full {far : Nat → Int} {Q : List Nat} (h : Bfs N t pre far Q) (hall : ∀ m, m < N → far m ≠ -1) : FarOk N t pre far := fun m hm => .inr ((h.out m hm).resolve_left (hall m hm))
/-- how many have been found -/
def foundN (far : Nat → Int) (N : Nat) : Nat := (List.range N).countP fun m => decide (far m ≠ -1)
theorem foundN_le (far : Nat → Int) (N : Nat) : foundN far N ≤ N := by
  have := List.countP_le_length (p := fun m => decide (far m ≠ -1)) (l := List.range N)
  simpa [foundN] using this
theorem foundN_all {far : Nat → Int} {N : Nat} (h : foundN far N = N) : ∀ m, m < N → far m ≠ -1 := by
  have h1 : (List.range N).countP (fun m => decide (far m ≠ -1)) = (List.range N).length := by rw [List.length_range]; exact h
  intro m hm
  have := List.countP_eq_length.1 h1 m (List.mem_range.2 hm)
  simpa using this
theorem foundN_more {far : Nat → Int} {N m : Nat} {v : Int} (hm : m < N) (hf : far m = -1) (hv : v ≠ -1) : foundN (fun x => if x = m then v else far x) N = foundN far N + 1 := by
  unfold foundN
  induction N with
  | zero => omega
  | succ N ih =>
    rw [List.range_succ, List.countP_append, List.countP_append]
    by_cases e : m = N
    · subst e
      have h1 : (List.range m).countP (fun x => decide ((if x = m then v else far x) ≠ -1)) = (List.range m).countP fun x => decide (far x ≠ -1) := by
        refine List.countP_congr fun x hx => ?_
        have : x ≠ m := by have := List.mem_range.1 hx; omega
        rw [if_neg this]
      rw [h1]
      simp [hf, hv]
    · rw [ih (by omega)]
      have : (if N = m then v else far N) = far N := if_neg fun q => e q.symm
      simp [List.countP_cons, this]
      omega
theorem foundN_start {N t : Nat} (ht : t < N) : foundN (fun m => if m = t then (0 : Int) else -1) N = 1 := by
  have h := foundN_more (far := fun _ => (-1 : Int)) (v := 0) ht rfl (by omega)
  have h0 : foundN (fun _ => (-1 : Int)) N = 0 := by
    unfold foundN
    exact List.countP_eq_zero.2 fun a _ => by simp
  rw [h0] at h
  exact h
end
#print axioms Bfs.found
#print axioms foundN_more
end Go.Proofs.YtfpggeiphbekoaaGreatDoor.Gr

namespace Go.Proofs.YtfpggeiphbekoaaGreatDoor.Gr
open Go.RowKit
set_option linter.unusedVariables false

theorem mem_compTo {l : List Int} {x : Int} : ∀ {a : Nat}, a ≤ l.length → (x ∈ compTo l a ↔ ∃ k, k < a ∧ gi l k = x)
  | 0, _ => by simp [compTo]
  | a + 1, ha => by
    have ih := mem_compTo (l := l) (x := x) (a := a) (by omega)
    by_cases h : a = 0 ∨ gi l a ≠ gi l (a - 1)
    · rw [compTo, if_pos h, List.mem_append, ih, List.mem_singleton]
      constructor
      · rintro (⟨k, h1, h2⟩ | h1)
        · exact ⟨k, by omega, h2⟩
        · exact ⟨a, by omega, h1.symm⟩
      · rintro ⟨k, h1, h2⟩
        by_cases e : k = a
        · subst e; exact .inr h2.symm
        · exact .inl ⟨k, by omega, h2⟩
    · have h' : 0 < a ∧ gi l a = gi l (a - 1) := by
        refine ⟨by omega, ?_⟩
        by_cases e : gi l a = gi l (a - 1)
        · exact e
        · exact absurd (.inr e) h
      rw [compTo_old h'.1 h'.2, ih]
      constructor
      · rintro ⟨k, h1, h2⟩; exact ⟨k, by omega, h2⟩
      · rintro ⟨k, h1, h2⟩
        by_cases e : k = a
        · subst e; exact ⟨k - 1, by omega, by rw [← h'.2]; exact h2⟩
        · exact ⟨k, by omega, h2⟩
theorem mem_comp {l : List Int} {x : Int} : x ∈ comp l ↔ x ∈ l := by
  unfold comp
  rw [mem_compTo (Nat.le_refl _)]
  constructor
  · rintro ⟨k, h1, rfl⟩; exact gi_mem h1
  · intro h
    obtain ⟨k, h1, h2⟩ := List.getElem_of_mem h
    exact ⟨k, h1, by simp [gi, List.getD, h1, h2]⟩
/-- the row of the nodes with an edge to n, as Next tells it of the graph turned about -/
def preI (L : List Ed) (N : Nat) (n : Int) : List Int := comp ((rowI (outE (backL L)) N n).map (·.t))
def preN (L : List Ed) (N n : Nat) : List Nat := (preI L N (n : Int)).map Int.toNat
theorem mem_preI {L : List Ed} {N n : Nat} (hn : n < N) {x : Int} : x ∈ preI L N (n : Int) ↔ ∃ e ∈ L, e.f = x ∧ e.t = (n : Int) := by
  unfold preI
  rw [mem_comp, rowI, if_pos ⟨by omega, by omega⟩, List.mem_map]
  constructor
  · rintro ⟨e, he, rfl⟩
    rw [Int.toNat_natCast, mem_outE, mem_backL] at he
    exact ⟨turnE e, he.1, rfl, he.2⟩
  · rintro ⟨e, he, rfl, h⟩
    refine ⟨turnE e, ?_, rfl⟩
    rw [Int.toNat_natCast, mem_outE, mem_backL]
    exact ⟨he, h⟩
theorem preI_nodes {L : List Ed} {N n : Nat} (hn : n < N) (hL : ∀ x ∈ L, (0 ≤ x.f ∧ x.f < (N : Int)) ∧ 0 ≤ x.t ∧ x.t < (N : Int)) {x : Int} (hx : x ∈ preI L N (n : Int)) : 0 ≤ x ∧ x < (N : Int) := by
  obtain ⟨e, he, rfl, _⟩ := (mem_preI hn).1 hx
  exact (hL e he).1
theorem mem_preN {L : List Ed} {N n : Nat} (hn : n < N) (hL : ∀ x ∈ L, (0 ≤ x.f ∧ x.f < (N : Int)) ∧ 0 ≤ x.t ∧ x.t < (N : Int)) {m : Nat} : m ∈ preN L N n ↔ ∃ e ∈ L, e.f = (m : Int) ∧ e.t = (n : Int) := by
  unfold preN
  rw [List.mem_map]
  constructor
  · rintro ⟨x, hx, rfl⟩
    have := preI_nodes hn hL hx
    rw [Int.toNat_of_nonneg this.1]
    exact (mem_preI hn).1 hx
  · intro h
    exact ⟨(m : Int), (mem_preI hn).2 h, rfl⟩
theorem preN_lt {L : List Ed} {N n : Nat} (hL : ∀ x ∈ L, (0 ≤ x.f ∧ x.f < (N : Int)) ∧ 0 ≤ x.t ∧ x.t < (N : Int)) : ∀ m, m ∈ preN L N n → m < N := fun m hm => by
  obtain ⟨x, hx, rfl⟩ := List.mem_map.1 hm
  unfold preI at hx
  rw [mem_comp, List.mem_map] at hx
  obtain ⟨e, he, rfl⟩ := hx
  unfold rowI at he
  split at he
  · rw [mem_outE, mem_backL] at he
    have := (hL _ he.1).1
    have h2 : (turnE e).f = e.t := rfl
    rw [h2] at this
    omega
  · simp at he
#print axioms mem_preN
end Go.Proofs.YtfpggeiphbekoaaGreatDoor.Gr

namespace Go.Proofs.YtfpggeiphbekoaaGreatDoor.Gr
open Go.RowKit
set_option linter.unusedVariables false

theorem nodup_lt_len : ∀ (n : Nat) (l : List Nat), l.Nodup → (∀ x ∈ l, x < n) → l.length ≤ n
  | 0, l, _, h => by
    cases l with
    | nil => simp
    | cons x l => have := h x (by simp); omega
  | n + 1, l, hn, h => by
    have h1 := nodup_lt_len n (l.filter fun x => decide (x ≠ n)) (hn.filter _) fun x hx => by
      obtain ⟨h2, h3⟩ := List.mem_filter.1 hx
      have := h x h2
      have h4 : x ≠ n := by simpa using h3
      omega
    have h2 : (l.filter fun x => decide (x = n)).length ≤ 1 := by
      have h3 : (l.filter fun x => decide (x = n)).Nodup := hn.filter _
      match hq : l.filter fun x => decide (x = n), h3 with
      | [], _ => simp
      | [x], _ => simp
      | x :: y :: r, h3 =>
        have hx : x ∈ l.filter fun x => decide (x = n) := by rw [hq]; simp
        have hy : y ∈ l.filter fun x => decide (x = n) := by rw [hq]; simp
        have hx' : x = n := by simpa using (List.mem_filter.1 hx).2
        have hy' : y = n := by simpa using (List.mem_filter.1 hy).2
        rw [hx', hy'] at h3
        simp at h3
    have h3 : l.length = (l.filter fun x => decide (x = n)).length + (l.filter fun x => decide (x ≠ n)).length := by
      rw [← List.countP_eq_length_filter, ← List.countP_eq_length_filter]
      have := List.length_eq_countP_add_countP (fun x => decide (x = n)) (l := l)
      rw [this]
      congr 1
      refine List.countP_congr fun x _ => by simp
    omega
section
variable {N t : Nat} {pre : Nat → List Nat}
theorem Ds.lt (hpre : ∀ n m, m ∈ pre n → m < N) {d m : Nat} (hm : m < N) (h : Ds N t pre m d) : d < N := by
  have key : ∀ d m, m < N → Ds N t pre m d → ∃ l : List Nat, l.length = d + 1 ∧ (∀ x ∈ l, x < N) ∧ l.Nodup ∧ ∀ x ∈ l, ∃ j, j ≤ d ∧ Ds N t pre x j := by
    intro d
    induction d with
    | zero => intro m hm h; exact ⟨[m], rfl, by simpa using hm, by simp, fun x hx => (by obtain rfl : x = m := (by simpa using hx); exact ⟨0, Nat.le_refl _, h⟩)⟩
    | succ d ih =>
      intro m hm h
      obtain ⟨n, hn, hmn, hD⟩ := h.next
      obtain ⟨l, h1, h2, h3, h4⟩ := ih n hn hD
      refine ⟨m :: l, by simp [h1], fun x hx => ?_, List.nodup_cons.2 ⟨fun hx => ?_, h3⟩, fun x hx => ?_⟩
      · rcases List.mem_cons.1 hx with rfl | hx
        · exact hm
        · exact h2 x hx
      · obtain ⟨j, hj, hDj⟩ := h4 m hx
        have := hDj.uniq h
        omega
      · rcases List.mem_cons.1 hx with rfl | hx
        · exact ⟨d + 1, Nat.le_refl _, h⟩
        · obtain ⟨j, hj, hDj⟩ := h4 x hx
          exact ⟨j, by omega, hDj⟩
  obtain ⟨l, h1, h2, h3, _⟩ := key d m hm h
  have := nodup_lt_len N l h3 h2
  omega
end
/-- a walk of just k edges, told by the edges -/
def jB (L : List Ed) (t : Nat) : Nat → Nat → Bool
  | 0, m => decide (m = t)
  | k + 1, m => L.any fun e => decide (e.f = (m : Int)) && jB L t k e.t.toNat
theorem jB_iff {L : List Ed} {N t : Nat} (hL : ∀ x ∈ L, (0 ≤ x.f ∧ x.f < (N : Int)) ∧ 0 ≤ x.t ∧ x.t < (N : Int)) : ∀ (k m : Nat), jB L t k m = true ↔ J N t (preN L N) k m
  | 0, m => by simp [jB, J]
  | k + 1, m => by
    unfold jB J
    rw [List.any_eq_true]
    constructor
    · rintro ⟨e, he, h⟩
      simp only [Bool.and_eq_true, decide_eq_true_eq] at h
      have ht := (hL e he).2
      refine ⟨e.t.toNat, by omega, (mem_preN (by omega) hL).2 ⟨e, he, h.1, by rw [Int.toNat_of_nonneg ht.1]⟩, (jB_iff hL k _).1 h.2⟩
    · rintro ⟨n, hn, hm, hJ⟩
      obtain ⟨e, he, h1, h2⟩ := (mem_preN hn hL).1 hm
      refine ⟨e, he, ?_⟩
      simp only [Bool.and_eq_true, decide_eq_true_eq]
      exact ⟨h1, by rw [h2, Int.toNat_natCast]; exact (jB_iff hL k n).2 hJ⟩
/-- the first of so many rows in which a node's place is set, from one on; -1: none -/
def firstJ (L : List Ed) (t N m : Nat) : Nat → Int
  | least => if h : least ≤ N then (if jB L t least m = true then (least : Int) else firstJ L t N m (least + 1)) else -1
termination_by least => N + 1 - least
theorem firstJ_spec {L : List Ed} {t N m : Nat} (least : Nat) : (firstJ L t N m least = -1 ∧ ∀ k, least ≤ k → k ≤ N → jB L t k m = false) ∨ ∃ k : Nat, firstJ L t N m least = (k : Int) ∧ least ≤ k ∧ k ≤ N ∧ jB L t k m = true ∧ ∀ j, least ≤ j → j < k → jB L t j m = false := by
  generalize hn : N + 1 - least = n
  induction n generalizing least with
  | zero =>
    left
    have h : ¬ least ≤ N := by omega
    rw [firstJ, dif_neg h]
    exact ⟨rfl, fun k h1 h2 => by omega⟩
  | succ n ih =>
    have h : least ≤ N := by omega
    rw [firstJ, dif_pos h]
    by_cases hj : jB L t least m = true
    · rw [if_pos hj]
      exact .inr ⟨least, rfl, Nat.le_refl _, h, hj, fun j h1 h2 => by omega⟩
    · rw [if_neg hj]
      have hf : jB L t least m = false := by simpa using hj
      rcases ih (least + 1) (by omega) with ⟨h1, h2⟩ | ⟨k, h1, h2, h3, h4, h5⟩
      · refine .inl ⟨h1, fun k hk hkN => ?_⟩
        by_cases e : k = least
        · subst e; exact hf
        · exact h2 k (by omega) hkN
      · refine .inr ⟨k, h1, by omega, h3, h4, fun j h6 h7 => ?_⟩
        by_cases e : j = least
        · subst e; exact hf
        · exact h5 j (by omega) h7
/-- what breadth finds is what the document says -/
theorem far_first {L : List Ed} {N t : Nat} {far : Nat → Int} (hL : ∀ x ∈ L, (0 ≤ x.f ∧ x.f < (N : Int)) ∧ 0 ≤ x.t ∧ x.t < (N : Int)) (h : FarOk N t (preN L N) far) {m : Nat} (hm : m < N) : far m = firstJ L t N m 0 := by
  have hpre : ∀ n m, m ∈ preN L N n → m < N := fun n m => preN_lt hL m
  rcases firstJ_spec (L := L) (t := t) (N := N) (m := m) 0 with ⟨h1, h2⟩ | ⟨k, h1, _, h3, h4, h5⟩
  · rcases h m hm with ⟨h6, _⟩ | ⟨d, h6, h7⟩
    · rw [h1, h6]
    · have := h7.lt hpre hm
      have h8 := h2 d (Nat.zero_le _) (by omega)
      rw [(jB_iff hL d m).2 h7.1] at h8
      cases h8
  · have hJ := (jB_iff hL k m).1 h4
    rcases h m hm with ⟨_, h7⟩ | ⟨d, h6, h7⟩
    · exact absurd hJ (h7 k)
    · have hD : Ds N t (preN L N) m k := ⟨hJ, fun j hj hq => by
        have := h5 j (Nat.zero_le _) hj
        rw [(jB_iff hL j m).2 hq] at this
        cases this⟩
      rw [h1, h6, h7.uniq hD]
#print axioms far_first
end Go.Proofs.YtfpggeiphbekoaaGreatDoor.Gr

namespace Go.Proofs.YtfpggeiphbekoaaGreatDoor.Gr
open Go.RowKit
set_option linter.unusedVariables false

def noE : Ed := ⟨0, 0, 0⟩
/-- the code's: of the edges out of n the first to a node that is so far -/
def stepE (L : List Ed) (far : Nat → Int) (n : Nat) (d : Int) : Ed := ((outE L n).find? fun e => decide (far e.t.toNat = d)).getD noE
def wayE (L : List Ed) (far : Nat → Int) : Nat → Nat → List Ed
  | 0, _ => []
  | d + 1, n => stepE L far n (d : Int) :: wayE L far d (stepE L far n (d : Int)).t.toNat
/-- the document's -/
def stepR (L : List Ed) (t : Nat) (k n : Nat) : Ed := (L.find? fun e => decide (e.f = (n : Int)) && jB L t k e.t.toNat).getD noE
def walkR (L : List Ed) (t : Nat) : Nat → Nat → List Ed
  | 0, _ => []
  | k + 1, n => stepR L t k n :: walkR L t k (stepR L t k n).t.toNat
theorem find_filter {α : Type} (p q : α → Bool) : ∀ l : List α, (l.filter p).find? q = l.find? fun x => p x && q x
  | [] => rfl
  | x :: l => by
    by_cases h : p x = true
    · rw [List.filter_cons_of_pos h, List.find?_cons, List.find?_cons, find_filter p q l, h, Bool.true_and]
    · have h' : p x = false := by simpa using h
      rw [List.filter_cons_of_neg h, List.find?_cons, find_filter p q l, h', Bool.false_and]
theorem find_congr {α : Type} {p q : α → Bool} : ∀ {l : List α}, (∀ x ∈ l, p x = q x) → l.find? p = l.find? q
  | [], _ => rfl
  | x :: l, h => by
    rw [List.find?_cons, List.find?_cons, h x (by simp), find_congr fun y hy => h y (List.mem_cons_of_mem _ hy)]
section
variable {L : List Ed} {N t : Nat} {far : Nat → Int}
theorem step_same (hL : ∀ x ∈ L, (0 ≤ x.f ∧ x.f < (N : Int)) ∧ 0 ≤ x.t ∧ x.t < (N : Int)) (h : FarOk N t (preN L N) far) {d n : Nat} (hno : ∀ e ∈ L, e.f = (n : Int) → ∀ j, j < d → jB L t j e.t.toNat = false) : stepE L far n (d : Int) = stepR L t d n := by
  unfold stepE stepR outE
  rw [find_filter]
  congr 1
  refine find_congr fun e he => ?_
  by_cases hf : e.f = (n : Int)
  · rw [decide_eq_true hf, Bool.true_and, Bool.true_and, Bool.eq_iff_iff, decide_eq_true_iff]
    have ht := (hL e he).2
    have htN : e.t.toNat < N := by omega
    constructor
    · intro hd
      rcases h _ htN with ⟨h1, _⟩ | ⟨k, h1, h2⟩
      · rw [h1] at hd; omega
      · have : k = d := by rw [h1] at hd; omega
        subst this
        exact (jB_iff hL _ _).2 h2.1
    · intro hj
      have hJ := (jB_iff hL _ _).1 hj
      rcases h _ htN with ⟨_, h1⟩ | ⟨k, h1, h2⟩
      · exact absurd hJ (h1 d)
      · have hk : k ≤ d := by
          rcases Nat.lt_or_ge d k with q | q
          · exact absurd hJ (h2.2 d q)
          · exact q
        rcases Nat.lt_or_ge k d with q | q
        · have := hno e he hf k q
          rw [(jB_iff hL _ _).2 h2.1] at this
          cases this
        · have : k = d := by omega
          rw [h1, this]
  · rw [decide_eq_false hf, Bool.false_and, Bool.false_and]
theorem stepR_spec {k n : Nat} (h : jB L t (k + 1) n = true) : stepR L t k n ∈ L ∧ (stepR L t k n).f = (n : Int) ∧ jB L t k (stepR L t k n).t.toNat = true := by
  unfold jB at h
  unfold stepR
  cases hf : L.find? fun e => decide (e.f = (n : Int)) && jB L t k e.t.toNat with
  | none =>
    rw [List.any_eq_true] at h
    obtain ⟨e, he, h1⟩ := h
    have := List.find?_eq_none.1 hf e he
    exact absurd h1 this
  | some e =>
    have h1 := List.find?_some hf
    have h2 := List.mem_of_find?_eq_some hf
    simp only [Bool.and_eq_true, decide_eq_true_eq] at h1
    exact ⟨h2, h1.1, h1.2⟩
/-- from a node that is just d away the two are one -/
theorem way_same (hL : ∀ x ∈ L, (0 ≤ x.f ∧ x.f < (N : Int)) ∧ 0 ≤ x.t ∧ x.t < (N : Int)) (h : FarOk N t (preN L N) far) : ∀ (d n : Nat), n < N → Ds N t (preN L N) n d → wayE L far d n = walkR L t d n
  | 0, n, _, _ => rfl
  | d + 1, n, hn, hD => by
    have hno : ∀ e ∈ L, e.f = (n : Int) → ∀ j, j < d → jB L t j e.t.toNat = false := fun e he hf j hj => by
      cases hq : jB L t j e.t.toNat with
      | false => rfl
      | true =>
        have ht := (hL e he).2
        exact absurd ⟨e.t.toNat, by omega, (mem_preN (by omega) hL).2 ⟨e, he, hf, by rw [Int.toNat_of_nonneg ht.1]⟩, (jB_iff hL _ _).1 hq⟩ (hD.2 (j + 1) (by omega))
    have hs := step_same hL h (d := d) (n := n) hno
    unfold wayE walkR
    rw [hs]
    obtain ⟨h1, h2, h3⟩ := stepR_spec ((jB_iff hL (d + 1) n).2 hD.1)
    have ht := (hL _ h1).2
    rw [way_same hL h d _ (by omega) ⟨(jB_iff hL _ _).1 h3, fun j hj hq => by
      have := hno _ h1 h2 j hj
      rw [(jB_iff hL _ _).2 hq] at this
      cases this⟩]
/-- a node's shortest closed walk -/
theorem least_over (hL : ∀ x ∈ L, (0 ≤ x.f ∧ x.f < (N : Int)) ∧ 0 ≤ x.t ∧ x.t < (N : Int)) {k n : Nat} : jB L t (k + 1) n = true ↔ ∃ e ∈ L, e.f = (n : Int) ∧ jB L t k e.t.toNat = true := by
  show (L.any fun e => decide (e.f = (n : Int)) && jB L t k e.t.toNat) = true ↔ _
  rw [List.any_eq_true]
  constructor
  · rintro ⟨e, he, h⟩
    simp only [Bool.and_eq_true, decide_eq_true_eq] at h
    exact ⟨e, he, h.1, h.2⟩
  · rintro ⟨e, he, h1, h2⟩
    exact ⟨e, he, by simp only [Bool.and_eq_true, decide_eq_true_eq]; exact ⟨h1, h2⟩⟩
end
#print axioms way_same
end Go.Proofs.YtfpggeiphbekoaaGreatDoor.Gr

namespace Go.Proofs.YtfpggeiphbekoaaGreatDoor.Gr
open Go.RowKit
set_option linter.unusedVariables false

/-- the least of the ways, -1: none -/
def bestStep (far : Nat → Int) (b : Int) (m : Int) : Int := if far m.toNat ≠ -1 ∧ (b = -1 ∨ far m.toNat < b) then far m.toNat else b
def bestF (far : Nat → Int) (l : List Int) : Int := l.foldl (bestStep far) (-1)
theorem bestF_snoc (far : Nat → Int) (l : List Int) (m : Int) : bestF far (l ++ [m]) = bestStep far (bestF far l) m := by simp [bestF]
theorem bestF_spec (far : Nat → Int) (hf : ∀ m, -1 ≤ far m) (l : List Int) : (bestF far l = -1 ∧ ∀ m ∈ l, far m.toNat = -1) ∨ (bestF far l ≠ -1 ∧ (∃ m ∈ l, bestF far l = far m.toNat) ∧ ∀ m ∈ l, far m.toNat ≠ -1 → bestF far l ≤ far m.toNat) := by
  generalize hn : l.length = n
  induction n generalizing l with
  | zero =>
    obtain rfl := List.eq_nil_of_length_eq_zero hn
    exact .inl ⟨rfl, by simp⟩
  | succ n hi =>
    obtain ⟨l, x, rfl⟩ : ∃ l' x, l = l' ++ [x] := by
      rcases List.eq_nil_or_concat l with rfl | ⟨l, x, rfl⟩
      · simp at hn
      · exact ⟨l, x, List.concat_eq_append⟩
    rw [bestF_snoc]
    unfold bestStep
    have ih := hi l (by simp at hn; exact hn)
    have hx := hf x.toNat
    by_cases h : far x.toNat ≠ -1 ∧ (bestF far l = -1 ∨ far x.toNat < bestF far l)
    · rw [if_pos h]
      refine .inr ⟨h.1, ⟨x, by simp, rfl⟩, fun m hm hne => ?_⟩
      rcases List.mem_append.1 hm with hm | hm
      · rcases ih with ⟨h1, h2⟩ | ⟨h1, h2, h3⟩
        · exact absurd (h2 m hm) hne
        · have := h3 m hm hne
          rcases h.2 with h4 | h4
          · exact absurd h4 h1
          · omega
      · obtain rfl : m = x := by simpa using hm
        exact Int.le_refl _
    · rw [if_neg h]
      rcases ih with ⟨h1, h2⟩ | ⟨h1, ⟨m0, h2, h2'⟩, h3⟩
      · refine .inl ⟨h1, fun m hm => ?_⟩
        rcases List.mem_append.1 hm with hm | hm
        · exact h2 m hm
        · obtain rfl : m = x := by simpa using hm
          by_cases e : far m.toNat = -1
          · exact e
          · exact absurd ⟨e, .inl h1⟩ h
      · refine .inr ⟨h1, ⟨m0, by simp [h2], h2'⟩, fun m hm hne => ?_⟩
        rcases List.mem_append.1 hm with hm | hm
        · exact h3 m hm hne
        · obtain rfl : m = x := by simpa using hm
          rcases Int.lt_or_le (far m.toNat) (bestF far l) with q | q
          · exact absurd ⟨hne, .inr q⟩ h
          · exact q
/-- the nodes that an edge out of n leads to, as Next tells them -/
def nextI (L : List Ed) (N : Nat) (n : Int) : List Int := comp ((rowI (outE L) N n).map (·.t))
theorem mem_nextI {L : List Ed} {N n : Nat} (hn : n < N) {x : Int} : x ∈ nextI L N (n : Int) ↔ ∃ e ∈ L, e.f = (n : Int) ∧ e.t = x := by
  unfold nextI
  rw [mem_comp, rowI, if_pos ⟨by omega, by omega⟩, List.mem_map]
  constructor
  · rintro ⟨e, he, rfl⟩
    rw [Int.toNat_natCast, mem_outE] at he
    exact ⟨e, he.1, he.2, rfl⟩
  · rintro ⟨e, he, h, rfl⟩
    exact ⟨e, by rw [Int.toNat_natCast, mem_outE]; exact ⟨he, h⟩, rfl⟩
section
variable {L : List Ed} {N n : Nat} {far : Nat → Int}
theorem FarOk.low (h : FarOk N n (preN L N) far) {m : Nat} (hm : m < N) : -1 ≤ far m := by
  rcases h m hm with ⟨h1, _⟩ | ⟨d, h1, _⟩ <;> omega
/-- how far a node's shortest closed walk is -/
theorem through_first (hL : ∀ x ∈ L, (0 ≤ x.f ∧ x.f < (N : Int)) ∧ 0 ≤ x.t ∧ x.t < (N : Int)) (h : FarOk N n (preN L N) far) (hf : ∀ m, -1 ≤ far m) (hn : n < N) :
    (bestF far (nextI L N (n : Int)) = -1 ∧ firstJ L n N n 1 = -1) ∨ ∃ d : Nat, bestF far (nextI L N (n : Int)) = (d : Int) ∧ firstJ L n N n 1 = ((d + 1 : Nat) : Int) ∧ stepE L far n (d : Int) = stepR L n d n ∧
      (stepR L n d n ∈ L ∧ (stepR L n d n).f = (n : Int)) ∧ Ds N n (preN L N) (stepR L n d n).t.toNat d := by
  have hpre : ∀ n' m, m ∈ preN L N n' → m < N := fun n' m => preN_lt hL m
  rcases bestF_spec far hf (nextI L N (n : Int)) with ⟨h1, h2⟩ | ⟨h1, ⟨x, hx, hx2⟩, h3⟩
  · refine .inl ⟨h1, ?_⟩
    rcases firstJ_spec (L := L) (t := n) (N := N) (m := n) 1 with ⟨h4, _⟩ | ⟨k, _, h5, _, h6, _⟩
    · exact h4
    · obtain ⟨k, rfl⟩ : ∃ j, k = j + 1 := ⟨k - 1, by omega⟩
      obtain ⟨e, he, he1, he2⟩ := (least_over hL).1 h6
      have ht := (hL e he).2
      have h7 := h2 e.t ((mem_nextI hn).2 ⟨e, he, he1, rfl⟩)
      rcases h e.t.toNat (by omega) with ⟨_, h8⟩ | ⟨d, h8, _⟩
      · exact absurd ((jB_iff hL _ _).1 he2) (h8 k)
      · rw [h8] at h7; omega
  · obtain ⟨e0, he0, he01, rfl⟩ := (mem_nextI hn).1 hx
    have ht0 := (hL e0 he0).2
    obtain ⟨d, hd, hD⟩ := (h e0.t.toNat (by omega)).resolve_left (fun q => h1 (by rw [hx2]; exact q.1))
    have hdN := hD.lt hpre (by omega)
    have hbest : bestF far (nextI L N (n : Int)) = (d : Int) := by rw [hx2, hd]
    have hno : ∀ e ∈ L, e.f = (n : Int) → ∀ j, j < d → jB L n j e.t.toNat = false := fun e he hf1 j hj => by
      cases hq : jB L n j e.t.toNat with
      | false => rfl
      | true =>
        have ht := (hL e he).2
        obtain ⟨i, hi, hDi⟩ := J.least j ((jB_iff hL _ _).1 hq)
        rcases h e.t.toNat (by omega) with ⟨_, h8⟩ | ⟨d', h8, hD'⟩
        · exact absurd hDi.1 (h8 i)
        · have h9 := h3 e.t ((mem_nextI hn).2 ⟨e, he, hf1, rfl⟩) (by rw [h8]; omega)
          rw [hbest, h8] at h9
          have := hD'.uniq hDi
          omega
    have hjd : jB L n (d + 1) n = true := (least_over hL).2 ⟨e0, he0, he01, (jB_iff hL _ _).2 hD.1⟩
    obtain ⟨s1, s2, s3⟩ := stepR_spec hjd
    have hts := (hL _ s1).2
    refine .inr ⟨d, hbest, ?_, step_same hL h hno, ⟨s1, s2⟩, (jB_iff hL _ _).1 s3, fun j hj hq => ?_⟩
    · rcases firstJ_spec (L := L) (t := n) (N := N) (m := n) 1 with ⟨_, h5⟩ | ⟨k, h4, h5, _, h6, h7⟩
      · rw [h5 (d + 1) (by omega) (by omega)] at hjd; cases hjd
      · obtain ⟨k, rfl⟩ : ∃ j, k = j + 1 := ⟨k - 1, by omega⟩
        obtain ⟨e, he, he1, he2⟩ := (least_over hL).1 h6
        have hkd : ¬ k < d := fun q => by rw [hno e he he1 k q] at he2; cases he2
        have hdk : ¬ d < k := fun q => by rw [h7 (d + 1) (by omega) (by omega)] at hjd; cases hjd
        have : k = d := by omega
        rw [h4, this]
    · have := hno _ s1 s2 j hj
      rw [(jB_iff hL _ _).2 hq] at this
      cases this
end
#print axioms through_first
end Go.Proofs.YtfpggeiphbekoaaGreatDoor.Gr

namespace Go.Proofs.YtfpggeiphbekoaaGreatDoor.Gr
open Go.RowKit
set_option linter.unusedVariables false

/-- a queue: a slice into a row of the call's own -/
def Qv (t : TypeId) (w : World) (base : Nat) (v : Value) (l : List Int) : Prop :=
  ∃ (g o cap : Nat) (cur : Array Value), v = .slice (some ⟨g, o, none⟩) l.length cap ∧ base ≤ g ∧ w.heap[g]? = some (.cells cur t (0, 0)) ∧ l.length ≤ cap ∧ cap ≤ maxLen ∧ o + cap ≤ cur.size ∧ ∀ k, k < l.length → cur[o + k]? = some (.int .i64 (gi l k))
section
variable {t : TypeId} {w w' : World} {base : Nat} {v : Value} {l : List Int} {S : Nat → Prop}
theorem Qv.keep (h : Qv t w base v l) (hf : Fx S w w') (hn : ∀ g, v.ownBlock = some g → ¬ S g) : Qv t w' base v l := by
  obtain ⟨g, o, cap, cur, rfl, h1, h2, h3, h4, h5, h6⟩ := h
  exact ⟨g, o, cap, cur, rfl, h1, hf.at_ h2 (hn g rfl), h3, h4, h5, h6⟩
theorem Qv.no (h : Qv t w base v l) (hf : Fx No w w') : Qv t w' base v l := h.keep hf fun _ _ h => h
theorem Qv.lt (h : Qv t w base v l) {j : Nat} (hj : v.ownBlock = some j) : base ≤ j ∧ j < w.heap.size := by
  obtain ⟨g, o, cap, cur, rfl, h1, h2, _⟩ := h
  obtain rfl : g = j := by simpa [Value.ownBlock] using hj
  exact ⟨h1, (Array.getElem?_eq_some_iff.1 h2).1⟩
/-- the first, and the rest -/
theorem Qv.front {x : Int} (h : Qv t w base v (x :: l)) : ∃ g o cap, v = .slice (some ⟨g, o, none⟩) (l.length + 1) cap ∧ base ≤ g ∧ g < w.heap.size ∧ l.length + 1 ≤ cap ∧ cap ≤ 9223372036854775807 ∧ w.cell? ⟨g, o, none⟩ = some (.int .i64 x) ∧
    Qv t w base (.slice (some (if cap = 1 then ⟨g, o, none⟩ else ⟨g, o + 1, none⟩)) l.length (cap - 1)) l := by
  obtain ⟨g, o, cap, cur, hv, h1, h2, h3, h4, h5, h6⟩ := h
  simp only [List.length_cons] at hv h3 h6
  have h4' := h4
  unfold maxLen at h4'
  refine ⟨g, o, cap, hv, h1, (Array.getElem?_eq_some_iff.1 h2).1, h3, by omega, ?_, ?_⟩
  · rw [cell_of_row _ _ _ _ _ _ h2]
    have := h6 0 (by omega)
    simpa [gi] using this
  · by_cases hc : cap = 1
    · rw [if_pos hc]
      have hl : l.length = 0 := by omega
      refine ⟨g, o, cap - 1, cur, rfl, h1, h2, by omega, by unfold maxLen; omega, by omega, fun k hk => by omega⟩
    · rw [if_neg hc]
      refine ⟨g, o + 1, cap - 1, cur, rfl, h1, h2, by omega, by unfold maxLen; omega, by omega, fun k hk => ?_⟩
      have := h6 (k + 1) (by omega)
      rw [show o + 1 + k = o + (k + 1) by omega, this]
      simp [gi]
theorem Qv.lit (w : World) (x : Int) : Qv t (w.alloc (.cells #[.int .i64 x] t)) w.heap.size (.slice (some ⟨w.heap.size, 0, none⟩) 1 1) [x] :=
  ⟨w.heap.size, 0, 1, #[.int .i64 x], rfl, Nat.le_refl _, by show (w.heap.push _)[w.heap.size]? = _; simp, Nat.le_refl _, by unfold maxLen; omega, by simp, fun k hk => by
    obtain rfl : k = 0 := by simp at hk; omega
    simp [gi]⟩
theorem setRow_fxQ (w : World) (g : Nat) (cs : Array Value) : Fx (fun j => j = g) w (w.setRow g cs) := ⟨rfl, rfl, rfl, by simp [World.setRow], fun k _ hn => setRow_other w g k cs hn⟩
theorem Qv.ofOwns (h : w.ownsRow base t 1 v l.length (ints l)) (h0 : 0 < l.length) : Qv t w base v l := by
  rcases h.2 with ⟨_, h2⟩ | ⟨g, cap, cur, hv, hb, hg, hnc, hcm, hcs, htake⟩
  · omega
  · refine ⟨g, 0, cap, cur, hv, hb, hg, hnc, hcm, by omega, fun k hk => ?_⟩
    have h3 : (cur.toList.take (l.length * 1))[k]? = some (.int .i64 (gi l k)) := by
      rw [htake]
      simp [ints, gi, hk]
    rw [List.getElem?_take_of_lt (by omega)] at h3
    rw [Nat.zero_add]
    simpa using h3
/-- one more behind it -/
theorem run_append_q {P : Program} {ts ty : TypeId} {i : TypeInfo} {z : Value} {bytes : Nat} (ht : P.underlying ts = some (.slice t)) (hi : P.info? t = some i) (hz : i.zero = some z) (hzs : z.cells.size = 1) (hs : i.size = 1) (hby : i.bytes = bytes) (hb8 : bytes = 8)
    (h : Qv t w base v l) (hl : l.length ≤ 1000000) {a : Addr} {c : Nat} {x : Int} (hx : w.cell? a = some (.int .i64 x)) (hb : base ≤ w.heap.size) :
    ∃ v' w', (Builtin.append_ #[ts, ts] ty #[v, .slice (some a) 1 c]).run P w = .ok v' w' ∧ Qv t w' base v' (l ++ [x]) ∧ Fx (fun j => v.ownBlock = some j) w w' ∧ ∀ g, v'.ownBlock = some g → v.ownBlock = some g ∨ w.heap.size ≤ g := by
  obtain ⟨g, o, cap, cur, rfl, h1, h2, h3, h4, h5, h6⟩ := h
  have hnews : ∀ j u, ([Value.int .i64 x])[j]? = some u → w.cell? (a.add j) = some u := fun j u hu => by
    match j, hu with
    | 0, hu =>
      simp at hu
      subst hu
      obtain ⟨ab, ao, ai⟩ := a
      exact hx
    | j + 1, hu => simp at hu
  by_cases hroom : l.length + 1 ≤ cap
  · have hf := run_firstCells_some (P := P) w 1 1 a 1 c [.int .i64 x] rfl hnews
    have hst := run_storeCells_at P g (o + l.length) t [.int .i64 x] 0 cur w h2 (by simp; omega) (by simp [Value.oneCell'])
    simp only [Nat.add_zero] at hst
    have hrun : (Builtin.append_ #[ts, ts] ty #[.slice (some ⟨g, o, none⟩) l.length cap, .slice (some a) 1 c]).run P w = .ok (.slice (some ⟨g, o, none⟩) (l.length + 1) cap) (w.setRow g (cur.toList.take (o + l.length) ++ [Value.int .i64 x] ++ cur.toList.drop (o + l.length + 1)).toArray) := by
      simp [Builtin.append_, run_underlying ht, sizeOf, typeInfo, hi, Builtin.lenOf, hroom, hs, hf, Addr.add_lit, hst]
    refine ⟨_, _, hrun, ?_, (setRow_fxQ w g _).mono fun k _ hk => (show (Value.slice (some ⟨g, o, none⟩) l.length cap).ownBlock = some k by rw [hk]; rfl), fun g' e => .inl e⟩
    refine ⟨g, o, cap, _, by rw [List.length_append]; rfl, h1, setRow_heap w g cur _ t _ h2, by simpa using hroom, h4, ?_, fun k hk => ?_⟩
    · simp; omega
    · have hlt : (cur.toList.take (o + l.length)).length = o + l.length := by rw [List.length_take]; simp; omega
      rw [List.getElem?_toArray, List.append_assoc]
      by_cases e : k < l.length
      · rw [List.getElem?_append_left (by rw [hlt]; omega), List.getElem?_take_of_lt (by omega)]
        have h7 := h6 k e
        rw [← Array.getElem?_toList] at h7
        rw [h7]
        simp [gi, List.getElem?_append_left e]
      · have e' : k = l.length := by simp at hk; omega
        subst e'
        rw [List.getElem?_append_right (by rw [hlt]; omega), hlt, Nat.sub_self]
        simp [gi]
  · have holds : ∀ j u, (ints l)[j]? = some u → w.cell? ((⟨g, o, none⟩ : Addr).add j) = some u := fun j u hu => by
      have hj : j < l.length := by have := (List.getElem?_eq_some_iff.1 hu).1; simpa [ints] using this
      rw [Addr.add_lit, cell_of_row _ _ _ _ _ _ h2, h6 j hj]
      simpa [ints, gi, hj] using hu
    obtain ⟨v', w', hr, ho, hg⟩ := run_append_arg_grows (P := P) w ts ty t i z 1 bytes ht hi hz hs hby hzs (by decide) ⟨g, o, none⟩ l.length cap (ints l) (by simp [ints]) holds a 1 c [.int .i64 x] rfl hnews (by omega) (by unfold maxLen; omega) (by subst hb8; omega)
    have ho' : w'.ownsRow w.heap.size t 1 v' (l ++ [x]).length (ints (l ++ [x])) := by simpa [ints] using ho
    have hq := Qv.ofOwns ho' (by simp)
    refine ⟨v', w', hr, ?_, Fx.ofGrown hg (by simp), fun g' e => .inr (hq.lt e).1⟩
    obtain ⟨g', o', cap', cur', k0, k1, k2⟩ := hq
    exact ⟨g', o', cap', cur', k0, by omega, k2⟩
/-- the walk's law -/
theorem wpList_append_q {P : Program} {ops : Array Oper} {rest : List Oper} {op : Oper} {ac : Act} {Q : Exit → Act → World → Prop} (hgd : op.guard = none) (s y : Operand) (ts : TypeId)
    (hop : op.op = .call { callee := .builtin .append, args := #[s, y], argTypes := #[ts, ts] })
    {i : TypeInfo} {z : Value} {bytes : Nat} (ht : P.underlying ts = some (.slice t)) (hi : P.info? t = some i) (hz : i.zero = some z) (hzs : z.cells.size = 1) (hs : i.size = 1) (hby : i.bytes = bytes) (hb8 : bytes = 8)
    (h : Qv t w base v l) (hl : l.length ≤ 1000000) {a : Addr} {c : Nat} {x : Int} (hx : w.cell? a = some (.int .i64 x)) (hb : base ≤ w.heap.size) (es : ac.eval s = v) (ey : ac.eval y = .slice (some a) 1 c)
    (hK : ∀ v' w', Qv t w' base v' (l ++ [x]) → Fx (fun j => v.ownBlock = some j) w w' → (∀ g, v'.ownBlock = some g → v.ownBlock = some g ∨ w.heap.size ≤ g) → wpList P ops Q rest (ac.put op.dst v') w') : wpList P ops Q (op :: rest) ac w := by
  obtain ⟨v', w', hr, g1, g2, g3⟩ := run_append_q (P := P) (ts := ts) (ty := op.type) ht hi hz hzs hs hby hb8 h hl (c := c) hx hb
  refine wpList_plain hgd fun K hK' => ?_
  unfold Oper.wp
  simp [execOp, hop, resolve, invoke, builtin, es, ey, hr, Result.andThen]
  exact hK' _ _ (hK v' w' g1 g2 g3)
end
#print axioms wpList_append_q
end Go.Proofs.YtfpggeiphbekoaaGreatDoor.Gr

namespace Go.Proofs.YtfpggeiphbekoaaGreatDoor.Gr
open Go.RowKit
set_option linter.unusedVariables false

set_option maxHeartbeats 1000000 in
theorem mul64_any (x y : Nat) (hx : x < 18446744073709551616) (hy : y < 18446744073709551616) (w : World) :
    Calls Tryz.prog 107 #[.int .u64 x, .int .u64 y] w fun e w' => e = .returned (.tuple #[.int .u64 ((x * y / 18446744073709551616 : Nat) : Int), .int .u64 ((x * y % 18446744073709551616 : Nat) : Int)]) ∧ w' = w := by
  obtain ⟨bd, bt, bw, hhi⟩ := Go.Lib.mul64_hi x y hx hy
  have ba := Go.Lib.half_mul_le (a := x / 4294967296) (b := y / 4294967296) (by omega) (by omega)
  have bb := Go.Lib.half_mul_le (a := x / 4294967296) (b := y % 4294967296) (by omega) (by omega)
  have bc := Go.Lib.half_mul_le (a := x % 4294967296) (b := y / 4294967296) (by omega) (by omega)
  have ba' : x / 4294967296 * (y / 4294967296) < 18446744073709551616 := by omega
  have bb' : x / 4294967296 * (y % 4294967296) < 18446744073709551616 := by omega
  have bc' : x % 4294967296 * (y / 4294967296) < 18446744073709551616 := by omega
  have bh1 : x / 4294967296 * (y / 4294967296) + (x / 4294967296 * (y % 4294967296) + x % 4294967296 * (y % 4294967296) / 4294967296) / 4294967296 < 18446744073709551616 := by omega
  have bh : x / 4294967296 * (y / 4294967296) + (x / 4294967296 * (y % 4294967296) + x % 4294967296 * (y % 4294967296) / 4294967296) / 4294967296 + ((x / 4294967296 * (y % 4294967296) + x % 4294967296 * (y % 4294967296) / 4294967296) % 4294967296 + x % 4294967296 * (y / 4294967296)) / 4294967296 < 18446744073709551616 := by omega
  go_enter Tryz.func107, Tryz.ntmps107
  go_wp2
  simp only [Mul64.maskN x hx, Mul64.maskN y hy, Mul64.divN, Mul64.mulN, Mul64.addN, Mul64.wrapN _ bd, Mul64.wrapN _ bb', Mul64.wrapN _ bt, Mul64.maskN _ bt, Mul64.wrapN _ bc', Mul64.wrapN _ bw, Mul64.wrapN _ ba', Mul64.wrapN _ bh1, Mul64.wrapN _ bh, Mul64.wrapM (x * y)]
  rw [hhi]
  go_ret2
  exact ⟨rfl, rfl⟩
/-- one times so many -/
theorem mulOne_any (y : Nat) (hy : y < 18446744073709551616) (w : World) :
    Calls Tryz.prog 97 #[.int .u64 1, .int .u64 y] w fun e w' => e = .returned (.tuple #[.int .u64 0, .int .u64 y]) ∧ w' = w := by
  have c64 := mul64_any 1 y (by omega) hy w
  rw [Nat.one_mul, Nat.div_eq_of_lt hy, Nat.mod_eq_of_lt hy] at c64
  go_enter Tryz.func97, Tryz.ntmps97
  go_wp2_with fail
  refine c64.mono ?_
  rintro e w' ⟨rfl, rfl⟩
  go_wp2
  go_ret2
  exact ⟨rfl, rfl⟩
theorem info_intY : ∃ i, Tryz.prog.info? 3 = some i ∧ i.zero = some (.int .i64 0) ∧ i.size = 1 ∧ i.bytes = 8 := info_parts (by kernel_rfl)
theorem size_intY : (Tryz.prog.info? 3).map (·.size) = some 1 := by kernel_rfl
theorem makeIntsY {E : Int} {k : Nat} (h0 : 0 ≤ E) (h1 : E ≤ 1000000) (hk : E.toNat = k) (w : World) :
    (Instr.makeSlice 24 (.int .i64 E) (.int .i64 E)).run Tryz.prog w = .ok (.slice (some ⟨w.heap.size, 0, none⟩) k k) (w.alloc (.cells (ints (List.replicate k 0)).toArray 3)) := by
  obtain ⟨i, hi, hz, hs, hb⟩ := info_intY
  have := run_make (P := Tryz.prog) w 24 3 i _ Tryz.underlying24 hi hz .i64 .i64 E E h0 (Int.le_refl _) (by rw [hb]; omega) (by omega)
  rw [this, hk, hs]
  have e : madeCells (Value.int .i64 0).cells (k * 1) = (ints (List.replicate k 0)).toArray := by
    apply Array.ext'
    rw [show (Value.int .i64 0).cells = #[.int .i64 0] from rfl, toList_madeCells_one]
    simp [ints]
  rw [e]
theorem splice_rep {n k m : Nat} {x : Int} (hk : k ≤ n) (hm : k + m ≤ n) (hmk : m ≤ k) : splice (ints (List.replicate k x ++ List.replicate (n - k) 0)) k ((ints (List.replicate k x)).take m) = ints (List.replicate (k + m) x ++ List.replicate (n - (k + m)) 0) := by
  unfold splice
  simp only [ints, List.map_append, List.map_replicate, List.take_replicate, List.length_replicate]
  rw [List.take_append_of_le_length (by simp), List.drop_append, List.take_replicate]
  simp only [List.drop_replicate, List.length_replicate]
  rw [show min k k = k by omega, show min m k = m by omega, show k - (k + m) = 0 by omega, List.replicate_zero, List.nil_append, ← List.append_assoc, List.replicate_append_replicate]
  congr 2
  omega
section
variable {w : World}
set_option maxRecDepth 100000 in
set_option maxHeartbeats 2000000 in
theorem repeat_any {x : Int} {a : Addr} {c n : Nat} (hx : w.cell? a = some (.int .i64 x)) (hn : 0 < n) (hn2 : n ≤ 1000000) :
    Calls Tryz.prog 80 #[.slice (some a) 1 c, .int .i64 (n : Nat)] w fun e w' => ∃ g, e = .returned (.slice (some ⟨g, 0, none⟩) n n) ∧ w.heap.size ≤ g ∧ Fx No w w' ∧ w'.heap[g]? = some (.cells (ints (List.replicate n x)).toArray 3 (0, 0)) := by
  have HX := Lib.hid hx
  have d1 : decide ((n : Int) < 0) = false := decide_eq_false (by omega)
  have CM := Lib.hid (mulOne_any n (by omega) w)
  have hm := makeIntsY (E := (n : Int)) (k := n) (by omega) (by omega) (by omega)
  clear hx
  go_enter Tryz.func80, Tryz.ntmps80
  go_wp2_with fail
  refine CM.out.mono ?_
  rintro e w' ⟨rfl, rfl⟩
  have HG0 : Hid ((w'.alloc (.cells (ints (List.replicate n 0)).toArray 3)).heap[w'.heap.size]? = some (.cells (ints (List.replicate n 0)).toArray 3 (0, 0))) := Lib.hid (heap_alloc_new w' _)
  have HSrc : Hid (∀ j v, ([Value.int .i64 x])[j]? = some v → (w'.alloc (.cells (ints (List.replicate n 0)).toArray 3)).cell? (a.add j) = some v) := Lib.hid fun j u hu => by
    match j, hu with
    | 0, hu =>
      simp at hu
      subst hu
      obtain ⟨ab, ao, ai⟩ := a
      exact (World.cell?_alloc_lt (w := w') _ _ (World.block_lt_of_cell? _ _ HX.out)).trans HX.out
    | j + 1, hu => simp at hu
  have HFit : Hid (0 + ([Value.int .i64 x]).length ≤ (ints (List.replicate n 0)).length) := Lib.hid (by simp [ints]; omega)
  have HSp1 : Hid (splice (ints (List.replicate n 0)) 0 [Value.int .i64 x] = ints (List.replicate 1 x ++ List.replicate (n - 1) 0)) := Lib.hid (by simp [splice, ints])
  have HF0 : Hid (Fx No w' (w'.alloc (.cells (ints (List.replicate n 0)).toArray 3))) := Lib.hid ((Fx.refl _ _).alloc _)
  go_wp2_with (refine wpList_copy_row rfl (.tmp 31) (.tmp 32) 24 24 rfl 3 1 1 Tryz.underlying24 size_intY w'.heap.size 0 n n a 1 c ?h1 ?h2 (ints (List.replicate n 0)) 3 ?h3 [.int .i64 x] ?h4 ?h5 ?h6 ?h7 ?h8 ?_)
  case h1 => rfl
  case h2 => rfl
  case h3 => exact HG0.out
  case h4 => show 1 = min 1 n; omega
  case h5 => rfl
  case h6 => exact HSrc.out
  case h7 => exact HFit.out
  case h8 => exact (ints_one [x])
  intro w2 HG2 HF2
  have HF : Hid (Fx No w' w2) := Lib.hid (HF0.out.trans' HF2.out fun j e hj => by rw [e] at hj; omega)
  rw [HSp1.out] at HG2
  obtain ⟨g, hg⟩ : ∃ g, g = w'.heap.size := ⟨_, rfl⟩
  rw [← hg] at HG2 ⊢
  have hgw : w'.heap.size ≤ g := by omega
  clear hg
  clear HG0 HSrc HFit HSp1 HF0 HF2 hm HX CM
  go_wp2
  go_loopw [8] (fun i ws => ∃ k : Nat, i = .int .i64 k ∧ 0 < k ∧ k ≤ n ∧ Fx No w' ws ∧ ws.heap[g]? = some (.cells (ints (List.replicate k x ++ List.replicate (n - k) 0)).toArray 3 (0, 0))) (fun i _ => n - (intOf i).toNat)
  case atStart => exact ⟨1, rfl, by omega, by omega, HF.out, HG2.out⟩
  case round =>
    obtain ⟨k, rfl, hk0, hkn, hf, hgk⟩ := hrel
    have HFw := Lib.hid hf
    have HGk := Lib.hid hgk
    clear hf hgk
    by_cases hlt : k < n
    · have hlt' : (k : Int) < (n : Int) := by omega
      have h4 : k ≤ n := by omega
      have HSrc : Hid (∀ j v, ((ints (List.replicate k x)).take (min k (n - k)))[j]? = some v → wr.cell? ((⟨g, 0, none⟩ : Addr).add j) = some v) := Lib.hid fun j u hu => by
        have hj : j < min k (n - k) ∧ j < k := by
          have := (List.getElem?_eq_some_iff.1 hu).1
          simp [ints] at this
          omega
        rw [Addr.add_lit, Nat.zero_add, cell_of_row _ _ _ _ _ _ HGk.out]
        rw [List.getElem?_take_of_lt hj.1] at hu
        simp only [ints, List.map_replicate, List.map_append] at hu ⊢
        rw [List.getElem?_toArray, List.getElem?_append_left (by simp; omega)]
        exact hu
      have HFit : Hid (k + ((ints (List.replicate k x)).take (min k (n - k))).length ≤ (ints (List.replicate k x ++ List.replicate (n - k) 0)).length) := Lib.hid (by simp [ints]; omega)
      have HLen : Hid (((ints (List.replicate k x)).take (min k (n - k))).length = min k (n - k) * 1) := Lib.hid (by simp [ints])
      have HOne : Hid (One ((ints (List.replicate k x)).take (min k (n - k)))) := Lib.hid fun u hu => ints_one _ u (List.mem_of_mem_take hu)
      have h1 : (0 : Int) ≤ (k : Int) := by omega
      have h2 : (k : Int) ≤ (n : Int) := by omega
      have h3 : ¬ n = k := by omega
      clear hlt
      go_wp2
      go_region_law (refine step_copy_row rfl (.tmp 41) (.tmp 44) 24 24 rfl 3 1 (min k (n - k)) Tryz.underlying24 size_intY g k (n - k) (n - k) ⟨g, 0, none⟩ k n (by simp [Act.eval, Act.put]) (by simp [Act.eval, Act.put]) _ 3 HGk.out ((ints (List.replicate k x)).take (min k (n - k))) rfl HLen.out HSrc.out HFit.out HOne.out ?_; intro w3 HG3 HF3)
      all_goals
        have HF4 : Hid (Fx No w' w3) := Lib.hid (HFw.out.drew.trans' HF3.out fun j e hj => by rw [e] at hj; omega)
        have HG4 : Hid (w3.heap[g]? = some (.cells (ints (List.replicate (k + min k (n - k)) x ++ List.replicate (n - (k + min k (n - k))) 0)).toArray 3 (0, 0))) := Lib.hid (by
          have h5 := HG3.out
          rw [splice_rep h4 (by omega) (by omega)] at h5
          exact h5)
        have HW : IntKind.i64.wrap ((k : Int) + ((k.min (n - k) : Nat) : Int)) = ((k + min k (n - k) : Nat) : Int) := by
          show IntKind.i64.wrap ((k : Int) + ((min k (n - k) : Nat) : Int)) = _
          rw [IntKind.wrap_i64]
          omega
        clear HF3 HG3
        simp [Act.put, HW]
        go_wp2
        go_roundw
        case rel => exact ⟨k + min k (n - k), by first | rfl | (go_num), by omega, by omega, HF4.out, HG4.out⟩
        case measure => simp [intOf]; omega
    · have hkz : ¬ ((k : Int) < (n : Int)) := by omega
      have HK : Hid (k = n) := Lib.hid (by omega)
      go_wp2
      go_ret
      exact ⟨g, rfl, hgw, HFw.out, by have h := HGk.out; rw [HK.out, Nat.sub_self, List.replicate_zero, List.append_nil] at h; exact h⟩
end
#print axioms repeat_any
end Go.Proofs.YtfpggeiphbekoaaGreatDoor.Gr

namespace Go.Proofs.YtfpggeiphbekoaaGreatDoor.Gr
open Go.RowKit
set_option linter.unusedVariables false

theorem CellsI.ofRow {w : World} {g : Nat} {l : List Int} {t : TypeId} (h : w.heap[g]? = some (.cells (ints l).toArray t (0, 0))) : CellsI w g 0 l := fun k hk => by
  refine ⟨?_, by simp [World.frozen?, h]⟩
  rw [cell_of_row _ _ _ _ _ _ h, Nat.zero_add]
  simp [ints, gi, hk]
theorem CellsI.put {w : World} {g : Nat} {l : List Int} (h : CellsI w g 0 l) {k : Nat} (hk : k < l.length) (v : Int) : CellsI (w.setCell ⟨g, k, none⟩ (.int .i64 v)) g 0 (l.set k v) := fun j hj => by
  have hj' : j < l.length := by simpa using hj
  obtain ⟨h1, h2⟩ := h j hj'
  rw [Nat.zero_add] at h1 h2 ⊢
  by_cases e : j = k
  · subst e
    exact ⟨by rw [World.cell?_setCell_same _ _ _ h1]; simp [gi, hj'], by simpa using h2⟩
  · exact ⟨by rw [World.cell?_setCell_other _ _ _ _ (by intro e2; injection e2; omega), h1]; simp [gi, List.getElem?_set_ne (Ne.symm e)], by simpa using h2⟩
theorem cell_newY {w : World} {cs : Array Value} {t : TypeId} {k i : Nat} (hk : k = w.heap.size) : (w.alloc (.cells cs t)).cell? ⟨k, i, none⟩ = cs[i]? := by
  subst hk
  exact cell_of_row _ _ _ _ _ _ (heap_alloc_new w _)
/-- the parts of a search -/
structure Sr (w ws : World) (sb fg b' n : Nat) (L : List Ed) (D' : Nat → Prop) (fl : List Int) : Prop where
  fx : Fx No w ws
  s0 : ws.cell? ⟨sb, 0, none⟩ = some (.pointer (some ⟨b', 0, none⟩))
  s1 : ws.cell? ⟨sb, 1, none⟩ = some (.slice (some ⟨fg, 0, none⟩) n n)
  g : GraphV ws D' b' n (backL L)
  far : CellsI ws fg 0 fl
  len : fl.length = n
/-- how far: a row's number, -1 behind its end -/
def gF (l : List Int) (k : Nat) : Int := l.getD k (-1)
theorem gF_gi {l : List Int} {k : Nat} (hk : k < l.length) : gi l k = gF l k := by simp [gi, gF, hk]
theorem gF_rep (n : Nat) : gF (List.replicate n (-1)) = fun _ => -1 := by
  funext x
  by_cases e : x < n
  · simp [gF, e]
  · simp [gF, List.getElem?_eq_none (l := List.replicate n (-1 : Int)) (i := x) (by simpa using e)]
theorem gF_set {l : List Int} {k : Nat} (hk : k < l.length) (v : Int) : gF (l.set k v) = fun x => if x = k then v else gF l x := by
  funext x
  by_cases e : x = k
  · subst e; simp [gF, hk]
  · rw [if_neg e]; simp [gF, List.getElem?_set_ne (Ne.symm e)]
section
variable {w ws ws' : World} {sb fg b' n t : Nat} {L : List Ed} {D' S : Nat → Prop} {fl : List Int}
theorem Sr.keep (h : Sr w ws sb fg b' n L D' fl) {B : Nat} (hf : Fx S ws ws') (hS : ∀ j, S j → B ≤ j) (hw : w.heap.size ≤ B) (hs : sb < B) (hg : fg < B) (hD : ∀ x, D' x → x < B) : Sr w ws' sb fg b' n L D' fl :=
  { fx := h.fx.trans' hf fun j hj hk => by have := hS j hj; omega
    s0 := hf.cell' h.s0 fun q => by have := hS _ q; simp at this; omega
    s1 := hf.cell' h.s1 fun q => by have := hS _ q; simp at this; omega
    g := h.g.keep hf fun k hk q => by have := hS _ q; have := hD k hk; omega
    far := h.far.keep hf fun q => by have := hS _ q; omega
    len := h.len }
theorem Sr.put (h : Sr w ws sb fg b' n L D' fl) {k : Nat} (hk : k < n) (v : Int) (hfw : w.heap.size ≤ fg) (hsf : sb ≠ fg) (hD : ¬ D' fg) : Sr w (ws.setCell ⟨fg, k, none⟩ (.int .i64 v)) sb fg b' n L D' (fl.set k v) :=
  have hf : Fx (fun j => j = fg) ws (ws.setCell ⟨fg, k, none⟩ (.int .i64 v)) := Fx.put _ _ _ _
  { fx := h.fx.setCell (.inl hfw) _
    s0 := hf.cell' h.s0 fun q => hsf q
    s1 := hf.cell' h.s1 fun q => hsf q
    g := h.g.keep hf fun j hj q => by rw [q] at hj; exact hD hj
    far := h.far.put (by rw [h.len]; exact hk) v
    len := by rw [List.length_set]; exact h.len }
end
/-- what the outer loop holds -/
structure OutI (w : World) (B sb fg b' n t : Nat) (L : List Ed) (D' : Nat → Prop) (g : Nat) (v6 : Value) (c : Int) (ws : World) (fl : List Int) (Q : List Nat) : Prop where
  sr : Sr w ws sb fg b' n L D' fl
  q : Qv 3 ws B v6 (Q.map Int.ofNat)
  left : c = (n : Int) - (foundN (gF fl) n : Int)
  bfs : Bfs n t (preN L n) (gF fl) Q
  acc : n - foundN (gF fl) n + Q.length = g
  le : g ≤ n
/-- what the inner loop holds -/
structure InI (w w5 : World) (lo hi sb fg b' n t : Nat) (L : List Ed) (D' : Nat → Prop) (g : Nat) (xs : List Int) (x : Nat) (v6 : Value) (c : Int) (ws : World) (fl : List Int) (Q : List Nat) (i : Nat) : Prop where
  sr : Sr w ws sb fg b' n L D' fl
  q : Qv 3 ws (sb + 1) v6 (Q.map Int.ofNat)
  qn : ∀ j, v6.ownBlock = some j → ¬ Iv lo hi j
  fx : Fx (fun j => (sb + 1 ≤ j ∨ j = fg) ∧ ¬ Iv lo hi j) w5 ws
  left : c = (n : Int) - (foundN (gF fl) n : Int)
  bfs : Bfs n t (preN L n) (gF fl) (x :: Q)
  acc : n - foundN (gF fl) n + Q.length = g
  le : g ≤ n
  seen : ∀ k, k < i → gF fl (gi xs k).toNat ≠ -1
section
variable {w ws : World} {b n : Nat} {L : List Ed} {D : Nat → Prop}
set_option maxRecDepth 100000 in
set_option maxHeartbeats 4000000 in
theorem search_any (h : GraphV w D b n L) (hl : L.length ≤ 999999) {t : Nat} (ht : t < n) :
    Calls Tryz.prog 56 #[.pointer (some ⟨b, 0, none⟩), .int .i64 (t : Nat)] w fun e w' => ∃ sb fg b' fl D', e = .returned (.pointer (some ⟨sb, 0, none⟩)) ∧ w.heap.size ≤ sb ∧ w.heap.size ≤ fg ∧ sb ≠ fg ∧ Sr w w' sb fg b' n L D' fl ∧ FarOk n t (preN L n) (gF fl) := by
  obtain ⟨iif, hif, hzf, hsf, hbf⟩ := info_intY
  have H := Lib.hid h
  have HL := Lib.hid hl
  have hnn := h.nn
  clear h hl
  go_enter Tryz.func56, Tryz.ntmps56
  go_wp2
  go_step3
  go_wp2_with fail
  refine (gBack_any H.out HL.out).mono ?_
  rintro e w1 ⟨b', rfl, hf1, D', hg, hlo⟩
  have HF1 := Lib.hid hf1
  have HG := Lib.hid hg
  have HLo := Lib.hid hlo
  have hz1 := hf1.size
  clear hf1 hg hlo
  go_wp2_with fail
  have HG0 : Hid (GraphV (w1.alloc (.cells #[.int .i64 (-1)] 3)) D b n L) := Lib.hid ((H.out.no HF1.out).no ((Fx.refl _ _).alloc _))
  refine (gLen_any HG0.out).mono ?_
  rintro e w2 ⟨rfl, hw2⟩
  have HX : Hid (w2.cell? ⟨w1.heap.size, 0, none⟩ = some (.int .i64 (-1))) := Lib.hid (by rw [← hw2]; simp)
  have HF2 : Hid (Fx No w1 w2) := Lib.hid (by rw [← hw2]; exact (Fx.refl _ _).alloc _)
  have hz2 := HF2.out.size
  clear hw2 HG0
  go_wp2_with fail
  refine (repeat_any (a := ⟨w1.heap.size, 0, none⟩) (c := 1) HX.out (n := n) (by omega) (by omega)).mono ?_
  rintro e w3 ⟨fg, rfl, hfg, hf3, hrow⟩
  have HF3 : Hid (Fx No w1 w3) := Lib.hid (HF2.out.trans hf3)
  have HR := Lib.hid (CellsI.ofRow hrow)
  have hfl : fg < w3.heap.size := (Array.getElem?_eq_some_iff.1 hrow).1
  have hz3 := hf3.size
  have hct : w3.cell? ⟨fg, t, none⟩ = some (.int .i64 (-1)) ∧ w3.frozen? ⟨fg, t, none⟩ = false := by
    have h1 := HR.out t (by simpa using ht)
    rw [Nat.zero_add] at h1
    simpa [gi, ht] using h1
  obtain ⟨hc1, hc2⟩ := hct
  have ht0 : (0 : Int) ≤ (t : Int) := by omega
  have ht1 : (t : Int) < (n : Int) := by omega
  have HG3 : Hid (GraphV w3 D' b' n (backL L)) := Lib.hid (HG.out.no HF3.out)
  have HD : Hid (∀ x, D' x → x < w1.heap.size) := Lib.hid HG.out.lt
  have hz13 : w1.heap.size ≤ fg := by omega
  have HFa : Hid (Fx No w ((w3.setCell ⟨fg, t, none⟩ (.int .i64 0)).alloc (.cells #[.pointer (some ⟨b', 0, none⟩), .slice (some ⟨fg, 0, none⟩) n n] 115))) := Lib.hid (((HF1.out.trans HF3.out).setCell (.inl (by show w.heap.size ≤ fg; omega)) _).alloc _)
  have HSr : Hid (Sr w ((w3.setCell ⟨fg, t, none⟩ (.int .i64 0)).alloc (.cells #[.pointer (some ⟨b', 0, none⟩), .slice (some ⟨fg, 0, none⟩) n n] 115)) w3.heap.size fg b' n L D' ((List.replicate n (-1)).set t 0)) := Lib.hid
    { fx := HFa.out
      s0 := (cell_newY (by simp)).trans rfl
      s1 := (cell_newY (by simp)).trans rfl
      g := HG3.out.keep (S := fun j => j = fg) (((Fx.refl (fun j => j = fg) w3).setCell (.inr rfl) _).alloc _) fun j hj q => by have := HD.out j hj; omega
      far := (HR.out.put (k := t) (by simpa using ht) 0).keep (S := No) ((Fx.refl _ _).alloc _) (fun q => q)
      len := by simp }
  have HQv : Hid (Qv 3 (((w3.setCell ⟨fg, t, none⟩ (.int .i64 0)).alloc (.cells #[.pointer (some ⟨b', 0, none⟩), .slice (some ⟨fg, 0, none⟩) n n] 115)).alloc (.cells #[.int .i64 (t : Nat)] 3)) (w3.heap.size + 1) (.slice (some ⟨w3.heap.size + 1, 0, none⟩) 1 1) [(t : Int)]) := Lib.hid (by
    have h1 := Qv.lit (t := 3) ((w3.setCell ⟨fg, t, none⟩ (.int .i64 0)).alloc (.cells #[.pointer (some ⟨b', 0, none⟩), .slice (some ⟨fg, 0, none⟩) n n] 115)) (t : Int)
    simp only [World.size_alloc, World.size_setCell] at h1
    exact h1)
  have HGq : Hid (GraphV (((w3.setCell ⟨fg, t, none⟩ (.int .i64 0)).alloc (.cells #[.pointer (some ⟨b', 0, none⟩), .slice (some ⟨fg, 0, none⟩) n n] 115)).alloc (.cells #[.int .i64 (t : Nat)] 3)) D b n L) := Lib.hid ((H.out.no HFa.out).no ((Fx.refl _ _).alloc _))
  clear hf3 hrow HF2 HX HR HG3 HFa
  go_wp2_with fail
  refine (gLen_any HGq.out).mono ?_
  rintro e w4 ⟨rfl, hw4⟩
  have HSr4 : Hid (Sr w w4 w3.heap.size fg b' n L D' ((List.replicate n (-1)).set t 0)) := Lib.hid (by
    rw [← hw4]
    exact HSr.out.keep (S := No) (B := w3.heap.size + 1) ((Fx.refl _ _).alloc _) (fun _ q => q.elim) (by omega) (by omega) (by omega) fun x hx => by have := HD.out x hx; omega)
  have HQ4 : Hid (Qv 3 w4 (w3.heap.size + 1) (.slice (some ⟨w3.heap.size + 1, 0, none⟩) 1 1) [(t : Int)]) := Lib.hid (by rw [← hw4]; exact HQv.out)
  have hz4 : w3.heap.size + 1 ≤ w4.heap.size := by rw [← hw4]; simp
  clear hw4 HSr HQv HGq hc1 hc2
  obtain ⟨sb, hsb⟩ : ∃ sb, sb = w3.heap.size := ⟨_, rfl⟩
  rw [← hsb] at HSr4 HQ4 ⊢
  have hs0 : w.heap.size ≤ sb := by omega
  have hs1 : fg < sb := by omega
  have hs2 : w.heap.size ≤ fg := by omega
  have hs4 : sb + 1 ≤ w4.heap.size := by omega
  have HD2 : Hid (∀ x, D' x → x < fg) := Lib.hid fun x hx => by have := HD.out x hx; omega
  have hW : IntKind.i64.wrap ((n : Int) - 1) = (n : Int) - 1 := by rw [IntKind.wrap_i64]; omega
  clear HF1 HG HLo HF3 HD hz1 hz2 hz3 hz4 hz13 hfg hfl hsb
  go_wp2
  go_step3
  go_wp2
  go_loopg [6, 7] n (fun g s6 s7 wx => ∃ (fl : List Int) (Q : List Nat) (c : Int), s7 = .int .i64 c ∧ OutI w (sb + 1) sb fg b' n t L D' g s6 c wx fl Q)
  case atStart =>
    have h1 : gF ((List.replicate n (-1)).set t 0) = fun m => if m = t then 0 else -1 := by rw [gF_set (by simpa using ht), gF_rep]
    have h2 : foundN (gF ((List.replicate n (-1)).set t 0)) n = 1 := by rw [h1]; exact foundN_start ht
    exact ⟨_, [t], _, rfl, HSr4.out, HQ4.out, by rw [h2]; rfl, by rw [h1]; exact Bfs.start ht, by rw [h2]; simp; omega, Nat.le_refl _⟩
  case round =>
    obtain ⟨fl, Q, c, rfl, hO⟩ := hrel
    cases Q with
    | nil =>
      obtain ⟨qg, qo, qcap, qcur, rfl, _⟩ := hO.q
      have HO := Lib.hid hO
      clear hO
      go_wp2
      try rw [Exit.noGoto_ret]
      go_ret
      exact ⟨sb, fg, b', fl, D', rfl, hs0, hs2, by omega, HO.out.sr, HO.out.bfs.empty⟩
    | cons x Q' =>
      obtain ⟨qg, qo, qcap, rfl, q1, q2, q3, q4, q5, q6⟩ := hO.q.front
      have HO := Lib.hid hO
      have HQ := Lib.hid q6
      have s0 := hO.sr.s0
      have hxn := (hO.bfs.q x (by simp)).1
      obtain ⟨g, rfl⟩ : ∃ g, gk = g + 1 := ⟨gk - 1, by have := hO.acc; simp at this; omega⟩
      have hwr : sb + 1 ≤ wr.heap.size := by omega
      obtain ⟨xs, hxs⟩ : ∃ xs, xs = preI L n (x : Int) := ⟨_, rfl⟩
      have HXS := Lib.hid hxs
      have CN : Hid (Calls Tryz.prog 22 #[.pointer (some ⟨b', 0, none⟩), .int .i64 (x : Nat)] wr fun e w' => ∃ v', e = .returned v' ∧ Fx No wr w' ∧ RowI w' wr.heap.size v' xs) := Lib.hid (by rw [hxs]; exact gNext_any hO.sr.g (x : Int))
      clear hO q6 hxs
      go_wp2_with fail
      all_goals
        refine CN.out.mono ?_
        rintro e w5 ⟨v5, rfl, hf5, hr5⟩
        obtain ⟨ao, acap, rfl, hlx, hcx⟩ := hr5.toInts.facts
        have HF5 := Lib.hid hf5
        have HC := Lib.hid hcx
        have hz5 := hf5.size
        obtain ⟨lo, hi, hlo1, hlo2, hhi, HC⟩ : ∃ lo hi, qg < lo ∧ sb + 1 ≤ lo ∧ hi ≤ w5.heap.size ∧ Hid (∀ k, k < xs.length → ∃ b o, ao = some ⟨b, o, none⟩ ∧ Iv lo hi b ∧ w5.cell? ⟨b, o + k, none⟩ = some (.int .i64 (gi xs k))) := ⟨wr.heap.size, w5.heap.size, q2, by omega, Nat.le_refl _, HC⟩
        clear hf5 hr5 hcx
        go_wp2
        go_loopg [6, 7, 45] xs.length (fun g2 s6 s7 s45 wy => ∃ (i : Nat) (fl' : List Int) (Q'' : List Nat) (c' : Int), s45 = .int .i64 i ∧ i + g2 = xs.length ∧ s7 = .int .i64 c' ∧ InI w w5 lo hi sb fg b' n t L D' g xs x s6 c' wy fl' Q'' i)
        case atStart =>
          have hS : ∀ j, (No : Nat → Prop) j → sb + 1 ≤ j := fun _ q => q.elim
          refine ⟨0, fl, Q', c, rfl, by omega, rfl, HO.out.sr.keep HF5.out hS (by omega) (by omega) (by omega) (fun z hz => by have := HD2.out z hz; omega), ?_, fun j hj => ?_, Fx.refl _ _, HO.out.left, HO.out.bfs, ?_, ?_, fun k hk => by omega⟩
          · have h1 := HQ.out.no HF5.out
            simp only [List.length_map] at h1
            split at h1
            all_goals first | exact h1 | (exfalso; omega) | (rename_i e; subst e; exact h1)
          · obtain rfl : qg = j := by simpa [Value.ownBlock] using hj
            rintro ⟨h1, _⟩
            omega
          · have h1 := HO.out.acc
            simp at h1
            omega
          · have h1 := HO.out.le
            omega
        case round =>
          obtain ⟨i, fl', Q'', c', rfl, hig, rfl, hI⟩ := hrel
          have s0 := hI.sr.s0
          have s1 := hI.sr.s1
          have HI := Lib.hid hI
          clear hI
          by_cases hlt : i < xs.length
          · obtain ⟨cb, co, hao, hcb, hcell⟩ := HC.out i hlt
            have k1 := HI.out.fx.cell' hcell (fun q => q.2 hcb)
            have hin0 : (0 : Int) ≤ (i : Int) := by omega
            have hin1 : (i : Int) < (xs.length : Int) := by omega
            obtain ⟨m, hm⟩ : ∃ m : Nat, gi xs i = (m : Int) ∧ m < n ∧ m ∈ preN L n x := by
              have h1 : gi xs i ∈ preI L n (x : Int) := by rw [← HXS.out]; exact gi_mem hlt
              have h2 := preI_nodes hxn H.out.nodes h1
              obtain ⟨mm, hmm⟩ := Int.eq_ofNat_of_zero_le h2.1
              refine ⟨mm, hmm, by rw [hmm] at h2; exact Int.ofNat_lt.1 h2.2, ?_⟩
              exact List.mem_map.2 ⟨_, h1, by rw [hmm]; rfl⟩
            obtain ⟨hm1, hmn, hmp⟩ := hm
            have HM1 := Lib.hid hm1
            rw [hm1] at k1
            obtain rfl := hao
            have kf := HI.out.sr.far m (by rw [HI.out.sr.len]; exact hmn)
            rw [Nat.zero_add, gF_gi (by rw [HI.out.sr.len]; exact hmn)] at kf
            obtain ⟨f1, f2⟩ := kf
            have hmz : (0 : Int) ≤ (m : Int) := by omega
            have hmn' : (m : Int) < (n : Int) := by omega
            clear hm1 hcell hcb
            by_cases hfm : gF fl' m = -1
            · have hd : (gF fl' m != -1) = false := by simp [hfm]
              have kx := HI.out.sr.far x (by rw [HI.out.sr.len]; exact hxn)
              rw [Nat.zero_add, gF_gi (by rw [HI.out.sr.len]; exact hxn)] at kx
              obtain ⟨x1, _⟩ := kx
              obtain ⟨dx, hdx⟩ : ∃ dx : Nat, gF fl' x = (dx : Int) ∧ dx < n := by
                rcases HI.out.bfs.out x hxn with h1 | ⟨d, h1, h2⟩
                · exact absurd h1 (HI.out.bfs.q x (by simp)).2
                · exact ⟨d, h1, h2.lt (fun n' m' => preN_lt H.out.nodes m') hxn⟩
              obtain ⟨hdx1, hdx2⟩ := hdx
              have HDx := Lib.hid hdx1
              have HFm := Lib.hid hfm
              rw [hdx1] at x1
              rw [hfm] at f1
              have hxz : (0 : Int) ≤ (x : Int) := by omega
              have hxn' : (x : Int) < (n : Int) := by omega
              have hW2 : IntKind.i64.wrap ((dx : Int) + 1) = (dx : Int) + 1 := by rw [IntKind.wrap_i64]; omega
              clear hdx1 hfm
              go_wp2
              go_region
              all_goals
                have HB := Lib.hid (HI.out.bfs.found (fun n' m' => preN_lt H.out.nodes m') hmp HFm.out)
                have HNf := Lib.hid (foundN_more (far := gF fl') (v := (dx : Int) + 1) hmn HFm.out (by omega))
                have HGs : Hid (gF (fl'.set m ((dx : Int) + 1)) = fun z => if z = m then gF fl' x + 1 else gF fl' z) := Lib.hid (by rw [gF_set (by rw [HI.out.sr.len]; exact hmn), HDx.out])
                have HGs2 : Hid (gF (fl'.set m ((dx : Int) + 1)) = fun z => if z = m then (dx : Int) + 1 else gF fl' z) := Lib.hid (gF_set (by rw [HI.out.sr.len]; exact hmn) _)
                refine pq_hold (fun W => Sr w W sb fg b' n L D' (fl'.set m ((dx : Int) + 1)) ∧ Qv 3 W (sb + 1) u6 (Q''.map Int.ofNat) ∧ Fx (fun j => (sb + 1 ≤ j ∨ j = fg) ∧ ¬ Iv lo hi j) w5 W ∧ sb + 1 ≤ W.heap.size) ⟨?_, ?_, ?_, ?_⟩ ?_
                · exact (HI.out.sr.put hmn _ hs2 (by omega) (fun q => by have := HD2.out _ q; omega)).keep (S := No) (B := sb + 1) ((Fx.refl _ _).drew) (fun _ q => q.elim) (by omega) (by omega) (by omega) (fun z hz => by have := HD2.out z hz; omega)
                · exact HI.out.q.keep (S := fun j => j = fg) ((Fx.put _ _ _ _).drew) fun j hj e => by have := (HI.out.q.lt hj).1; omega
                · exact (HI.out.fx.setCell (.inr ⟨.inr rfl, fun q => by have h1 : lo ≤ fg := q.1; omega⟩) _).drew
                · have := HI.out.fx.size
                  simp
                  omega
                rintro w6 ⟨hsr6, hq6, hf6, hz6⟩
                have HS6 := Lib.hid hsr6
                have HQ6 := Lib.hid hq6
                have HF6 := Lib.hid hf6
                have hle := foundN_le (gF fl') n
                have hle2 := foundN_le (gF (fl'.set m ((dx : Int) + 1))) n
                have hleft := HI.out.left
                rw [HGs2.out, HNf.out] at hle2
                have hW3 : IntKind.i64.wrap (c' - 1) = c' - 1 := by rw [IntKind.wrap_i64]; omega
                by_cases hall : foundN (gF fl') n + 1 = n
                · obtain rfl : c' = 1 := by omega
                  have HFar : Hid (FarOk n t (preN L n) (gF (fl'.set m ((dx : Int) + 1)))) := Lib.hid (by
                    refine Bfs.full (Q := x :: (Q'' ++ [m])) (by rw [HGs.out]; exact HB.out) (foundN_all (by rw [HGs2.out, HNf.out]; exact hall))
                    )
                  clear hsr6 hq6 hf6 hle hle2 hleft hall
                  go_wp2
                  try rw [Exit.noGoto_ret]
                  go_ret
                  exact ⟨sb, fg, b', _, D', rfl, hs0, hs2, by omega, HS6.out, HFar.out⟩
                · have hz : (c' - 1 == 0) = false := by simp; omega
                  have hQl : Q''.length ≤ 1000000 := by have := HI.out.acc; have := HI.out.le; omega
                  have HL6 : Hid (Q''.length + 1 ≤ 1000000 ∧ n - foundN (gF (fl'.set m ((dx : Int) + 1))) n + (Q''.length + 1) = g ∧ c' - 1 = (n : Int) - (foundN (gF (fl'.set m ((dx : Int) + 1))) n : Int)) := Lib.hid (by
                    have h1 := HI.out.acc
                    have h2 := HI.out.le
                    have h3 := HI.out.left
                    rw [HGs2.out, HNf.out]
                    omega)
                  obtain ⟨g6, o6, cap6, cur6, rfl, _⟩ := hq6
                  have HQn6 : Hid (¬ Iv lo hi g6) := Lib.hid (HI.out.qn g6 rfl)
                  clear hsr6 hf6 hle hle2 hleft hall
                  go_wp2_with (at_builtin; refine wpList_append_q rfl (.tmp 75) (.tmp 77) 24 rfl Tryz.underlying24 hif hzf rfl hsf hbf rfl (HQ6.out.no ((Fx.refl _ _).alloc _)) (by rw [List.length_map]; exact hQl) (a := ⟨w6.heap.size, 0, none⟩) (c := 1) (x := (m : Int)) ((cell_newY rfl).trans rfl) (by simp; omega) rfl rfl ?_)
                  intro v7 w7 hq7 hf7 hn7
                  have HSr7 : Hid (Sr w w7 sb fg b' n L D' (fl'.set m ((dx : Int) + 1))) := Lib.hid ((HS6.out.keep (S := No) (B := sb + 1) ((Fx.refl _ _).alloc _) (fun _ q => q.elim) (by omega) (by omega) (by omega) (fun z hz => by have := HD2.out z hz; omega)).keep (B := sb + 1) hf7 (fun j hj => (HQ6.out.lt hj).1) (by omega) (by omega) (by omega) (fun z hz => by have := HD2.out z hz; omega))
                  have HQ7 : Hid (Qv 3 w7 (sb + 1) v7 ((Q'' ++ [m]).map Int.ofNat)) := Lib.hid (by rw [List.map_append]; exact hq7)
                  have HF7 : Hid (Fx (fun j => (sb + 1 ≤ j ∨ j = fg) ∧ ¬ Iv lo hi j) w5 w7) := Lib.hid ((HF6.out.alloc _).trans (hf7.mono fun j _ hj => ⟨.inl (HQ6.out.lt hj).1, by
                    have e : g6 = j := by simpa [Value.ownBlock] using hj
                    rw [← e]
                    exact HQn6.out⟩))
                  have HN7 : Hid (∀ j, v7.ownBlock = some j → ¬ Iv lo hi j) := Lib.hid fun j hj => by
                    rcases hn7 j hj with h1 | h1
                    · have e : g6 = j := by simpa [Value.ownBlock] using h1
                      rw [← e]
                      exact HQn6.out
                    · intro q
                      have h2 := HF6.out.size
                      have h3 := q.2
                      omega
                  clear hq7 hf7 hn7
                  go_wp2
                  go_roundg (xs.length - (i + 1))
                  case measure => omega
                  case rel =>
                    refine ⟨i + 1, _, Q'' ++ [m], c' - 1, by go_num, by omega, rfl, HSr7.out, HQ7.out, HN7.out, HF7.out, HL6.out.2.2, by rw [HGs.out]; exact HB.out, by rw [List.length_append]; exact HL6.out.2.1, HI.out.le, fun k hk => ?_⟩
                    rw [HGs2.out]
                    by_cases e : k = i
                    · subst e
                      rw [HM1.out, Int.toNat_natCast]
                      simp
                      omega
                    · have h1 := HI.out.seen k (by omega)
                      by_cases e2 : (gi xs k).toNat = m
                      · simp [e2]
                        omega
                      · simpa [e2] using h1
            · have hd : (gF fl' m != -1) = true := by simpa using hfm
              have HFm := Lib.hid hfm
              clear hfm
              go_wp2
              go_roundg (xs.length - (i + 1))
              case measure => omega
              case rel =>
                refine ⟨i + 1, fl', Q'', c', by go_num, by omega, rfl, { HI.out with seen := fun k hk => ?_ }⟩
                by_cases e : k = i
                · subst e; rw [HM1.out]; exact HFm.out
                · exact HI.out.seen k (by omega)
          · have hge : ¬ ((i : Int) < (xs.length : Int)) := by omega
            have HN : Hid (∀ m ∈ preN L n x, gF fl' m ≠ -1) := Lib.hid fun m hm => by
              obtain ⟨z, hz, rfl⟩ := List.mem_map.1 hm
              rw [← HXS.out] at hz
              obtain ⟨k, hk, rfl⟩ := List.getElem_of_mem hz
              have := HI.out.seen k (by omega)
              simpa [gi, hk] using this
            go_wp2
            go_roundg g
            case measure => omega
            case rel =>
              exact ⟨fl', Q'', c', rfl, HI.out.sr, HI.out.q, HI.out.left, HI.out.bfs.pop HN.out, HI.out.acc, HI.out.le⟩
end
#print axioms search_any
end Go.Proofs.YtfpggeiphbekoaaGreatDoor.Gr
