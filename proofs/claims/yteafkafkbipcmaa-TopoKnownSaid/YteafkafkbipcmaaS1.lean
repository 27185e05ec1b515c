/- Plain: nodes taken away, one by one, by a line: what holds at each step. | Plain: a heap of numbers in a row: up, down. | A region that draws its order, with a store into a cell that it has loaded: as RegG, but what the store waits for through others may be taken first too. For every seat. No program in sight. | The heap of numbers in memory: its methods. | container/heap over the line of numbers: up, down, Push, Pop. | The line that tells the least first: push, pop, some. | A queue of ints behind a slice: what is taken off its front, what is put behind it. For every seat. No program in sight. | The line that tells as they came: push, pop, some. -/
import Derived.Test.YteafkafkbipcmaaM1
import Derived.Test.YteafkafkbipcmaaM2
import Derived.Laws.OwnMore
import Derived.RegionTactic
import Derived.BigRegion
import Derived.BigQuiet
import Derived.Deep.QuietTactic
import Derived.StillTailTactics
import Derived.WalkSmall
import Derived.ArgAppend

namespace Go.Proofs.Yteafkafkbipcmaa
set_option linter.unusedVariables false

/-- how many edges to a node are not looked at -/
def wtD (L dn : List Ed) (v : Nat) : Nat := (L.filter fun x => decide (x.t = (v : Int)) && !decide (x ∈ dn)).length
theorem wtD_zero {L dn : List Ed} {v : Nat} : wtD L dn v = 0 ↔ ∀ x ∈ L, x.t = (v : Int) → x ∈ dn := by
  unfold wtD
  rw [List.length_eq_zero_iff, List.filter_eq_nil_iff]
  constructor
  · intro h x hx ht
    have := h x hx
    simp [ht] at this
    exact this
  · intro h x hx
    by_cases ht : x.t = (v : Int)
    · have := h x hx ht
      simp [ht, this]
    · simp [ht]
theorem filter_one {α : Type} [DecidableEq α] {p : α → Bool} {x : α} : ∀ {L : List α}, L.Nodup → x ∈ L → p x = true → (L.filter fun y => p y && !decide (y = x)).length + 1 = (L.filter p).length
  | [], _, h, _ => by simp at h
  | a :: L, hn, hm, hp => by
    obtain ⟨h1, h2⟩ := List.nodup_cons.1 hn
    rcases List.mem_cons.1 hm with e | e
    · subst e
      have : (L.filter fun y => p y && !decide (y = x)) = L.filter p := List.filter_congr fun y hy => by
        have : y ≠ x := fun e => h1 (e ▸ hy)
        simp [this]
      rw [List.filter_cons, if_neg (by simp), this, List.filter_cons, if_pos hp, List.length_cons]
    · have hax : a ≠ x := fun e2 => h1 (e2 ▸ e)
      have ih := filter_one h2 e hp
      by_cases hpa : p a = true
      · rw [List.filter_cons, if_pos (by simp [hpa, hax]), List.filter_cons, if_pos hpa, List.length_cons, List.length_cons, ih]
      · rw [List.filter_cons, if_neg (by simp [hpa]), List.filter_cons, if_neg hpa, ih]
theorem wtD_same {L dn : List Ed} {x : Ed} {v : Nat} (h : x.t ≠ (v : Int)) : wtD L (dn ++ [x]) v = wtD L dn v := by
  unfold wtD
  congr 1
  refine List.filter_congr fun y hy => ?_
  by_cases ht : y.t = (v : Int)
  · have : y ≠ x := fun e => h (by rw [← e]; exact ht)
    simp [this]
  · simp [ht]
theorem wtD_less {L dn : List Ed} {x : Ed} {v : Nat} (hL : L.Nodup) (hx : x ∈ L) (hd : x ∉ dn) (h : x.t = (v : Int)) : wtD L (dn ++ [x]) v + 1 = wtD L dn v := by
  have := filter_one (p := fun y => decide (y.t = (v : Int)) && !decide (y ∈ dn)) hL hx (by simp [h, hd])
  unfold wtD
  rw [← this]
  congr 2
  refine List.filter_congr fun y hy => ?_
  simp only [List.mem_append, List.mem_singleton]
  by_cases e : y = x <;> by_cases e2 : y ∈ dn <;> simp [e, e2]
/-- where the taking stands -/
structure KI (L : List Ed) (N : Nat) (ord Q : List Nat) (dn : List Ed) (fr rd : Nat → Int) : Prop where
  lt : ∀ v, v ∈ ord ∨ v ∈ Q → v < N
  ndO : ord.Nodup
  ndQ : Q.Nodup
  dj : ∀ v ∈ ord, v ∉ Q
  dnS : ∀ x ∈ dn, x ∈ L ∧ x.f.toNat ∈ ord
  mem : ∀ v, v < N → (wtD L dn v = 0 ↔ v ∈ ord ∨ v ∈ Q)
  frS : ∀ x ∈ dn, fr x.f.toNat + 1 ≤ fr x.t.toNat
  frA : ∀ v, v < N → (fr v = -1 ∧ (∃ x ∈ L, x.t = (v : Int)) ∧ ∀ x ∈ dn, x.t ≠ (v : Int)) ∨ (fr v = 0 ∧ ∀ x ∈ L, x.t ≠ (v : Int)) ∨ ∃ x ∈ dn, x.t = (v : Int) ∧ fr v = fr x.f.toNat + 1
  fr0 : ∀ v, v ∈ ord ∨ v ∈ Q → 0 ≤ fr v
  rdI : ∀ v, v ∈ ord ∨ v ∈ Q → rd v = fr v
  rdO : ∀ v, v < N → ¬ (v ∈ ord ∨ v ∈ Q) → rd v = -1
  tp : ∀ (a : List Nat) (v : Nat) (b : List Nat), ord = a ++ v :: b → ∀ x ∈ L, x.t = (v : Int) → x.f.toNat ∈ a
def NdE (L : List Ed) (N : Nat) : Prop := ∀ x ∈ L, (0 ≤ x.f ∧ x.f < (N : Int)) ∧ 0 ≤ x.t ∧ x.t < (N : Int)
section
variable {L : List Ed} {N : Nat} {ord Q : List Nat} {dn : List Ed} {fr rd : Nat → Int}
theorem KI.start (hQ : ∀ v, v ∈ Q ↔ v < N ∧ ∀ x ∈ L, x.t ≠ (v : Int)) (hn : Q.Nodup) : KI L N [] Q [] (fun v => if ∃ x ∈ L, x.t = (v : Int) then -1 else 0) (fun v => if ∃ x ∈ L, x.t = (v : Int) then -1 else 0) := by
  refine ⟨fun v h => by simpa using ((hQ v).1 (by simpa using h)).1, List.nodup_nil, hn, fun v h => by simp at h, fun x h => by simp at h, fun v hv => ?_, fun x h => by simp at h, fun v hv => ?_, fun v h => ?_, fun v h => rfl, fun v hv h => ?_, fun a v b h => by cases a <;> simp at h⟩
  · rw [wtD_zero, hQ]
    constructor
    · intro h; exact .inr ⟨hv, fun x hx e => by simpa using h x hx e⟩
    · rintro (h | ⟨_, h⟩) x hx e
      · simp at h
      · exact absurd e (h x hx)
  · by_cases e : ∃ x ∈ L, x.t = (v : Int)
    · exact .inl ⟨if_pos e, e, fun x hx => by simp at hx⟩
    · exact .inr (.inl ⟨if_neg e, fun x hx h => e ⟨x, hx, h⟩⟩)
  · have h1 := ((hQ v).1 (by simpa using h)).2
    rw [if_neg (fun ⟨x, hx, e⟩ => h1 x hx e)]
    exact Int.le_refl 0
  · by_cases e : ∃ x ∈ L, x.t = (v : Int)
    · exact if_pos e
    · exact absurd (.inr ((hQ v).2 ⟨hv, fun x hx h => e ⟨x, hx, h⟩⟩)) h
/-- one is taken -/
theorem KI.pop {n : Nat} (h : KI L N ord (n :: Q) dn fr rd) : KI L N (ord ++ [n]) Q dn fr rd := by
  obtain ⟨q1, q2⟩ := List.nodup_cons.1 h.ndQ
  have hm : ∀ v, (v ∈ ord ++ [n] ∨ v ∈ Q) ↔ (v ∈ ord ∨ v ∈ n :: Q) := fun v => by
    rw [List.mem_append, List.mem_singleton, List.mem_cons]
    constructor
    · rintro ((e | e) | e)
      · exact .inl e
      · exact .inr (.inl e)
      · exact .inr (.inr e)
    · rintro (e | e | e)
      · exact .inl (.inl e)
      · exact .inl (.inr e)
      · exact .inr e
  have hno : n ∉ ord := fun e => h.dj n e (by simp)
  refine ⟨fun v hv => h.lt v ((hm v).1 hv), ?_, q2, fun v hv hq => ?_, fun x hx => ⟨(h.dnS x hx).1, List.mem_append_left _ (h.dnS x hx).2⟩, fun v hv => by rw [hm]; exact h.mem v hv, h.frS, h.frA, fun v hv => h.fr0 v ((hm v).1 hv), fun v hv => h.rdI v ((hm v).1 hv), fun v hv hn => h.rdO v hv fun e => hn ((hm v).2 e), fun a v b e x hx ht => ?_⟩
  · exact List.nodup_append.2 ⟨h.ndO, by simp, fun a ha b hb e => by rw [List.mem_singleton] at hb; rw [e, hb] at ha; exact hno ha⟩
  · rcases List.mem_append.1 hv with e | e
    · exact h.dj v e (List.mem_cons_of_mem _ hq)
    · rw [List.mem_singleton] at e; exact q1 (e ▸ hq)
  · rcases List.eq_nil_or_concat b with hb | ⟨b', z, hb⟩
    · rw [hb] at e
      obtain ⟨rfl, e2⟩ := List.append_inj' e rfl
      obtain rfl : n = v := by simpa using e2
      have hw := (h.mem n (h.lt n (.inr (by simp)))).2 (.inr (by simp))
      exact (h.dnS x (wtD_zero.1 hw x hx ht)).2
    · rw [hb, List.concat_eq_append, ← List.cons_append, ← List.append_assoc] at e
      obtain ⟨e1, _⟩ := List.append_inj' e rfl
      exact h.tp a v b' e1 x hx ht
/-- an edge of one that was taken is looked at: what it goes to is not taken, nor in the line -/
theorem KI.out {x : Ed} (h : KI L N ord Q dn fr rd) (hL : NdE L N) (hx : x ∈ L) (hd : x ∉ dn) : ¬ (x.t.toNat ∈ ord ∨ x.t.toNat ∈ Q) ∧ 1 ≤ wtD L dn x.t.toNat := by
  obtain ⟨_, h3, h4⟩ := hL x hx
  have ht : x.t = ((x.t.toNat : Nat) : Int) := by omega
  have hw : wtD L dn x.t.toNat ≠ 0 := fun e => hd (wtD_zero.1 e x hx ht)
  exact ⟨fun e => hw ((h.mem _ (by omega)).2 e), by omega⟩
theorem KI.look {x : Ed} {n t : Nat} {Q' : List Nat} {fr' rd' : Nat → Int} (h : KI L N ord Q dn fr rd) (hnd : L.Nodup) (hL : NdE L N) (hx : x ∈ L) (hd : x ∉ dn) (hn : x.f = (n : Int)) (ht : x.t = (t : Int)) (hno : n ∈ ord)
    (hf' : fr' = fun v => if v = t then max (fr t) (fr n + 1) else fr v) (hr' : rd' = fun v => if v = t ∧ wtD L dn t = 1 then max (fr t) (fr n + 1) else rd v)
    (hQ : ∀ v, v ∈ Q' ↔ v ∈ Q ∨ (v = t ∧ wtD L dn t = 1)) (hQn : Q'.Nodup) : KI L N ord Q' (dn ++ [x]) fr' rd' := by
  obtain ⟨⟨_, _⟩, h3, h4⟩ := hL x hx
  have htt : x.t.toNat = t := by omega
  have hnn : x.f.toNat = n := by omega
  have htN : t < N := by omega
  obtain ⟨ho, hw1⟩ := h.out hL hx hd
  rw [htt] at ho hw1
  have hwt := wtD_less hnd hx hd ht
  have hnt : n ≠ t := fun e => ho (.inl (e ▸ hno))
  have hin : ∀ v, (v ∈ ord ∨ v ∈ Q') ↔ (v ∈ ord ∨ v ∈ Q) ∨ (v = t ∧ wtD L dn t = 1) := fun v => by rw [hQ, or_assoc]
  have hsrc : ∀ y ∈ dn, y.f.toNat ≠ t := fun y hy e => ho (.inl (e ▸ (h.dnS y hy).2))
  have hfn : fr' n = fr n := by rw [hf']; simp [hnt]
  have hft : fr' t = max (fr t) (fr n + 1) := by rw [hf']; simp
  have hfo : ∀ v, v ≠ t → fr' v = fr v := fun v hv => by rw [hf']; simp [hv]
  have h0n : 0 ≤ fr n := h.fr0 n (.inl hno)
  refine ⟨fun v hv => ?_, h.ndO, hQn, fun v hv hq => ?_, fun y hy => ?_, fun v hv => ?_, fun y hy => ?_, fun v hv => ?_, fun v hv => ?_, fun v hv => ?_, fun v hv hnv => ?_, h.tp⟩
  · rcases (hin v).1 hv with e | ⟨e, _⟩
    · exact h.lt v e
    · rw [e]; exact htN
  · rcases (hQ v).1 hq with e | ⟨e, _⟩
    · exact h.dj v hv e
    · exact ho (.inl (e ▸ hv))
  · rcases List.mem_append.1 hy with e | e
    · exact h.dnS y e
    · rw [List.mem_singleton] at e; rw [e, hnn]; exact ⟨hx, hno⟩
  · rw [hin]
    by_cases e : v = t
    · subst e
      constructor
      · intro hz; exact .inr ⟨rfl, by omega⟩
      · rintro (hq | ⟨_, hq⟩)
        · exact absurd hq ho
        · omega
    · rw [wtD_same (by rw [ht]; omega), h.mem v hv]
      constructor
      · exact .inl
      · rintro (hq | ⟨hq, _⟩)
        · exact hq
        · exact absurd hq e
  · rcases List.mem_append.1 hy with e | e
    · rw [hfo _ (hsrc y e)]
      have := h.frS y e
      by_cases e2 : y.t.toNat = t
      · rw [e2] at this ⊢; rw [hft]; omega
      · rw [hfo _ e2]; exact this
    · rw [List.mem_singleton] at e
      rw [e, hnn, htt, hfn, hft]; omega
  · by_cases e : v = t
    · subst e
      rw [hft]
      by_cases hm : fr v ≤ fr n + 1
      · refine .inr (.inr ⟨x, by simp, ht, ?_⟩)
        rw [hnn, hfn]; omega
      · rcases h.frA v hv with ⟨q, _⟩ | ⟨q, _⟩ | ⟨y, q1, q2, q3⟩
        · omega
        · omega
        · refine .inr (.inr ⟨y, List.mem_append_left _ q1, q2, ?_⟩)
          rw [hfo _ (hsrc y q1)]; omega
    · rw [hfo v e]
      rcases h.frA v hv with ⟨q1, q2, q3⟩ | q | ⟨y, q1, q2, q3⟩
      · refine .inl ⟨q1, q2, fun y hy => ?_⟩
        rcases List.mem_append.1 hy with e2 | e2
        · exact q3 y e2
        · rw [List.mem_singleton] at e2; rw [e2, ht]; omega
      · exact .inr (.inl q)
      · exact .inr (.inr ⟨y, List.mem_append_left _ q1, q2, by rw [hfo _ (hsrc y q1)]; exact q3⟩)
  · by_cases e : v = t
    · rw [e, hft]; omega
    · rw [hfo v e]
      rcases (hin v).1 hv with q | ⟨q, _⟩
      · exact h.fr0 v q
      · exact absurd q e
  · rw [hr']
    by_cases e : v = t
    · subst e
      rcases (hin v).1 hv with q | ⟨_, q⟩
      · exact absurd q ho
      · simp only [q, and_self, if_true]; rw [hft]
    · simp only [e, false_and, if_false]
      rw [hfo v e]
      rcases (hin v).1 hv with q | ⟨q, _⟩
      · exact h.rdI v q
      · exact absurd q e
  · rw [hr']
    rw [hin] at hnv
    show (if v = t ∧ wtD L dn t = 1 then _ else _) = _
    rw [if_neg fun q => hnv (.inr q)]
    exact h.rdO v hv fun q => hnv (.inl q)
/-- the end -/
structure KF (L : List Ed) (N : Nat) (ord : List Nat) (rd : Nat → Int) : Prop where
  lt : ∀ v ∈ ord, v < N
  nd : ord.Nodup
  tp : ∀ (a : List Nat) (v : Nat) (b : List Nat), ord = a ++ v :: b → ∀ x ∈ L, x.t = (v : Int) → x.f.toNat ∈ a
  cl : ∀ v, v < N → (∀ x ∈ L, x.t = (v : Int) → x.f.toNat ∈ ord) → v ∈ ord
  rd0 : ∀ v ∈ ord, 0 ≤ rd v
  rdN : ∀ v, v < N → v ∉ ord → rd v = -1
  rdS : ∀ x ∈ L, x.t.toNat ∈ ord → rd x.f.toNat + 1 ≤ rd x.t.toNat
  rdA : ∀ v ∈ ord, (rd v = 0 ∧ ∀ x ∈ L, x.t ≠ (v : Int)) ∨ ∃ x ∈ L, x.t = (v : Int) ∧ rd v = rd x.f.toNat + 1
theorem KF.pre (h : KF L N ord rd) {x : Ed} (hx : x ∈ L) (h0 : 0 ≤ x.t) (ho : x.t.toNat ∈ ord) : x.f.toNat ∈ ord := by
  obtain ⟨a, b, e⟩ := List.append_of_mem ho
  rw [e]
  exact List.mem_append_left _ (h.tp a _ b e x hx (by omega))
theorem KI.fin (h : KI L N ord [] dn fr rd) (hL : NdE L N) (hfull : ∀ x ∈ L, x.f.toNat ∈ ord → x ∈ dn) : KF L N ord rd := by
  have hall : ∀ v ∈ ord, ∀ x ∈ L, x.t = (v : Int) → x ∈ dn := fun v hv => wtD_zero.1 ((h.mem v (h.lt v (.inl hv))).2 (.inl hv))
  refine ⟨fun v hv => h.lt v (.inl hv), h.ndO, h.tp, fun v hv ha => ?_, fun v hv => by rw [h.rdI v (.inl hv)]; exact h.fr0 v (.inl hv), fun v hv hn => h.rdO v hv (by simp [hn]), fun x hx ho => ?_, fun v hv => ?_⟩
  · have := (h.mem v hv).1 (wtD_zero.2 fun x hx ht => hfull x hx (ha x hx ht))
    simpa using this
  · obtain ⟨_, h3, h4⟩ := hL x hx
    have hd := hall _ ho x hx (by omega)
    have hs := (h.dnS x hd).2
    rw [h.rdI _ (.inl hs), h.rdI _ (.inl ho)]
    exact h.frS x hd
  · rw [h.rdI v (.inl hv)]
    have h0 := h.fr0 v (.inl hv)
    rcases h.frA v (h.lt v (.inl hv)) with ⟨q, _⟩ | q | ⟨y, q1, q2, q3⟩
    · omega
    · exact .inl q
    · refine .inr ⟨y, (h.dnS y q1).1, q2, ?_⟩
      rw [h.rdI _ (.inl (h.dnS y q1).2)]; exact q3
end
/-- a row without repeats, of numbers below N, is no longer than N -/
theorem nd_len : ∀ {N : Nat} {l : List Nat}, l.Nodup → (∀ x ∈ l, x < N) → l.length ≤ N
  | 0, l, _, h => by
    cases l with
    | nil => simp
    | cons a l => have := h a (by simp); omega
  | N + 1, l, hn, h => by
    by_cases hm : N ∈ l
    · have e := filter_one (p := fun _ => true) hn hm rfl
      have h1 : (l.filter fun y => true && !decide (y = N)).length ≤ N := nd_len (hn.filter _) fun x hx => by
        obtain ⟨h2, h3⟩ := List.mem_filter.1 hx
        have := h x h2
        have : x ≠ N := by simpa using h3
        omega
      have h2 : (l.filter fun _ => true) = l := by simp
      rw [h2] at e
      omega
    · have := nd_len (N := N) hn fun x hx => by
        have := h x hx
        have : x ≠ N := fun e => hm (e ▸ hx)
        omega
      omega
#print axioms KI.look
#print axioms KI.fin
end Go.Proofs.Yteafkafkbipcmaa

namespace Go.Proofs.Yteafkafkbipcmaa
set_option linter.unusedVariables false

def hx (l : List Nat) (i : Nat) : Nat := l.getD i 0
def swp (l : List Nat) (i j : Nat) : List Nat := (l.set i (hx l j)).set j (hx l i)
theorem swp_len (l : List Nat) (i j : Nat) : (swp l i j).length = l.length := by simp [swp]
theorem hx_at {l : List Nat} {i : Nat} (h : i < l.length) : hx l i = l[i] := by simp [hx, h]
theorem swp_perm {l : List Nat} {i j : Nat} (hi : i < l.length) (hj : j < l.length) : (swp l i j).Perm l := by
  unfold swp
  rw [hx_at hi, hx_at hj]
  exact List.set_set_perm hi hj
theorem hx_swp {l : List Nat} {i j k : Nat} (hi : i < l.length) (hj : j < l.length) : hx (swp l i j) k = if k = j then hx l i else if k = i then hx l j else hx l k := by
  unfold swp
  simp only [hx, List.getD]
  by_cases h1 : k = j
  · subst h1
    rw [if_pos rfl, List.getElem?_set_self (by simpa using hj)]; rfl
  · rw [if_neg h1, List.getElem?_set_ne (fun e => h1 e.symm)]
    by_cases h2 : k = i
    · subst h2
      rw [if_pos rfl, List.getElem?_set_self hi]; rfl
    · rw [if_neg h2, List.getElem?_set_ne (fun e => h2 e.symm)]
theorem hx_mem {l : List Nat} {i : Nat} (h : i < l.length) : hx l i ∈ l := by rw [hx_at h]; exact List.getElem_mem h
/-- each one is no less than the one above it, up to n -/
def HeapL (l : List Nat) (n : Nat) : Prop := ∀ k, 0 < k → k < n → hx l ((k - 1) / 2) ≤ hx l k
/-- but for j, which may be less than the one above it -/
structure UpOk (l : List Nat) (n j : Nat) : Prop where
  lt : j < n
  len : n ≤ l.length
  ok : ∀ k, 0 < k → k < n → k ≠ j → hx l ((k - 1) / 2) ≤ hx l k
  ch : ∀ k, 0 < k → k < n → (k - 1) / 2 = j → 0 < j → hx l ((j - 1) / 2) ≤ hx l k
theorem UpOk.done {l : List Nat} {n j : Nat} (h : UpOk l n j) (hd : j = 0 ∨ hx l ((j - 1) / 2) ≤ hx l j) : HeapL l n := fun k h0 hk => by
  by_cases e : k = j
  · rcases hd with q | q
    · omega
    · rw [e]; exact q
  · exact h.ok k h0 hk e
theorem UpOk.step {l : List Nat} {n j : Nat} (h : UpOk l n j) (h0 : 0 < j) (hlt : hx l j < hx l ((j - 1) / 2)) : UpOk (swp l ((j - 1) / 2) j) n ((j - 1) / 2) := by
  obtain ⟨p, hp⟩ : ∃ p, p = (j - 1) / 2 := ⟨_, rfl⟩
  rw [← hp] at hlt ⊢
  have hpj : p < j := by omega
  have hjn := h.lt
  have hl := h.len
  have hs : ∀ k, hx (swp l p j) k = if k = j then hx l p else if k = p then hx l j else hx l k := fun k => hx_swp (by omega) (by omega)
  refine ⟨by omega, by rw [swp_len]; exact hl, fun k k0 kn kp => ?_, fun k k0 kn kp p0 => ?_⟩
  · rw [hs, hs]
    by_cases e1 : k = j
    · rw [if_pos e1, if_neg (by omega), if_pos (by rw [e1, hp])]
      exact Nat.le_of_lt hlt
    · rw [if_neg e1]
      rw [if_neg kp]
      by_cases e2 : (k - 1) / 2 = j
      · rw [if_pos e2]
        have := h.ch k k0 kn e2 h0
        rw [← hp] at this
        exact this
      · rw [if_neg e2]
        have hk := h.ok k k0 kn e1
        by_cases e3 : (k - 1) / 2 = p
        · rw [if_pos e3]
          rw [e3] at hk
          omega
        · rw [if_neg e3]; exact hk
  · rw [hs, hs]
    have hpp : (p - 1) / 2 ≠ j := by omega
    rw [if_neg hpp, if_neg (by omega)]
    have hq := h.ok p p0 (by omega) (by omega)
    by_cases e1 : k = j
    · rw [if_pos e1]; exact hq
    · rw [if_neg e1, if_neg (by omega)]
      have hk := h.ok k k0 kn e1
      rw [kp] at hk
      omega
/-- below n it is a heap, but for i, which may be greater than those below it -/
structure DnOk (l : List Nat) (n i : Nat) : Prop where
  len : n ≤ l.length
  ok : ∀ k, 0 < k → k < n → (k - 1) / 2 ≠ i → hx l ((k - 1) / 2) ≤ hx l k
  ch : ∀ k, 0 < k → k < n → (k - 1) / 2 = i → 0 < i → hx l ((i - 1) / 2) ≤ hx l k
theorem DnOk.done {l : List Nat} {n i : Nat} (h : DnOk l n i) (hd : ∀ k, 0 < k → k < n → (k - 1) / 2 = i → hx l i ≤ hx l k) : HeapL l n := fun k h0 hk => by
  by_cases e : (k - 1) / 2 = i
  · rw [e]; exact hd k h0 hk e
  · exact h.ok k h0 hk e
theorem DnOk.step {l : List Nat} {n i j : Nat} (h : DnOk l n i) (hj : j < n) (hji : j = 2 * i + 1 ∨ j = 2 * i + 2) (hm : ∀ k, 0 < k → k < n → (k - 1) / 2 = i → hx l j ≤ hx l k) (hlt : hx l j < hx l i) : DnOk (swp l i j) n j := by
  have hl := h.len
  have hs : ∀ k, hx (swp l i j) k = if k = j then hx l i else if k = i then hx l j else hx l k := fun k => hx_swp (by omega) (by omega)
  have hpj : (j - 1) / 2 = i := by omega
  refine ⟨by rw [swp_len]; exact hl, fun k k0 kn kp => ?_, fun k k0 kn kp j0 => ?_⟩
  · rw [hs, hs, if_neg kp]
    by_cases e1 : k = j
    · rw [if_pos e1, e1, hpj, if_pos rfl]
      omega
    · rw [if_neg e1]
      by_cases e2 : (k - 1) / 2 = i
      · rw [if_pos e2, if_neg (by omega)]
        exact hm k k0 kn e2
      · rw [if_neg e2]
        have hk := h.ok k k0 kn e2
        by_cases e3 : k = i
        · rw [if_pos e3]
          have := h.ch j (by omega) hj hpj (by omega)
          rw [e3]; exact this
        · rw [if_neg e3]; exact hk
  · rw [hs, hs, hpj, if_neg (by omega), if_pos rfl, if_neg (by omega), if_neg (by omega)]
    have := h.ok k k0 kn (by omega)
    rw [kp] at this
    exact this
theorem HeapL.head {l : List Nat} {n : Nat} (h : HeapL l n) : ∀ k, k < n → hx l 0 ≤ hx l k := fun k => by
  induction k using Nat.strongRecOn with
  | ind k ih =>
    intro hk
    by_cases h0 : k = 0
    · rw [h0]; exact Nat.le_refl _
    · have h1 := h k (by omega) hk
      have h2 := ih ((k - 1) / 2) (by omega) (by omega)
      omega
theorem HeapL.up {l : List Nat} {x : Nat} (h : HeapL l l.length) : UpOk (l ++ [x]) (l.length + 1) l.length := by
  have hg : ∀ k, k < l.length → hx (l ++ [x]) k = hx l k := fun k hk => by simp [hx, List.getD, List.getElem?_append_left hk]
  refine ⟨by omega, by simp, fun k k0 kn kj => ?_, fun k k0 kn kj j0 => by omega⟩
  rw [hg k (by omega), hg _ (by omega)]
  exact h k k0 (by omega)
theorem HeapL.down {l : List Nat} {m : Nat} (h : HeapL l (m + 1)) (hl : l.length = m + 1) : DnOk (swp l 0 m) m 0 := by
  have hs : ∀ k, hx (swp l 0 m) k = if k = m then hx l 0 else if k = 0 then hx l m else hx l k := fun k => hx_swp (by omega) (by omega)
  refine ⟨by rw [swp_len]; omega, fun k k0 kn kp => ?_, fun k k0 kn kp i0 => by omega⟩
  rw [hs, hs, if_neg (by omega), if_neg kp, if_neg (by omega), if_neg (by omega)]
  exact h k k0 (by omega)
#print axioms UpOk.step
#print axioms DnOk.step
end Go.Proofs.Yteafkafkbipcmaa

namespace Go.Proofs.Yteafkafkbipcmaa
open Go.RowKit
set_option linter.unusedVariables false
section
variable {P : Program} {ops : Array Oper} {Q : Exit → Act → World → Prop} {md : Region.Mode} {s : Nat} {S : Bool → World → Prop}

/-- what has come up has had all that it waits for -/
def ClA (md : Region.Mode) (ops : Array Oper) (L : Array Bool) : Prop := ∀ j oj, ops[j]? = some oj → L.getD j false = true → ∀ e ∈ oj.after, Region.binds md e = true → L.getD e.on false = true
theorem clA_ready {L : Array Bool} {j : Nat} (h : ClA md ops L) (hj : j ∈ Region.ready md ops L) : ClA md ops (L.setIfInBounds j true) := by
  intro k ok hok hl e he hb
  by_cases hjk : j = k
  · subst hjk
    obtain ⟨_, oj, hoj, hall⟩ := mem_ready.1 hj
    have : oj = ok := Option.some.inj (hoj.symm.trans hok)
    subst this
    exact getD_set_true (hall e he hb)
  · rw [getD_set_ne false hjk] at hl
    exact getD_set_true (h k ok hok hl e he hb)
/-- does s wait for i, itself or through others? -/
def waitsT (md : Region.Mode) (ops : Array Oper) (i : Nat) : Nat → Nat → Bool
  | 0, _ => false
  | f + 1, s => match ops[s]? with
    | none => false
    | some os => os.after.any fun e => Region.binds md e && (e.on == i || waitsT md ops i f e.on)
theorem clA_un {L : Array Bool} {i : Nat} (h : ClA md ops L) (hi : L.getD i true = false) : ∀ {f s : Nat}, waitsT md ops i f s = true → L.getD s false = false
  | 0, s, hw => by cases hw
  | f + 1, s, hw => by
    unfold waitsT at hw
    cases hos : ops[s]? with
    | none => rw [hos] at hw; cases hw
    | some os =>
      rw [hos] at hw
      simp only [Array.any_eq_true, List.any_eq_true, Bool.and_eq_true, Bool.or_eq_true, beq_iff_eq] at hw
      cases hl : L.getD s false with
      | false => rfl
      | true =>
        have hcl : ∀ e ∈ os.after, Region.binds md e = true → L.getD e.on false = true := h s os hos hl
        obtain ⟨e, he, hb, hor⟩ : ∃ e, e ∈ os.after ∧ Region.binds md e = true ∧ (e.on = i ∨ waitsT md ops i f e.on = true) := by
          first
            | (obtain ⟨k, hk, hb, hor⟩ := hw; exact ⟨_, Array.getElem_mem hk, hb, hor⟩)
            | (obtain ⟨e, he, hb, hor⟩ := hw; exact ⟨e, he, hb, hor⟩)
        have h1 := hcl e he hb
        rcases hor with q | q
        · rw [q, getD_both hi] at h1; cases h1
        · rw [clA_un h hi q] at h1; cases h1
theorem wpT_first {i : Nat} {oi : Oper} {v : Value} {fu : Nat} (hi : ops[i]? = some oi) (hsel : ∀ (j : Nat) (o : Oper) cs b, ops[j]? = some o → o.op ≠ .select cs b)
    (hQ : ∀ c a w, Q (.panic c) (a.put oi.dst v) w → Q (.panic c) a w) (his : i ≠ s) (hw : waitsT md ops i fu s = true) :
    ∀ (f : Nat) (L : Array Bool) (a : Act) (w : World),
      (∀ j oj, ops[j]? = some oj → j ≠ i → L.getD j true = false → (∀ e ∈ oj.after, Region.binds md e = true → e.on ≠ i) → oi.apart ops oj = true) →
      i ∈ Region.ready md ops L → YieldsIf P ops (S false) oi v a → S (L.getD s false) w → ClA md ops L →
      wpG P md ops Q s S f (L.setIfInBounds i true) (a.put oi.dst v) w → wpG P md ops Q s S (f + 1) L a w := by
  intro f
  induction f with
  | zero =>
    intro L a w _ hr hy hS hc H
    have hun := clA_un hc (mem_ready.1 hr).1 hw
    rw [hun] at hS
    refine ⟨fun h => (by rw [h] at hr; cases hr), fun j hj => ?_⟩
    by_cases hji : j = i
    · subst hji; exact hy.wpOp hi hS ⟨by rw [getD_set_ne false his, hun]; exact hS, H⟩
    · have := ready_mono hj hji
      rw [H.1] at this; cases this
  | succ f ih =>
    intro L a w hfree hr hy hS hc H
    have hun := clA_un hc (mem_ready.1 hr).1 hw
    refine ⟨fun h => (by rw [h] at hr; cases hr), fun j hj => ?_⟩
    by_cases hji : j = i
    · subst hji
      rw [hun] at hS
      exact hy.wpOp hi hS ⟨by rw [getD_set_ne false his, hun]; exact hS, H⟩
    · have h1 := H.2 j (ready_mono hj hji)
      obtain ⟨hjun, oj, hoj, hall⟩ := mem_ready.1 hj
      have hnot : ∀ e ∈ oj.after, Region.binds md e = true → e.on ≠ i := fun e he hb heq => by
        have h1 := hall e he hb
        rw [heq, getD_both (mem_ready.1 hr).1] at h1
        cases h1
      have h2 := wpOp_putIf hoj (hfree j oj hoj hji hjun hnot) (fun cs b => hsel i oi cs b hi) (fun cs b => hsel j oj cs b hoj) hQ hy h1
      have hfree' : ∀ k ok, ops[k]? = some ok → k ≠ i → (L.setIfInBounds j true).getD k true = false →
          (∀ e ∈ ok.after, Region.binds md e = true → e.on ≠ i) → oi.apart ops ok = true := fun k ok hk hki hun hno => by
        refine hfree k ok hk hki ?_ hno
        by_cases hjk : j = k
        · subst hjk; exact hjun
        · rw [getD_set_ne true hjk] at hun; exact hun
      refine wpOp_mono (fun a' w' h3 => ?_) h2
      have hSj : S ((L.setIfInBounds j true).getD s false) w' := by
        have := h3.2.1
        rw [Array.setIfInBounds_comm _ _ (Ne.symm hji), getD_set_ne false his] at this
        exact this
      refine ⟨hSj, ih (L.setIfInBounds j true) a' w' hfree' (ready_mono hr (Ne.symm hji)) h3.1 hSj (clA_ready hc hj) ?_⟩
      rw [Array.setIfInBounds_comm _ _ hji]
      exact h3.2.2
theorem both_S {b : Bool} {W : World} (h : S b W) : S true W ∨ S false W := by
  cases b
  · exact .inr h
  · exact .inl h
/-- what yields its value in whatever world -/
theorem wpT_firstA {i : Nat} {oi : Oper} {v : Value} (hi : ops[i]? = some oi) (hsel : ∀ (j : Nat) (o : Oper) cs b, ops[j]? = some o → o.op ≠ .select cs b)
    (hQ : ∀ c a w, Q (.panic c) (a.put oi.dst v) w → Q (.panic c) a w) (his : i ≠ s) :
    ∀ (f : Nat) (L : Array Bool) (a : Act) (w : World),
      (∀ j oj, ops[j]? = some oj → j ≠ i → L.getD j true = false → (∀ e ∈ oj.after, Region.binds md e = true → e.on ≠ i) → oi.apart ops oj = true) →
      i ∈ Region.ready md ops L → YieldsIf P ops (fun W => S true W ∨ S false W) oi v a → S (L.getD s false) w → ClA md ops L →
      wpG P md ops Q s S f (L.setIfInBounds i true) (a.put oi.dst v) w → wpG P md ops Q s S (f + 1) L a w := by
  intro f
  induction f with
  | zero =>
    intro L a w _ hr hy hS hc H
    refine ⟨fun h => (by rw [h] at hr; cases hr), fun j hj => ?_⟩
    by_cases hji : j = i
    · subst hji; exact hy.wpOp hi (both_S hS) ⟨by rw [getD_set_ne false his]; exact hS, H⟩
    · have := ready_mono hj hji
      rw [H.1] at this; cases this
  | succ f ih =>
    intro L a w hfree hr hy hS hc H
    refine ⟨fun h => (by rw [h] at hr; cases hr), fun j hj => ?_⟩
    by_cases hji : j = i
    · subst hji
      exact hy.wpOp hi (both_S hS) ⟨by rw [getD_set_ne false his]; exact hS, H⟩
    · have h1 := H.2 j (ready_mono hj hji)
      obtain ⟨hjun, oj, hoj, hall⟩ := mem_ready.1 hj
      have hnot : ∀ e ∈ oj.after, Region.binds md e = true → e.on ≠ i := fun e he hb heq => by
        have h1 := hall e he hb
        rw [heq, getD_both (mem_ready.1 hr).1] at h1
        cases h1
      have h2 := wpOp_putIf hoj (hfree j oj hoj hji hjun hnot) (fun cs b => hsel i oi cs b hi) (fun cs b => hsel j oj cs b hoj) hQ hy h1
      have hfree' : ∀ k ok, ops[k]? = some ok → k ≠ i → (L.setIfInBounds j true).getD k true = false →
          (∀ e ∈ ok.after, Region.binds md e = true → e.on ≠ i) → oi.apart ops ok = true := fun k ok hk hki hun hno => by
        refine hfree k ok hk hki ?_ hno
        by_cases hjk : j = k
        · subst hjk; exact hjun
        · rw [getD_set_ne true hjk] at hun; exact hun
      refine wpOp_mono (fun a' w' h3 => ?_) h2
      have hSj : S ((L.setIfInBounds j true).getD s false) w' := by
        have := h3.2.1
        rw [Array.setIfInBounds_comm _ _ (Ne.symm hji), getD_set_ne false his] at this
        exact this
      refine ⟨hSj, ih (L.setIfInBounds j true) a' w' hfree' (ready_mono hr (Ne.symm hji)) h3.1 hSj (clA_ready hc hj) ?_⟩
      rw [Array.setIfInBounds_comm _ _ hji]
      exact h3.2.2
theorem wpT_take {i : Nat} {oi : Oper} {v : Value} {f : Nat} {L : Array Bool} {a : Act} {w : World} (hi : ops[i]? = some oi)
    (hs : Region.noSelect ops = true) (hf : Region.free md ops L i = true) (hr : (Region.ready md ops L).contains i = true) (hw : waitsT md ops i ops.size s = true)
    (hQ : ∀ c a w, Q (.panic c) (a.put oi.dst v) w → Q (.panic c) a w) (his : i ≠ s) (hy : YieldsIf P ops (S false) oi v a) (hc : ClA md ops L) (hS : S (L.getD s false) w)
    (h : S ((L.setIfInBounds i true).getD s false) w → ClA md ops (L.setIfInBounds i true) → wpG P md ops Q s S f (L.setIfInBounds i true) (a.put oi.dst v) w) : wpG P md ops Q s S (f + 1) L a w :=
  wpT_first hi (Region.noSelect_spec hs) hQ his hw f L a w (Region.free_spec hi hf) (by simpa using hr) hy hS hc (h (by rw [getD_set_ne false his]; exact hS) (clA_ready hc (by simpa using hr)))
theorem wpT_takeA {i : Nat} {oi : Oper} {v : Value} {f : Nat} {L : Array Bool} {a : Act} {w : World} (hi : ops[i]? = some oi)
    (hs : Region.noSelect ops = true) (hf : Region.free md ops L i = true) (hr : (Region.ready md ops L).contains i = true)
    (hQ : ∀ c a w, Q (.panic c) (a.put oi.dst v) w → Q (.panic c) a w) (his : i ≠ s) (hy : YieldsIf P ops (fun W => S true W ∨ S false W) oi v a) (hc : ClA md ops L) (hS : S (L.getD s false) w)
    (h : S ((L.setIfInBounds i true).getD s false) w → ClA md ops (L.setIfInBounds i true) → wpG P md ops Q s S f (L.setIfInBounds i true) (a.put oi.dst v) w) : wpG P md ops Q s S (f + 1) L a w :=
  wpT_firstA hi (Region.noSelect_spec hs) hQ his f L a w (Region.free_spec hi hf) (by simpa using hr) hy hS hc (h (by rw [getD_set_ne false his]; exact hS) (clA_ready hc (by simpa using hr)))
theorem wpT_one {i : Nat} {o : Oper} {f : Nat} {L : Array Bool} {a : Act} {w : World} (hr : Region.ready md ops L = [i]) (ho : ops[i]? = some o) (hc : ClA md ops L)
    (h : ∀ K' : Act → World → Prop, Shut (∀ a w, S ((L.setIfInBounds i true).getD s false) w → (S ((L.setIfInBounds i true).getD s false) w → ClA md ops (L.setIfInBounds i true) → wpG P md ops Q s S f (L.setIfInBounds i true) a w) → K' a w) → if Region.wanted o (yielded ops a.tmps) = true then Oper.wp P o a w K' Q else K' (a.put o.dst undef) w) :
    wpG P md ops Q s S (f + 1) L a w :=
  ⟨fun h0 => (by rw [hr] at h0; cases h0), fun j hj => by
    rw [hr, List.mem_singleton] at hj
    subst hj
    exact wpOp_step ho (fun K' hK => h K' (fun a w hS hW => hK a w ⟨hS, hW hS (clA_ready hc (by rw [hr]; simp))⟩))⟩
theorem clA_none : ∀ {n : Nat}, ClA md ops (Array.replicate n false) := by
  intro n j oj hoj hl
  rw [getD_replicate_false] at hl
  cases hl
theorem wp_region_T {id : Nat} {a : Act} {w : World} (s : Nat) (S : Bool → World → Prop) (hm : P.follows .mixedOrders = true) (hS : S false w.drew)
    (h : S ((Array.replicate ops.size false).getD s false) w.drew → ClA .any ops (Array.replicate ops.size false) → wpG P .any ops Q s S ops.size (Array.replicate ops.size false) a w.drew) : (Code.region id ops true).wp P Q a w :=
  wp_region_any hm (wpAny_of_wpG _ _ _ _ (h (by rw [getD_replicate_false]; exact hS) clA_none))
end
#print axioms wp_region_T
end Go.Proofs.Yteafkafkbipcmaa

namespace Go.Proofs.Yteafkafkbipcmaa
open Go.RowKit
set_option linter.unusedVariables false

def nI (l : List Nat) : List Int := l.map fun i => ((i : Nat) : Int)
theorem nI_len (l : List Nat) : (nI l).length = l.length := by simp [nI]
theorem nI_app (a b : List Nat) : nI (a ++ b) = nI a ++ nI b := by simp [nI]
theorem nI_at {l : List Nat} {i : Nat} (h : i < l.length) : (ints (nI l))[i]? = some (.int .i64 (hx l i : Nat)) := by simp [ints, nI, hx, h]
/-- a line of numbers behind a pointer -/
structure HpV (w : World) (lo hb : Nat) (v : Value) (l : List Nat) : Prop where
  cell : w.cell? ⟨hb, 0, none⟩ = some v
  fz : w.frozen? ⟨hb, 0, none⟩ = false
  own : w.ownsRow lo 3 1 v l.length (ints (nI l))
  ne : ¬ v.ownBlock = some hb
  lo : lo ≤ hb
theorem HpV.no {w w' : World} {lo hb : Nat} {v : Value} {l : List Nat} (h : HpV w lo hb v l) (hf : Fx No w w') : HpV w' lo hb v l :=
  ⟨hf.cell' h.cell (fun q => q), (hf.cellF h.cell h.fz (fun q => q)).2, ownsRow_fx h.own hf fun _ _ q => q, h.ne, h.lo⟩
/-- the blocks that its methods may turn -/
def HpS (hb : Nat) (v : Value) : Nat → Prop := fun x => x = hb ∨ v.ownBlock = some x
theorem HpV.slice {w : World} {lo hb : Nat} {v : Value} {l : List Nat} (h : HpV w lo hb v l) : ∃ ao cap, v = .slice ao l.length cap ∧ (0 < l.length → ∃ g, ao = some ⟨g, 0, none⟩ ∧ lo ≤ g ∧ g < w.heap.size ∧ g ≠ hb) := by
  obtain ⟨ao, cap, e, _⟩ := SlV.ofOwns h.own
  refine ⟨ao, cap, e, fun h0 => ?_⟩
  obtain ⟨g, c, e2, h1, h2⟩ := ownsRow_pos h.own h0
  rw [e2] at e
  simp only [Value.slice.injEq] at e
  refine ⟨g, e.1.symm, h1, h2, fun q => h.ne (by rw [e2, q]; rfl)⟩
theorem HpV.at_ {w : World} {lo hb g n cap : Nat} {l : List Nat} (h : HpV w lo hb (.slice (some ⟨g, 0, none⟩) n cap) l) (hn : n = l.length) {i : Nat} (hi : i < l.length) : w.cell? ⟨g, i, none⟩ = some (.int .i64 (hx l i : Nat)) ∧ w.frozen? ⟨g, i, none⟩ = false := by
  subst hn
  have ho := h.own
  refine ⟨?_, World.ownsRow.frozenAt ho i⟩
  rw [World.ownsRow.cellAt ho i (by omega), nI_at hi]
theorem q_hold {Q : Exit → Act → World → Prop} {e : Exit} {a : Act} {W : World} (R : World → Prop) (hR : R W) (h : ∀ W', R W' → Q e a W') : Q e a W := h W hR
theorem ta_int : ∀ (W : World) (x : Int), (Instr.typeAssert (.iface 3 (.int .i64 x)) 20 3 false).run Try.prog W = .ok (.int .i64 x) W := fun _ _ => by kernel_rfl
section
variable {w w' : World} {lo hb : Nat} {v : Value} {l : List Nat}
theorem hLen_any (h : HpV w lo hb v l) : Calls Try.prog 86 #[.pointer (some ⟨hb, 0, none⟩)] w fun e w' => e = .returned (.int .i64 (l.length : Nat)) ∧ w = w' := by
  obtain ⟨ao, cap, rfl, _⟩ := h.slice
  have c0 := h.cell
  clear h
  go_enter Try.func86, Try.ntmps86
  go_wp2
  go_ret
  exact ⟨rfl, rfl⟩
set_option maxRecDepth 100000 in
theorem hLess_any (h : HpV w lo hb v l) {i k : Nat} (hi : i < l.length) (hk : k < l.length) : Calls Try.prog 97 #[.pointer (some ⟨hb, 0, none⟩), .int .i64 (i : Nat), .int .i64 (k : Nat)] w fun e w' => e = .returned (.bool (decide (hx l i < hx l k))) ∧ Fx No w w' := by
  obtain ⟨ao, cap, rfl, hp⟩ := h.slice
  obtain ⟨g, rfl, _, _, _⟩ := hp (by omega)
  have c0 := h.cell
  have c1 := (h.at_ rfl hi).1
  have c2 := (h.at_ rfl hk).1
  obtain ⟨n, hn⟩ : ∃ n, n = l.length := ⟨_, rfl⟩
  rw [← hn] at c0 hi hk
  obtain ⟨x, hx1⟩ : ∃ x, x = hx l i := ⟨_, rfl⟩
  obtain ⟨y, hy1⟩ : ∃ x, x = hx l k := ⟨_, rfl⟩
  rw [← hx1] at c1 ⊢
  rw [← hy1] at c2 ⊢
  have i0 : (0 : Int) ≤ (i : Int) := by omega
  have i1 : (i : Int) < (n : Int) := by omega
  have k0 : (0 : Int) ≤ (k : Int) := by omega
  have k1 : (k : Int) < (n : Int) := by omega
  obtain ⟨t, ht⟩ : ∃ t, t = decide (x < y) := ⟨_, rfl⟩
  rw [← ht]
  have d1 : decide (x < y) = t := ht.symm
  clear h hn hx1 hy1 hp ht
  go_enter Try.func97, Try.ntmps97
  go_wp2
  go_quiet (fail)
  go_wp2
  go_ret
  exact ⟨rfl, (Fx.refl No _).drewN _⟩
set_option maxRecDepth 100000 in
set_option maxHeartbeats 4000000 in
theorem hSwap_any (h : HpV w lo hb v l) {i k : Nat} (hi : i < l.length) (hk : k < l.length) : Calls Try.prog 100 #[.pointer (some ⟨hb, 0, none⟩), .int .i64 (i : Nat), .int .i64 (k : Nat)] w fun e w' => e = .returned (.tuple #[]) ∧ Fx (fun x => v.ownBlock = some x) w w' ∧ HpV w' lo hb v (swp l i k) := by
  have H := Lib.hid h
  obtain ⟨ao, cap, rfl, hp⟩ := h.slice
  obtain ⟨g, rfl, hg1, hg2, hg3⟩ := hp (by omega)
  have c0 := h.cell
  obtain ⟨c1, z1⟩ := h.at_ rfl hi
  obtain ⟨c2, z2⟩ := h.at_ rfl hk
  have HN : Hid (Fx (fun x => (Value.slice (some ⟨g, 0, none⟩) l.length cap).ownBlock = some x) w ((w.setCell ⟨g, i, none⟩ (.int .i64 (hx l k : Nat))).setCell ⟨g, k, none⟩ (.int .i64 (hx l i : Nat))) ∧ HpV ((w.setCell ⟨g, i, none⟩ (.int .i64 (hx l k : Nat))).setCell ⟨g, k, none⟩ (.int .i64 (hx l i : Nat))) lo hb (.slice (some ⟨g, 0, none⟩) l.length cap) (swp l i k)) := Lib.hid (by
    have hf : Fx (fun x => (Value.slice (some ⟨g, 0, none⟩) l.length cap).ownBlock = some x) w ((w.setCell ⟨g, i, none⟩ (.int .i64 (hx l k : Nat))).setCell ⟨g, k, none⟩ (.int .i64 (hx l i : Nat))) := ((Fx.refl (fun x => (Value.slice (some ⟨g, 0, none⟩) l.length cap).ownBlock = some x) w).setCell (a := ⟨g, i, none⟩) (.inr (show some g = some g from rfl)) _).setCell (a := ⟨g, k, none⟩) (.inr (show some g = some g from rfl)) _
    refine ⟨hf, hf.cell' h.cell h.ne, (hf.cellF h.cell h.fz h.ne).2, ?_, h.ne, h.lo⟩
    rw [swp_len]
    have := (World.ownsRow.stored (World.ownsRow.stored h.own i (.int .i64 (hx l k : Nat))).1 k (.int .i64 (hx l i : Nat))).1
    have e : ints (nI (swp l i k)) = ((ints (nI l)).set i (.int .i64 (hx l k : Nat))).set k (.int .i64 (hx l i : Nat)) := by simp [ints, nI, swp, List.map_set]
    rw [e]; exact this)
  obtain ⟨n, hn⟩ : ∃ n, n = l.length := ⟨_, rfl⟩
  rw [← hn] at c0 hi hk HN ⊢
  obtain ⟨x, hx1⟩ : ∃ x, x = hx l i := ⟨_, rfl⟩
  obtain ⟨y, hy1⟩ : ∃ x, x = hx l k := ⟨_, rfl⟩
  rw [← hx1] at c1 HN
  rw [← hy1] at c2 HN
  have i0 : (0 : Int) ≤ (i : Int) := by omega
  have i1 : (i : Int) < (n : Int) := by omega
  have k0 : (0 : Int) ≤ (k : Int) := by omega
  have k1 : (k : Int) < (n : Int) := by omega
  by_cases hik : i = k
  · subst hik
    obtain rfl : x = y := by rw [hx1, hy1]
    clear h H hn hx1 hy1 hp
    go_enter Try.func100, Try.ntmps100
    go_wp2_with fail
    go_region
    all_goals
      go_end0
      exact ⟨rfl, HN.out.1.drew, HN.out.2.no (Fx.refl No _).drew⟩
  · have hki : ¬ k = i := fun e => hik e.symm
    clear h H hn hx1 hy1 hp
    go_enter Try.func100, Try.ntmps100
    go_wp2_with fail
    go_region
    all_goals
      go_end0
      exact ⟨rfl, HN.out.1.drew, HN.out.2.no (Fx.refl No _).drew⟩
set_option maxRecDepth 100000 in
set_option maxHeartbeats 4000000 in
theorem hPush_any (h : HpV w lo hb v l) (hl : l.length ≤ 1000000) (x : Nat) : Calls Try.prog 99 #[.pointer (some ⟨hb, 0, none⟩), .iface 3 (.int .i64 (x : Nat))] w fun e w' => ∃ v', e = .returned (.tuple #[]) ∧ Fx (HpS hb v) w w' ∧ HpV w' lo hb v' (l ++ [x]) ∧ (∀ g, v'.ownBlock = some g → v.ownBlock = some g ∨ w.heap.size ≤ g) := by
  obtain ⟨ii, hi, hz, hs, hb8⟩ := info_parts info_int'
  have H := Lib.hid h
  have hta := ta_int
  obtain ⟨ao, cap, rfl, hp⟩ := h.slice
  have c0 := h.cell
  have z0 := h.fz
  have hlo := h.lo
  have hbl : hb < w.heap.size := World.block_lt_of_cell? w _ h.cell
  obtain ⟨n, hn⟩ : ∃ n, n = l.length := ⟨_, rfl⟩
  have HN := Lib.hid hn
  rw [← hn] at c0 hl H ⊢
  have HOw : Hid ((w.drew.alloc (.cells #[.int .i64 (x : Nat)] 3)).ownsRow lo 3 1 (.slice ao n cap) n (ints (nI l))) := Lib.hid (by have := ownsRow_fx h.own ((Fx.refl No w).drew.alloc (.cells #[.int .i64 (x : Nat)] 3)) fun _ _ q => q; rw [← hn] at this; exact this)
  have HEl : Hid (w.ownsRow lo 3 1 (.slice ao n cap) n (ints (nI l))) := Lib.hid (by have := h.own; rw [← hn] at this; exact this)
  have n1 : ¬ (Value.slice ao n cap).ownBlock = some hb := by rw [hn]; exact h.ne
  have g1 : ∀ W, Fx (fun x => (Value.slice ao n cap).ownBlock = some x) w W → W.cell? ⟨hb, 0, none⟩ = some (.slice ao n cap) := fun W q => q.cell' c0 n1
  have HSz : Hid (lo ≤ (w.drew.alloc (.cells #[.int .i64 (x : Nat)] 3)).heap.size) := Lib.hid (by
    have e : (w.drew.alloc (.cells #[.int .i64 (x : Nat)] 3)).heap.size = w.heap.size + 1 := World.size_alloc _ _
    omega)
  clear h hp hn
  go_enter Try.func99, Try.ntmps99
  go_wp2_with fail
  refine wp_region_T 11 (fun b W => b = false → Fx (fun x => (Value.slice ao n cap).ownBlock = some x) w W) (by kernel_rfl) (fun _ => (Fx.refl _ _).drew) ?_
  intro _ hC
  have hS : Fx (fun x => (Value.slice ao n cap).ownBlock = some x) w w.drew := (Fx.refl _ _).drew
  refine wpT_take (i := 0) (v := ?_) rfl (by kernel_rfl) (by kernel_rfl) (by kernel_rfl) (by kernel_rfl) (fun _ _ _ h => h) (by decide) (Or.inl ⟨by rfl, ?_⟩) hC (fun _ => hS) ?_
  rotate_left
  · (intro W hc; have hs := hc rfl; clear hc; go_simp; first | done | with_reducible rfl)
  clear hC
  intro _ hC
  try simp only [Act.put, List.getElem_toArray, List.getElem_cons_zero, List.getElem_cons_succ, List.setIfInBounds_toArray, List.set_cons_zero, List.set_cons_succ]
  refine wpT_take (i := 1) (v := ?_) rfl (by kernel_rfl) (by kernel_rfl) (by kernel_rfl) (by kernel_rfl) (fun _ _ _ h => h) (by decide) (Or.inl ⟨by rfl, ?_⟩) hC (fun _ => hS) ?_
  rotate_left
  · (intro W hc; have hs := hc rfl; clear hc; go_simp; first | done | with_reducible rfl)
  clear hC
  intro _ hC
  try simp only [Act.put, List.getElem_toArray, List.getElem_cons_zero, List.getElem_cons_succ, List.setIfInBounds_toArray, List.set_cons_zero, List.set_cons_succ]
  refine wpT_take (i := 2) (v := ?_) rfl (by kernel_rfl) (by kernel_rfl) (by kernel_rfl) (by kernel_rfl) (fun _ _ _ h => h) (by decide) (Or.inl ⟨by rfl, ?_⟩) hC (fun _ => hS) ?_
  rotate_left
  · (intro W hc; have hs := hc rfl; clear hc; go_simp; first | done | with_reducible rfl)
  clear hC
  intro _ hC
  try simp only [Act.put, List.getElem_toArray, List.getElem_cons_zero, List.getElem_cons_succ, List.setIfInBounds_toArray, List.set_cons_zero, List.set_cons_succ]
  refine wpT_take (i := 3) (v := ?_) rfl (by kernel_rfl) (by kernel_rfl) (by kernel_rfl) (by kernel_rfl) (fun _ _ _ h => h) (by decide) (Or.inl ⟨by rfl, ?_⟩) hC (fun _ => hS) ?_
  rotate_left
  · (intro W hc; have hs := hc rfl; clear hc; go_simp; first | done | with_reducible rfl)
  clear hC
  intro _ hC
  try simp only [Act.put, List.getElem_toArray, List.getElem_cons_zero, List.getElem_cons_succ, List.setIfInBounds_toArray, List.set_cons_zero, List.set_cons_succ]
  refine wpT_take (i := 4) (v := ?_) rfl (by kernel_rfl) (by kernel_rfl) (by kernel_rfl) (by kernel_rfl) (fun _ _ _ h => h) (by decide) (Or.inl ⟨by rfl, ?_⟩) hC (fun _ => hS) ?_
  rotate_left
  · (intro W hc; have hs := hc rfl; clear hc; go_simp; first | done | with_reducible rfl)
  clear hC
  intro _ hC
  try simp only [Act.put, List.getElem_toArray, List.getElem_cons_zero, List.getElem_cons_succ, List.setIfInBounds_toArray, List.set_cons_zero, List.set_cons_succ]
  refine wpT_take (i := 5) (v := ?_) rfl (by kernel_rfl) (by kernel_rfl) (by kernel_rfl) (by kernel_rfl) (fun _ _ _ h => h) (by decide) (Or.inl ⟨by rfl, ?_⟩) hC (fun _ => hS) ?_
  rotate_left
  · (intro W hc; have hs := hc rfl; clear hc; go_simp; first | done | with_reducible rfl)
  clear hC
  intro _ hC
  try simp only [Act.put, List.getElem_toArray, List.getElem_cons_zero, List.getElem_cons_succ, List.setIfInBounds_toArray, List.set_cons_zero, List.set_cons_succ]
  refine wpT_take (i := 6) (v := ?_) rfl (by kernel_rfl) (by kernel_rfl) (by kernel_rfl) (by kernel_rfl) (fun _ _ _ h => h) (by decide) (Or.inl ⟨by rfl, ?_⟩) hC (fun _ => hS) ?_
  rotate_left
  · (intro W hc; have hs := hc rfl; clear hc; go_simp; first | done | with_reducible rfl)
  clear hC
  intro _ hC
  try simp only [Act.put, List.getElem_toArray, List.getElem_cons_zero, List.getElem_cons_succ, List.setIfInBounds_toArray, List.set_cons_zero, List.set_cons_succ]
  refine wpT_one (i := 7) (by kernel_rfl) rfl hC (fun K hK => ?_)
  go_simp
  have hS2 := ((Fx.refl No w).drew.alloc (.cells #[.int .i64 (x : Nat)] 3)).no (S := fun x => (Value.slice ao n cap).ownBlock = some x)
  refine hK.out _ _ (fun _ => hS2) (fun _ hC' => ?_)
  clear hK K hS hC 
  have hS := hS2
  have hC := hC'
  clear hS2 hC'
  try simp only [Act.put, List.getElem_toArray, List.getElem_cons_zero, List.getElem_cons_succ, List.setIfInBounds_toArray, List.set_cons_zero, List.set_cons_succ]
  refine wpT_one (i := 8) (by kernel_rfl) rfl hC (fun K hK => ?_)
  refine step_append_kept rfl (.tmp 8) (.tmp 11) 32 rfl lo 3 Try.underlying32 hi hz hs hb8 rfl (by decide) (.slice ao n cap) n (ints (nI l)) (by simp [Act.eval]) HOw.out (fun _ => True) (.slice (some ⟨w.heap.size, 0, none⟩) 1 1) 1 [.int .i64 (x : Nat)] (by simp [Act.eval]) (SlV.lit w.drew 3 #[.int .i64 (x : Nat)] 1 1 rfl (by unfold maxLen; omega)) (ints_one [_]) (by omega) (by unfold maxLen; omega) (by omega) HSz.out ?_
  intro v' w3 ho hfx hk3 hb2
  obtain ⟨g', gc', rfl, _, _⟩ := ownsRow_pos ho (by omega)
  have hS2 : Fx (fun x => (Value.slice ao n cap).ownBlock = some x) w w3 := ((((Fx.refl No w).drew).alloc _).no).trans hfx
  have q4 := hS2.cellF c0 z0 n1
  have hnv : ¬ (Value.slice (some ⟨g', 0, none⟩) (n + 1) gc').ownBlock = some hb := fun e => by
    rcases hb2 hb e with q | q
    · exact n1 q
    · have e : (w.alloc (.cells #[.int .i64 (x : Nat)] 3)).drew.heap.size = w.heap.size + 1 := World.size_alloc _ _
      omega
  have hp : Fx (fun x => x = hb) w3 (w3.setCell ⟨hb, 0, none⟩ (.slice (some ⟨g', 0, none⟩) (n + 1) gc')) := Fx.put _ _ _ _
  have HNw : Hid (HpV (w3.setCell ⟨hb, 0, none⟩ (.slice (some ⟨g', 0, none⟩) (n + 1) gc')) lo hb (.slice (some ⟨g', 0, none⟩) (n + 1) gc') (l ++ [x])) := Lib.hid ⟨World.cell?_setCell_same _ _ _ q4.1, by simpa using q4.2, by
    rw [List.length_append, ← HN.out, nI_app, show ints (nI l ++ nI [x]) = ints (nI l) ++ ints (nI [x]) from List.map_append]
    exact ownsRow_fx ho hp fun b e e2 => hnv (by have e2 : b = hb := e2; rw [← e2]; exact e), hnv, hlo⟩
  have HFw : Hid (Fx (HpS hb (.slice ao n cap)) w (w3.setCell ⟨hb, 0, none⟩ (.slice (some ⟨g', 0, none⟩) (n + 1) gc'))) := Lib.hid ((hS2.mono fun _ _ q => Or.inr q).trans (hp.mono fun _ _ q => Or.inl q))
  have HBw : Hid (∀ g, (Value.slice (some ⟨g', 0, none⟩) (n + 1) gc').ownBlock = some g → (Value.slice ao n cap).ownBlock = some g ∨ w.heap.size ≤ g) := Lib.hid fun g e => (hb2 g e).imp_right fun q => by
    have e : (w.alloc (.cells #[.int .i64 (x : Nat)] 3)).drew.heap.size = w.heap.size + 1 := World.size_alloc _ _
    omega
  refine hK.out _ _ (fun _ => hS2) (fun _ hC' => ?_)
  clear hK K hS hC ho hfx hk3 hb2 hnv hp
  have hS := hS2
  have hC := hC'
  clear hS2 hC' g1
  try simp only [Act.put, List.getElem_toArray, List.getElem_cons_zero, List.getElem_cons_succ, List.setIfInBounds_toArray, List.set_cons_zero, List.set_cons_succ]
  refine wpT_take (i := 9) (v := ?_) rfl (by kernel_rfl) (by kernel_rfl) (by kernel_rfl) (by kernel_rfl) (fun _ _ _ h => h) (by decide) (Or.inl ⟨by rfl, ?_⟩) hC (fun _ => hS) ?_
  rotate_left
  · (intro W hc; have hs := hc rfl; clear hc; go_simp; first | done | with_reducible rfl)
  clear hC
  intro _ hC
  try simp only [Act.put, List.getElem_toArray, List.getElem_cons_zero, List.getElem_cons_succ, List.setIfInBounds_toArray, List.set_cons_zero, List.set_cons_succ]
  refine wpT_take (i := 10) (v := ?_) rfl (by kernel_rfl) (by kernel_rfl) (by kernel_rfl) (by kernel_rfl) (fun _ _ _ h => h) (by decide) (Or.inl ⟨by rfl, ?_⟩) hC (fun _ => hS) ?_
  rotate_left
  · (intro W hc; have hs := hc rfl; clear hc; go_simp; first | done | with_reducible rfl)
  clear hC
  intro _ hC
  try simp only [Act.put, List.getElem_toArray, List.getElem_cons_zero, List.getElem_cons_succ, List.setIfInBounds_toArray, List.set_cons_zero, List.set_cons_succ]
  refine wpT_one (i := 11) (by kernel_rfl) rfl hC (fun K hK => ?_)
  go_simp
  refine hK.out _ _ (fun h => absurd h (by decide +kernel)) (fun _ hC' => ?_)
  clear hK K hC
  have hC := hC'
  clear hC'
  try simp only [Act.put, List.getElem_toArray, List.getElem_cons_zero, List.getElem_cons_succ, List.setIfInBounds_toArray, List.set_cons_zero, List.set_cons_succ]
  refine wpG_done (by kernel_rfl) ?_ _
  clear hS q4
  go_end0
  exact ⟨_, rfl, HFw.out, HNw.out, HBw.out⟩
set_option maxRecDepth 100000 in
set_option maxHeartbeats 4000000 in
theorem hPop_any {x : Nat} (h : HpV w lo hb v (l ++ [x])) : Calls Try.prog 98 #[.pointer (some ⟨hb, 0, none⟩)] w fun e w' => ∃ v', e = .returned (.iface 3 (.int .i64 (x : Nat))) ∧ Fx (HpS hb v) w w' ∧ HpV w' lo hb v' l ∧ (∀ g, v'.ownBlock = some g → v.ownBlock = some g) := by
  have H := Lib.hid h
  obtain ⟨ao, cap, rfl, hp⟩ := h.slice
  obtain ⟨g, rfl, hg1, hg2, hg3⟩ := hp (by simp)
  have c0 := h.cell
  have z0 := h.fz
  have hxl : hx (l ++ [x]) l.length = x := by simp [hx]
  have c1 := (h.at_ rfl (i := l.length) (by simp)).1
  rw [hxl] at c1
  have hll : (l ++ [x]).length = l.length + 1 := by simp
  rw [hll] at c0
  rw [hll]
  have hown := h.own
  rw [hll] at hown
  obtain ⟨n, hn⟩ : ∃ n, n = l.length := ⟨_, rfl⟩
  have HNw : Hid (∀ W, Fx No w W → HpV (W.setCell ⟨hb, 0, none⟩ (.slice (some ⟨g, 0, none⟩) n cap)).drew lo hb (.slice (some ⟨g, 0, none⟩) n cap) l ∧ Fx (HpS hb (.slice (some ⟨g, 0, none⟩) (n + 1) cap)) w (W.setCell ⟨hb, 0, none⟩ (.slice (some ⟨g, 0, none⟩) n cap)).drew) := Lib.hid (fun W hW => by
    have hp : Fx (fun x => x = hb) W (W.setCell ⟨hb, 0, none⟩ (.slice (some ⟨g, 0, none⟩) n cap)).drew := (Fx.put _ _ _ _).drew
    have hne : ¬ (Value.slice (some ⟨g, 0, none⟩) n cap).ownBlock = some hb := fun e => hg3 (by have e : some g = some hb := e; simpa using e)
    refine ⟨⟨World.cell?_setCell_same _ _ _ (hW.cell' c0 (fun q => q)), by have := (hW.cellF c0 z0 (fun q => q)).2; simpa using this, ?_, hne, h.lo⟩, hW.no.trans (hp.mono fun _ _ q => Or.inl q)⟩
    refine ownsRow_fx ?_ hp fun b e e2 => hne (by have e2 : b = hb := e2; rw [← e2]; exact e)
    rw [hn]
    refine ownsRow_pop (last := ints [(x : Int)]) (by simp [ints, nI]) ?_
    rw [nI_app, show ints (nI l ++ nI [x]) = ints (nI l) ++ ints (nI [x]) from List.map_append] at hown
    exact ownsRow_fx hown hW fun _ _ q => q)
  rw [← hn] at c0 c1 ⊢
  have hn6 : n + 1 ≤ 9223372036854775807 := by
    have := hown.2
    rcases this with ⟨e, _⟩ | ⟨g', c', cur, e, _, _, r1, r2, _⟩
    · cases e
    · simp only [Value.slice.injEq] at e
      unfold maxLen at r2
      omega
  have i0 : (0 : Int) ≤ (n : Int) := by omega
  have i1 : (n : Int) < (n : Int) + 1 := by omega
  have i2 : (n : Int) + 1 - 1 = (n : Int) := by omega
  have hcap : n ≤ cap := by
    rcases hown.2 with ⟨e, _⟩ | ⟨g', c', cur, e, _, _, r1, r2, _⟩
    · cases e
    · simp only [Value.slice.injEq] at e
      omega
  clear h H hp hxl hll hown hn
  go_enter Try.func98, Try.ntmps98
  go_wp2
  go_quiet (fail)
  refine q_hold (fun W => Fx No w W) ((Fx.refl No w).drewN _) ?_
  rintro w1 hf1
  have HN1 := Lib.hid (HNw.out w1 hf1)
  have z0 := (hf1.cellF c0 z0 (fun q => q)).2
  have c0 := hf1.cell' c0 (fun q => q)
  clear c1 hf1 HNw hg1 hg2
  go_wp2_with fail
  go_region
  all_goals
    go_wp2
    go_ret
    exact ⟨_, rfl, HN1.out.2, HN1.out.1, fun _ q => q⟩
end
#print axioms hPush_any
#print axioms hPop_any
end Go.Proofs.Yteafkafkbipcmaa

namespace Go.Proofs.Yteafkafkbipcmaa
open Go.RowKit
set_option linter.unusedVariables false

/-! which functions the methods are (244: the model's own number for this program) -/
theorem m_Less (a : Addr) : ∀ w, (method 244 71 (.pointer (some a)) "Less").run Try.prog w = .ok (97, .pointer (some a)) w := fun _ => by kernel_rfl
theorem m_Swap (a : Addr) : ∀ w, (method 244 71 (.pointer (some a)) "Swap").run Try.prog w = .ok (100, .pointer (some a)) w := fun _ => by kernel_rfl
theorem m_Len (a : Addr) : ∀ w, (method 244 71 (.pointer (some a)) "Len").run Try.prog w = .ok (86, .pointer (some a)) w := fun _ => by kernel_rfl
theorem m_Push (a : Addr) : ∀ w, (method 244 71 (.pointer (some a)) "Push").run Try.prog w = .ok (99, .pointer (some a)) w := fun _ => by kernel_rfl
theorem m_Pop (a : Addr) : ∀ w, (method 244 71 (.pointer (some a)) "Pop").run Try.prog w = .ok (98, .pointer (some a)) w := fun _ => by kernel_rfl
section
variable {w w' : World} {lo hb : Nat} {v : Value} {l : List Nat}
set_option maxRecDepth 100000 in
set_option maxHeartbeats 4000000 in
theorem up_any (h : HpV w lo hb v l) {j : Nat} (hu : UpOk l l.length j) : Calls Try.prog 93 #[.iface 71 (.pointer (some ⟨hb, 0, none⟩)), .int .i64 (j : Nat)] w fun e w' => e = .returned (.tuple #[]) ∧ Fx (fun x => v.ownBlock = some x) w w' ∧ ∃ l', l'.Perm l ∧ HeapL l' l'.length ∧ HpV w' lo hb v l' := by
  have H := Lib.hid h
  have HU := Lib.hid hu
  have hll : l.length ≤ 9223372036854775807 := by
    obtain ⟨ao, cap, rfl, _⟩ := h.slice
    obtain ⟨_, c, e, h1, h2, _⟩ := SlV.ofOwns h.own
    simp only [Value.slice.injEq] at e
    unfold maxLen at h2
    omega
  have hjl := hu.lt
  clear h hu
  go_enter Try.func93, Try.ntmps93
  go_wp2
  go_loopw [1] (fun i ws => ∃ (j : Nat) (l' : List Nat), i = .int .i64 j ∧ l'.Perm l ∧ UpOk l' l.length j ∧ Fx (fun x => v.ownBlock = some x) w ws ∧ HpV ws lo hb v l') (fun i _ => (intOf i).toNat)
  case atStart => exact ⟨j, l, rfl, List.Perm.refl _, HU.out, Fx.refl _ _, H.out⟩
  case round =>
    obtain ⟨i, l', rfl, hp, hu, hf, hv⟩ := hrel
    have HP := Lib.hid hp
    have HU2 := Lib.hid hu
    have HF := Lib.hid hf
    have HV := Lib.hid hv
    have hlen := hp.length_eq
    have hil := hu.lt
    clear hp hu hf hv
    by_cases h0 : i = 0
    · subst h0
      have e1 : (((0 : Nat) : Int) - 1).tdiv 2 = 0 := by decide
      have HR : Hid (HeapL l' l'.length) := Lib.hid (by rw [hlen]; exact HU2.out.done (.inl rfl))
      go_wp2
      go_end0
      exact ⟨rfl, HF.out, l', HP.out, HR.out, HV.out⟩
    · obtain ⟨p, hp⟩ : ∃ p, p = (i - 1) / 2 := ⟨_, rfl⟩
      have e1 : ((i : Int) - 1).tdiv 2 = (p : Int) := by
        rw [show (i : Int) - 1 = ((i - 1 : Nat) : Int) by omega, hp]; rfl
      have e2 : ((i : Int) - 1) / 2 = (p : Int) := by omega
      have e3 : ((i - 1 : Nat) : Int) / 2 = (p : Int) := by omega
      have m1 := m_Less ⟨hb, 0, none⟩
      have m2 := m_Swap ⟨hb, 0, none⟩
      have HPp := Lib.hid hp
      clear hp
      have hpi : p < i := by omega
      have d1 : ((p : Int) == (i : Int)) = false := by simp; omega
      go_wp2_with fail
      refine (hLess_any HV.out (i := i) (k := p) (by omega) (by omega)).mono ?_
      rintro e w1 ⟨rfl, hf1⟩
      have HV1 := Lib.hid (HV.out.no hf1)
      have HF1 := Lib.hid (HF.out.transNo hf1)
      obtain ⟨t, ht⟩ : ∃ t, t = decide (hx l' i < hx l' p) := ⟨_, rfl⟩
      rw [← ht]
      have HT := Lib.hid ht
      clear hf1 ht
      cases t
      · have HR : Hid (HeapL l' l'.length) := Lib.hid (by
          rw [hlen]
          have := of_decide_eq_false HT.out.symm
          exact HU2.out.done (.inr (by rw [← HPp.out]; omega)))
        go_wp2
        go_end0
        exact ⟨rfl, HF1.out, l', HP.out, HR.out, HV1.out⟩
      · have HU3 : Hid (UpOk (swp l' p i) l.length p) := Lib.hid (by
          have := of_decide_eq_true HT.out.symm
          rw [HPp.out] at this ⊢
          exact HU2.out.step (by omega) this)
        go_wp2_with fail
        refine (hSwap_any HV1.out (i := p) (k := i) (by omega) (by omega)).mono ?_
        rintro e w2 ⟨rfl, hf2, hv2⟩
        have HV2 := Lib.hid hv2
        have HF2 := Lib.hid (HF1.out.trans' hf2 fun _ q _ => q)
        have HP2 : Hid ((swp l' p i).Perm l) := Lib.hid ((swp_perm (by omega) (by omega)).trans HP.out)
        clear hf2 hv2
        go_wp2
        go_roundw
        case rel => exact ⟨p, swp l' p i, rfl, HP2.out, HU3.out, HF2.out, HV2.out⟩
        case measure => simp [intOf]; omega
set_option maxRecDepth 100000 in
set_option maxHeartbeats 4000000 in
theorem down_any (h : HpV w lo hb v l) {m : Nat} (hl : l.length = m + 1) (hm : m ≤ 1000000) (hd : DnOk l m 0) : Calls Try.prog 92 #[.iface 71 (.pointer (some ⟨hb, 0, none⟩)), .int .i64 0, .int .i64 (m : Nat)] w fun e w' => ∃ b, e = .returned (.bool b) ∧ Fx (fun x => v.ownBlock = some x) w w' ∧ ∃ l', l'.Perm l ∧ HeapL l' m ∧ hx l' m = hx l m ∧ HpV w' lo hb v l' := by
  have H := Lib.hid h
  have HD0 := Lib.hid hd
  have HLl := Lib.hid hl
  clear h hd hl
  go_enter Try.func92, Try.ntmps92
  go_wp2
  go_loopw [7] (fun i ws => ∃ (i' : Nat) (l' : List Nat), i = .int .i64 i' ∧ i' ≤ m ∧ l'.Perm l ∧ DnOk l' m i' ∧ hx l' m = hx l m ∧ Fx (fun x => v.ownBlock = some x) w ws ∧ HpV ws lo hb v l') (fun i _ => m - (intOf i).toNat)
  case atStart => exact ⟨0, l, rfl, by omega, List.Perm.refl _, HD0.out, rfl, Fx.refl _ _, H.out⟩
  case round =>
    obtain ⟨i, l', rfl, him, hp, hd, hx', hf, hv⟩ := hrel
    have HP := Lib.hid hp
    have HD := Lib.hid hd
    have HX := Lib.hid hx'
    have HF := Lib.hid hf
    have HV := Lib.hid hv
    have hlen : l'.length = m + 1 := by rw [hp.length_eq]; exact HLl.out
    have m1 := m_Less ⟨hb, 0, none⟩
    have m2 := m_Swap ⟨hb, 0, none⟩
    clear hp hd hx' hf hv
    by_cases hc1 : m ≤ 2 * i + 1
    · have d1 : decide ((m : Int) ≤ 2 * (i : Int) + 1) = true := decide_eq_true (by omega)
      have HR : Hid (HeapL l' m) := Lib.hid (HD.out.done fun k k0 km ke => by omega)
      clear hc1 hlen
      go_wp2
      go_ret
      exact ⟨_, rfl, HF.out, l', HP.out, HR.out, HX.out, HV.out⟩
    · have d1 : decide ((m : Int) ≤ 2 * (i : Int) + 1) = false := decide_eq_false (by omega)
      have d2 : decide (2 * (i : Int) + 1 < 0) = false := decide_eq_false (by omega)
      by_cases hc2 : 2 * i + 2 < m
      · have d3 : decide (2 * (i : Int) + 1 + 1 < (m : Int)) = true := decide_eq_true (by omega)
        obtain ⟨j1, hj1⟩ : ∃ j, j = 2 * i + 1 := ⟨_, rfl⟩
        obtain ⟨j2, hj2⟩ : ∃ j, j = 2 * i + 2 := ⟨_, rfl⟩
        have a1 : 2 * (i : Int) + 1 = (j1 : Int) := by omega
        have a2 : (j1 : Int) + 1 = (j2 : Int) := by omega
        have d4 : decide ((m : Int) ≤ (j1 : Int)) = false := decide_eq_false (by omega)
        have d5 : decide (m ≤ j1) = false := decide_eq_false (by omega)
        have d6 : decide ((j2 : Int) < (m : Int)) = true := decide_eq_true (by omega)
        have d7 : decide (j2 < m) = true := decide_eq_true (by omega)
        have HJ1 := Lib.hid hj1
        have HJ2 := Lib.hid hj2
        have hj2m : j2 < m := by omega
        have hj1m : j1 < m := by omega
        have hij : i < j1 := by omega
        have hij2 : i < j2 := by omega
        clear hj1 hj2 hc1 hc2 d1 d2 d3
        go_wp2_with fail
        refine (hLess_any HV.out (i := j2) (k := j1) (by omega) (by omega)).mono ?_
        rintro e w7 ⟨rfl, hf7⟩
        have HV7 := Lib.hid (HV.out.no hf7)
        have HF7 := Lib.hid (HF.out.transNo hf7)
        obtain ⟨s, hs⟩ : ∃ s, s = decide (hx l' j2 < hx l' j1) := ⟨_, rfl⟩
        rw [← hs]
        have HS := Lib.hid hs
        clear hf7 hs
        cases s
        · have HMn : Hid (∀ k, 0 < k → k < m → (k - 1) / 2 = i → hx l' j1 ≤ hx l' k) := Lib.hid fun k k0 km ke => by
            have h1 := of_decide_eq_false HS.out.symm
            have h2 := HJ1.out
            have h3 := HJ2.out
            rcases (show k = j1 ∨ k = j2 by omega) with e | e
            · rw [e]; exact Nat.le_refl _
            · rw [e]; omega
          have HJ : Hid (j1 = 2 * i + 1 ∨ j1 = 2 * i + 2) := Lib.hid (.inl HJ1.out)
          obtain ⟨j, hjj⟩ : ∃ j, j = j1 := ⟨_, rfl⟩
          rw [← hjj] at HMn HJ hj1m hij a1 a2 ⊢
          have hjm := hj1m
          have hije := hij
          clear hjj HS hj2m hij2
          go_wp2_with fail
          refine (hLess_any HV7.out (i := j) (k := i) (by omega) (by omega)).mono ?_
          rintro e w8 ⟨rfl, hf8⟩
          have HV8 := Lib.hid (HV7.out.no hf8)
          have HF8 := Lib.hid (HF7.out.transNo hf8)
          obtain ⟨t, ht⟩ : ∃ t, t = decide (hx l' j < hx l' i) := ⟨_, rfl⟩
          rw [← ht]
          have HT := Lib.hid ht
          clear hf8 ht
          cases t
          · have HR : Hid (HeapL l' m) := Lib.hid (by
              have := of_decide_eq_false HT.out.symm
              exact HD.out.done fun k k0 km ke => by have := HMn.out k k0 km ke; omega)
            go_wp2
            go_ret
            exact ⟨_, rfl, HF8.out, l', HP.out, HR.out, HX.out, HV8.out⟩
          · have HD3 : Hid (DnOk (swp l' i j) m j) := Lib.hid (HD.out.step hjm HJ.out HMn.out (of_decide_eq_true HT.out.symm))
            have HX3 : Hid (hx (swp l' i j) m = hx l m) := Lib.hid (by rw [hx_swp (by omega) (by omega), if_neg (by omega), if_neg (by omega)]; exact HX.out)
            have HP3 : Hid ((swp l' i j).Perm l) := Lib.hid ((swp_perm (by omega) (by omega)).trans HP.out)
            go_wp2_with fail
            refine (hSwap_any HV8.out (i := i) (k := j) (by omega) (by omega)).mono ?_
            rintro e w9 ⟨rfl, hf9, hv9⟩
            have HV9 := Lib.hid hv9
            have HF9 := Lib.hid (HF8.out.trans' hf9 fun _ q _ => q)
            clear hf9 hv9
            go_wp2
            go_roundw
            case rel => exact ⟨j, swp l' i j, rfl, by omega, HP3.out, HD3.out, HX3.out, HF9.out, HV9.out⟩
            case measure => simp [intOf]; omega
        · have HMn : Hid (∀ k, 0 < k → k < m → (k - 1) / 2 = i → hx l' j2 ≤ hx l' k) := Lib.hid fun k k0 km ke => by
            have h1 := of_decide_eq_true HS.out.symm
            have h2 := HJ1.out
            have h3 := HJ2.out
            rcases (show k = j1 ∨ k = j2 by omega) with e | e
            · rw [e]; omega
            · rw [e]; exact Nat.le_refl _
          have HJ : Hid (j2 = 2 * i + 1 ∨ j2 = 2 * i + 2) := Lib.hid (.inr HJ2.out)
          obtain ⟨j, hjj⟩ : ∃ j, j = j2 := ⟨_, rfl⟩
          rw [← hjj] at HMn HJ hj2m hij2 a2 ⊢
          have hjm := hj2m
          have hije := hij2
          clear hjj HS hj1m hij
          go_wp2_with fail
          refine (hLess_any HV7.out (i := j) (k := i) (by omega) (by omega)).mono ?_
          rintro e w8 ⟨rfl, hf8⟩
          have HV8 := Lib.hid (HV7.out.no hf8)
          have HF8 := Lib.hid (HF7.out.transNo hf8)
          obtain ⟨t, ht⟩ : ∃ t, t = decide (hx l' j < hx l' i) := ⟨_, rfl⟩
          rw [← ht]
          have HT := Lib.hid ht
          clear hf8 ht
          cases t
          · have HR : Hid (HeapL l' m) := Lib.hid (by
              have := of_decide_eq_false HT.out.symm
              exact HD.out.done fun k k0 km ke => by have := HMn.out k k0 km ke; omega)
            go_wp2
            go_ret
            exact ⟨_, rfl, HF8.out, l', HP.out, HR.out, HX.out, HV8.out⟩
          · have HD3 : Hid (DnOk (swp l' i j) m j) := Lib.hid (HD.out.step hjm HJ.out HMn.out (of_decide_eq_true HT.out.symm))
            have HX3 : Hid (hx (swp l' i j) m = hx l m) := Lib.hid (by rw [hx_swp (by omega) (by omega), if_neg (by omega), if_neg (by omega)]; exact HX.out)
            have HP3 : Hid ((swp l' i j).Perm l) := Lib.hid ((swp_perm (by omega) (by omega)).trans HP.out)
            go_wp2_with fail
            refine (hSwap_any HV8.out (i := i) (k := j) (by omega) (by omega)).mono ?_
            rintro e w9 ⟨rfl, hf9, hv9⟩
            have HV9 := Lib.hid hv9
            have HF9 := Lib.hid (HF8.out.trans' hf9 fun _ q _ => q)
            clear hf9 hv9
            go_wp2
            go_roundw
            case rel => exact ⟨j, swp l' i j, rfl, by omega, HP3.out, HD3.out, HX3.out, HF9.out, HV9.out⟩
            case measure => simp [intOf]; omega
      · have d3 : decide (2 * (i : Int) + 1 + 1 < (m : Int)) = false := decide_eq_false (by omega)
        obtain ⟨j, hj⟩ : ∃ j, j = 2 * i + 1 := ⟨_, rfl⟩
        have a1 : 2 * (i : Int) + 1 = (j : Int) := by omega
        have d4 : decide ((m : Int) ≤ (j : Int)) = false := decide_eq_false (by omega)
        have d5 : decide (m ≤ j) = false := decide_eq_false (by omega)
        have d6 : decide ((j : Int) + 1 < (m : Int)) = false := decide_eq_false (by omega)
        have HMn : Hid (∀ k, 0 < k → k < m → (k - 1) / 2 = i → hx l' j ≤ hx l' k) := Lib.hid fun k k0 km ke => by
          have : k = j := by omega
          rw [this]; exact Nat.le_refl _
        have HJ : Hid (j = 2 * i + 1 ∨ j = 2 * i + 2) := Lib.hid (.inl hj)
        have hjm : j < m := by omega
        have hije : i < j := by omega
        clear hj hc1 hc2 d1 d2 d3
        go_wp2_with fail
        refine (hLess_any HV.out (i := j) (k := i) (by omega) (by omega)).mono ?_
        rintro e w8 ⟨rfl, hf8⟩
        have HV8 := Lib.hid (HV.out.no hf8)
        have HF8 := Lib.hid (HF.out.transNo hf8)
        obtain ⟨t, ht⟩ : ∃ t, t = decide (hx l' j < hx l' i) := ⟨_, rfl⟩
        rw [← ht]
        have HT := Lib.hid ht
        clear hf8 ht
        cases t
        · have HR : Hid (HeapL l' m) := Lib.hid (by
            have := of_decide_eq_false HT.out.symm
            exact HD.out.done fun k k0 km ke => by have := HMn.out k k0 km ke; omega)
          go_wp2
          go_ret
          exact ⟨_, rfl, HF8.out, l', HP.out, HR.out, HX.out, HV8.out⟩
        · have HD3 : Hid (DnOk (swp l' i j) m j) := Lib.hid (HD.out.step hjm HJ.out HMn.out (of_decide_eq_true HT.out.symm))
          have HX3 : Hid (hx (swp l' i j) m = hx l m) := Lib.hid (by rw [hx_swp (by omega) (by omega), if_neg (by omega), if_neg (by omega)]; exact HX.out)
          have HP3 : Hid ((swp l' i j).Perm l) := Lib.hid ((swp_perm (by omega) (by omega)).trans HP.out)
          go_wp2_with fail
          refine (hSwap_any HV8.out (i := i) (k := j) (by omega) (by omega)).mono ?_
          rintro e w9 ⟨rfl, hf9, hv9⟩
          have HV9 := Lib.hid hv9
          have HF9 := Lib.hid (HF8.out.trans' hf9 fun _ q _ => q)
          clear hf9 hv9
          go_wp2
          go_roundw
          case rel => exact ⟨j, swp l' i j, rfl, by omega, HP3.out, HD3.out, HX3.out, HF9.out, HV9.out⟩
          case measure => simp [intOf]; omega
end
#print axioms down_any
end Go.Proofs.Yteafkafkbipcmaa

namespace Go.Proofs.Yteafkafkbipcmaa
open Go.RowKit
set_option linter.unusedVariables false

/-- into its place in a rising row -/
def insS (n : Nat) : List Nat → List Nat
  | [] => [n]
  | x :: xs => if n < x then n :: x :: xs else x :: insS n xs
theorem insS_perm (n : Nat) : ∀ Q : List Nat, (insS n Q).Perm (n :: Q)
  | [] => List.Perm.refl _
  | x :: xs => by
    unfold insS
    split
    · exact List.Perm.refl _
    · exact ((insS_perm n xs).cons x).trans (List.Perm.swap n x xs)
theorem mem_insS {n y : Nat} {Q : List Nat} : y ∈ insS n Q ↔ y = n ∨ y ∈ Q := by rw [(insS_perm n Q).mem_iff, List.mem_cons]
theorem insS_len (n : Nat) (Q : List Nat) : (insS n Q).length = Q.length + 1 := by rw [(insS_perm n Q).length_eq]; rfl
theorem insS_asc {n : Nat} : ∀ {Q : List Nat}, Q.Pairwise (fun a b => a < b) → n ∉ Q → (insS n Q).Pairwise fun a b => a < b
  | [], _, _ => by simp [insS]
  | x :: xs, h, hn => by
    obtain ⟨h1, h2⟩ := List.pairwise_cons.1 h
    unfold insS
    split
    · rename_i hlt
      refine List.pairwise_cons.2 ⟨fun y hy => ?_, h⟩
      rcases List.mem_cons.1 hy with e | e
      · rw [e]; exact hlt
      · exact Nat.lt_trans hlt (h1 y e)
    · rename_i hge
      refine List.pairwise_cons.2 ⟨fun y hy => ?_, insS_asc h2 fun e => hn (List.mem_cons_of_mem _ e)⟩
      rcases mem_insS.1 hy with e | e
      · rw [e]
        have : n ≠ x := fun e => hn (by rw [e]; simp)
        omega
      · exact h1 y e
/-- the line: a heap, of the numbers of a rising row -/
def LeastV (hb lo : Nat) (w : World) (F : Nat → Prop) (Q : List Nat) : Prop := ∃ v l, HpV w lo hb v l ∧ HeapL l l.length ∧ l.Perm Q ∧ Q.Pairwise (fun a b => a < b) ∧ F = HpS hb v
theorem HpV.keep {w w' : World} {lo hb : Nat} {v : Value} {l : List Nat} {S : Nat → Prop} (h : HpV w lo hb v l) (hf : Fx S w w') (hd : ∀ x, HpS hb v x → ¬ S x) : HpV w' lo hb v l :=
  ⟨hf.cell' h.cell (hd hb (.inl rfl)), (hf.cellF h.cell h.fz (hd hb (.inl rfl))).2, ownsRow_fx h.own hf fun k e => hd k (.inr e), h.ne, h.lo⟩
theorem LeastV.keep {hb lo : Nat} {w w' : World} {F S : Nat → Prop} {Q : List Nat} (h : LeastV hb lo w F Q) (hf : Fx S w w') (hd : ∀ x, F x → ¬ S x) : LeastV hb lo w' F Q := by
  obtain ⟨v, l, h1, h2, h3, h4, rfl⟩ := h
  exact ⟨v, l, h1.keep hf hd, h2, h3, h4, rfl⟩
theorem LeastV.lt {hb lo : Nat} {w : World} {F : Nat → Prop} {Q : List Nat} (h : LeastV hb lo w F Q) : ∀ x, F x → lo ≤ x ∧ x < w.heap.size := by
  obtain ⟨v, l, h1, h2, h3, h4, rfl⟩ := h
  intro x hx
  rcases hx with e | e
  · rw [e]; exact ⟨h1.lo, World.block_lt_of_cell? w _ h1.cell⟩
  · exact World.ownsRow.lt h1.own x e
section
variable {w w' : World} {lo hb : Nat} {v : Value} {l Q : List Nat} {F : Nat → Prop}
set_option maxRecDepth 100000 in
set_option maxHeartbeats 4000000 in
theorem heapPush_any (h : HpV w lo hb v l) (hh : HeapL l l.length) (hl : l.length ≤ 1000000) (x : Nat) : Calls Try.prog 91 #[.iface 71 (.pointer (some ⟨hb, 0, none⟩)), .iface 3 (.int .i64 (x : Nat))] w fun e w' => ∃ v' l', e = .returned (.tuple #[]) ∧ Fx (HpS hb v) w w' ∧ HpV w' lo hb v' l' ∧ l'.Perm (x :: l) ∧ HeapL l' l'.length ∧ (∀ g, v'.ownBlock = some g → v.ownBlock = some g ∨ w.heap.size ≤ g) := by
  have H := Lib.hid h
  have HH := Lib.hid hh
  have m1 := m_Push ⟨hb, 0, none⟩
  have m2 := m_Len ⟨hb, 0, none⟩
  have HLl := Lib.hid hl
  clear h hh
  go_enter Try.func91, Try.ntmps91
  go_wp2_with fail
  refine (hPush_any H.out HLl.out x).mono ?_
  rintro e w1 ⟨v1, rfl, hf1, hv1, hb1⟩
  have HF1 := Lib.hid hf1
  have HV1 := Lib.hid hv1
  have HB1 := Lib.hid hb1
  have hll : (l ++ [x]).length = l.length + 1 := by simp
  have HLn := Lib.hid hll
  clear hf1 hv1 hb1 hll
  go_wp2_with fail
  refine (hLen_any HV1.out).mono ?_
  rw [HLn.out]
  rintro e w2 ⟨rfl, rfl⟩
  go_wp2_with fail
  refine (up_any HV1.out (j := l.length) (by rw [HLn.out]; exact HH.out.up)).mono ?_
  rintro e w3 ⟨rfl, hf3, l3, hp3, hh3, hv3⟩
  have HFin : Hid (Fx (HpS hb v) w w3) := Lib.hid (HF1.out.trans' hf3 fun j e hl => by
    rcases HB1.out j e with q | q
    · exact .inr q
    · omega)
  have HR : Hid (HpV w3 lo hb v1 l3 ∧ l3.Perm (x :: l) ∧ HeapL l3 l3.length) := Lib.hid ⟨hv3, hp3.trans (List.perm_append_comm), hh3⟩
  clear hf3 hp3 hh3 hv3
  go_wp2
  go_end0
  exact ⟨v1, l3, rfl, HFin.out, HR.out.1, HR.out.2.1, HR.out.2.2, HB1.out⟩
set_option maxRecDepth 100000 in
set_option maxHeartbeats 4000000 in
theorem heapPop_any (h : HpV w lo hb v l) (hh : HeapL l l.length) (hl : l.length ≤ 1000000) (h0 : 0 < l.length) : Calls Try.prog 90 #[.iface 71 (.pointer (some ⟨hb, 0, none⟩))] w fun e w' => ∃ v' l', e = .returned (.iface 3 (.int .i64 (hx l 0 : Nat))) ∧ Fx (HpS hb v) w w' ∧ HpV w' lo hb v' l' ∧ (hx l 0 :: l').Perm l ∧ HeapL l' l'.length ∧ (∀ g, v'.ownBlock = some g → v.ownBlock = some g) := by
  have H := Lib.hid h
  have HH := Lib.hid hh
  have m1 := m_Swap ⟨hb, 0, none⟩
  have m2 := m_Len ⟨hb, 0, none⟩
  have m3 := m_Pop ⟨hb, 0, none⟩
  obtain ⟨m, hm⟩ : ∃ m, l.length = m + 1 := ⟨l.length - 1, by omega⟩
  have hm6 : m ≤ 1000000 := by omega
  have HM := Lib.hid hm
  clear h hh hl h0 hm
  go_enter Try.func90, Try.ntmps90
  go_wp2_with fail
  refine (hLen_any H.out).mono ?_
  rw [HM.out]
  rintro e w1 ⟨rfl, rfl⟩
  go_wp2_with fail
  refine (hSwap_any H.out (i := 0) (k := m) (by rw [HM.out]; omega) (by rw [HM.out]; omega)).mono ?_
  rintro e w2 ⟨rfl, hf2, hv2⟩
  have HF2 := Lib.hid hf2
  have HV2 := Lib.hid hv2
  clear hf2 hv2
  go_wp2_with fail
  refine (down_any HV2.out (m := m) (by rw [swp_len]; exact HM.out) hm6 (HeapL.down (by rw [← HM.out]; exact HH.out) HM.out)).mono ?_
  rintro e w3 ⟨b3, rfl, hf3, l3, hp3, hh3, hx3, hv3⟩
  have hl3 : l3.length = m + 1 := by rw [hp3.length_eq, swp_len, HM.out]
  have hx4 : hx l3 m = hx l 0 := by rw [hx3, hx_swp (by rw [HM.out]; omega) (by rw [HM.out]; omega), if_pos rfl]
  have hsp : l3.take m ++ [hx l 0] = l3 := by
    rw [← hx4, hx_at (by omega)]
    have := List.take_append_getElem (l := l3) (i := m) (by omega)
    rw [this, List.take_of_length_le (by omega)]
  obtain ⟨l4, hl4⟩ : ∃ l4, l4 = l3.take m := ⟨_, rfl⟩
  rw [← hl4] at hsp
  have hll4 : l4.length = m := by rw [hl4, List.length_take]; omega
  have HV3 : Hid (HpV w3 lo hb v (l4 ++ [hx l 0])) := Lib.hid (by rw [hsp]; exact hv3)
  have HF3 := Lib.hid (HF2.out.trans' hf3 fun _ q _ => q)
  have HP3 : Hid ((hx l 0 :: l4).Perm l) := Lib.hid (by
    have h1 : (l4 ++ [hx l 0]).Perm l := by rw [hsp]; exact hp3.trans (swp_perm (by rw [HM.out]; omega) (by rw [HM.out]; omega))
    exact (List.perm_append_comm (l₁ := [hx l 0])).trans h1)
  have HH4 : Hid (HeapL l4 l4.length) := Lib.hid fun k k0 km => by
    have e : ∀ q, q < m → hx l4 q = hx l3 q := fun q hq => by rw [hl4]; simp [hx, List.getD, hq]
    rw [hll4] at km
    rw [e k km, e _ (by omega)]
    exact hh3 k k0 km
  clear hf3 hp3 hh3 hx3 hv3 hl3 hx4 hsp hl4 hll4
  go_wp2_with fail
  refine (hPop_any HV3.out).mono ?_
  rintro e w4 ⟨v4, rfl, hf4, hv4, hb4⟩
  have HFin : Hid (Fx (HpS hb v) w w4) := Lib.hid ((HF3.out.mono fun _ _ q => Or.inr q).trans hf4)
  have HV4 := Lib.hid hv4
  have HB4 := Lib.hid hb4
  clear hf4 hv4 hb4
  go_wp2
  go_ret
  exact ⟨v4, l4, rfl, HFin.out, HV4.out, HP3.out, HH4.out, HB4.out⟩
theorem lPush_any (h : LeastV hb lo w F Q) (hl : Q.length ≤ 100000) (n : Nat) (hn : n ∉ Q) : Calls Try.prog 88 #[.pointer (some ⟨hb, 0, none⟩), .int .i64 (n : Nat)] w fun e w' => e = .returned (.tuple #[]) ∧ Fx F w w' ∧ ∃ F', LeastV hb lo w' F' (insS n Q) ∧ ∀ x, F' x → F x ∨ w.heap.size ≤ x := by
  obtain ⟨v, l, h1, h2, h3, h4, rfl⟩ := h
  have HC := Lib.hid (heapPush_any h1 h2 (by rw [h3.length_eq]; omega) n)
  have HP := Lib.hid h3
  have HA := Lib.hid (insS_asc h4 hn)
  clear h1 h2 h3 h4
  go_enter Try.func88, Try.ntmps88
  go_wp2_with fail
  refine HC.out.mono ?_
  rintro e w1 ⟨v', l', rfl, hf, hv, hp, hh, hb'⟩
  have HF := Lib.hid hf
  have HR : Hid (∃ F', LeastV hb lo w1 F' (insS n Q) ∧ ∀ x, F' x → HpS hb v x ∨ w.heap.size ≤ x) := Lib.hid ⟨HpS hb v', ⟨v', l', hv, hh, hp.trans ((HP.out.cons n).trans (insS_perm n Q).symm), HA.out, rfl⟩, fun x hx => by
    rcases hx with e | e
    · exact .inl (.inl e)
    · exact (hb' x e).imp_left .inr⟩
  clear hf hv hp hh hb'
  go_wp2
  go_end0
  exact ⟨rfl, HF.out, HR.out⟩
theorem lPop_any {n : Nat} (h : LeastV hb lo w F (n :: Q)) (hl : Q.length ≤ 100000) : Calls Try.prog 87 #[.pointer (some ⟨hb, 0, none⟩)] w fun e w' => e = .returned (.int .i64 (n : Nat)) ∧ Fx F w w' ∧ ∃ F', LeastV hb lo w' F' Q ∧ ∀ x, F' x → F x ∨ w.heap.size ≤ x := by
  obtain ⟨v, l, h1, h2, h3, h4, rfl⟩ := h
  have hll : l.length = Q.length + 1 := by rw [h3.length_eq]; rfl
  have HC := Lib.hid (heapPop_any h1 h2 (by omega) (by omega))
  obtain ⟨a1, a2⟩ := List.pairwise_cons.1 h4
  have hmin : hx l 0 = n := by
    have q1 : hx l 0 ∈ n :: Q := h3.mem_iff.1 (hx_mem (by omega))
    have q2 : n ≤ hx l 0 := by
      rcases List.mem_cons.1 q1 with e | e
      · omega
      · exact Nat.le_of_lt (a1 _ e)
    have q3 : n ∈ l := h3.mem_iff.2 (by simp)
    obtain ⟨i, hi, e⟩ := List.getElem_of_mem q3
    have := h2.head i hi
    rw [hx_at hi, e] at this
    omega
  rw [hmin] at HC
  have HP := Lib.hid h3
  have HA := Lib.hid a2
  have hta := ta_int
  clear h1 h2 h3 h4 a1 a2 hmin hll
  go_enter Try.func87, Try.ntmps87
  go_wp2_with fail
  refine HC.out.mono ?_
  rintro e w1 ⟨v', l', rfl, hf, hv, hp, hh, hb'⟩
  have HF := Lib.hid hf
  have HR : Hid (∃ F', LeastV hb lo w1 F' Q ∧ ∀ x, F' x → HpS hb v x ∨ w.heap.size ≤ x) := Lib.hid ⟨HpS hb v', ⟨v', l', hv, hh, (List.perm_cons n).1 (hp.trans HP.out), HA.out, rfl⟩, fun x hx => by
    rcases hx with e | e
    · exact .inl (.inl e)
    · exact .inl (.inr (hb' x e))⟩
  clear hf hv hp hh hb'
  go_wp2
  go_ret
  exact ⟨rfl, HF.out, HR.out⟩
theorem lSome_any (h : LeastV hb lo w F Q) : Calls Try.prog 89 #[.pointer (some ⟨hb, 0, none⟩)] w fun e w' => e = .returned (.bool (decide (0 < Q.length))) ∧ w = w' := by
  obtain ⟨v, l, h1, h2, h3, h4, rfl⟩ := h
  rw [← h3.length_eq]
  obtain ⟨ao, cap, rfl, _⟩ := h1.slice
  have c0 := h1.cell
  clear h1 h2 h3 h4
  go_enter Try.func89, Try.ntmps89
  go_wp2
  go_ret
  exact ⟨by simp, rfl⟩
end
#print axioms lPush_any
#print axioms lPop_any
#print axioms lSome_any
end Go.Proofs.Yteafkafkbipcmaa

namespace Go.Proofs.Yteafkafkbipcmaa
open Go.RowKit
set_option linter.unusedVariables false

/-- a queue: a slice into a row of the call's own -/
def Qv (t : TypeId) (w : World) (base : Nat) (v : Value) (l : List Int) : Prop :=
  ∃ (g o cap : Nat) (cur : Array Value), v = .slice (some ⟨g, o, none⟩) l.length cap ∧ base ≤ g ∧ w.heap[g]? = some (.cells cur t (0, 0)) ∧ l.length ≤ cap ∧ cap ≤ maxLen ∧ o + cap ≤ cur.size ∧ ∀ k, k < l.length → cur[o + k]? = some (.int .i64 (gi l k))
section
variable {t : TypeId} {w w' : World} {base : Nat} {v : Value} {l : List Int} {S : Nat → Prop}
theorem Qv.keep (h : Qv t w base v l) (hf : Fx S w w') (hn : ∀ g, v.ownBlock = some g → ¬ S g) : Qv t w' base v l := by
  obtain ⟨g, o, cap, cur, rfl, h1, h2, h3, h4, h5, h6⟩ := h
  exact ⟨g, o, cap, cur, rfl, h1, hf.at_ h2 (hn g rfl), h3, h4, h5, h6⟩
theorem Qv.no (h : Qv t w base v l) (hf : Fx No w w') : Qv t w' base v l := h.keep hf fun _ _ h => h
theorem Qv.lt (h : Qv t w base v l) {j : Nat} (hj : v.ownBlock = some j) : base ≤ j ∧ j < w.heap.size := by
  obtain ⟨g, o, cap, cur, rfl, h1, h2, _⟩ := h
  obtain rfl : g = j := by simpa [Value.ownBlock] using hj
  exact ⟨h1, (Array.getElem?_eq_some_iff.1 h2).1⟩
/-- the first, and the rest -/
theorem Qv.front {x : Int} (h : Qv t w base v (x :: l)) : ∃ g o cap, v = .slice (some ⟨g, o, none⟩) (l.length + 1) cap ∧ base ≤ g ∧ g < w.heap.size ∧ l.length + 1 ≤ cap ∧ cap ≤ 9223372036854775807 ∧ w.cell? ⟨g, o, none⟩ = some (.int .i64 x) ∧
    Qv t w base (.slice (some (if cap = 1 then ⟨g, o, none⟩ else ⟨g, o + 1, none⟩)) l.length (cap - 1)) l := by
  obtain ⟨g, o, cap, cur, hv, h1, h2, h3, h4, h5, h6⟩ := h
  simp only [List.length_cons] at hv h3 h6
  have h4' := h4
  unfold maxLen at h4'
  refine ⟨g, o, cap, hv, h1, (Array.getElem?_eq_some_iff.1 h2).1, h3, by omega, ?_, ?_⟩
  · rw [cell_of_row _ _ _ _ _ _ h2]
    have := h6 0 (by omega)
    simpa [gi] using this
  · by_cases hc : cap = 1
    · rw [if_pos hc]
      have hl : l.length = 0 := by omega
      refine ⟨g, o, cap - 1, cur, rfl, h1, h2, by omega, by unfold maxLen; omega, by omega, fun k hk => by omega⟩
    · rw [if_neg hc]
      refine ⟨g, o + 1, cap - 1, cur, rfl, h1, h2, by omega, by unfold maxLen; omega, by omega, fun k hk => ?_⟩
      have := h6 (k + 1) (by omega)
      rw [show o + 1 + k = o + (k + 1) by omega, this]
      simp [gi]
theorem Qv.lit (w : World) (x : Int) : Qv t (w.alloc (.cells #[.int .i64 x] t)) w.heap.size (.slice (some ⟨w.heap.size, 0, none⟩) 1 1) [x] :=
  ⟨w.heap.size, 0, 1, #[.int .i64 x], rfl, Nat.le_refl _, by show (w.heap.push _)[w.heap.size]? = _; simp, Nat.le_refl _, by unfold maxLen; omega, by simp, fun k hk => by
    obtain rfl : k = 0 := by simp at hk; omega
    simp [gi]⟩
theorem setRow_fxQ (w : World) (g : Nat) (cs : Array Value) : Fx (fun j => j = g) w (w.setRow g cs) := ⟨rfl, rfl, rfl, by simp [World.setRow], fun k _ hn => setRow_other w g k cs hn⟩
theorem Qv.ofOwns (h : w.ownsRow base t 1 v l.length (ints l)) (h0 : 0 < l.length) : Qv t w base v l := by
  rcases h.2 with ⟨_, h2⟩ | ⟨g, cap, cur, hv, hb, hg, hnc, hcm, hcs, htake⟩
  · omega
  · refine ⟨g, 0, cap, cur, hv, hb, hg, hnc, hcm, by omega, fun k hk => ?_⟩
    have h3 : (cur.toList.take (l.length * 1))[k]? = some (.int .i64 (gi l k)) := by
      rw [htake]
      simp [ints, gi, hk]
    rw [List.getElem?_take_of_lt (by omega)] at h3
    rw [Nat.zero_add]
    simpa using h3
/-- one more behind it -/
theorem run_append_q {P : Program} {ts ty : TypeId} {i : TypeInfo} {z : Value} {bytes : Nat} (ht : P.underlying ts = some (.slice t)) (hi : P.info? t = some i) (hz : i.zero = some z) (hzs : z.cells.size = 1) (hs : i.size = 1) (hby : i.bytes = bytes) (hb8 : bytes = 8)
    (h : Qv t w base v l) (hl : l.length ≤ 1000000) {a : Addr} {c : Nat} {x : Int} (hx : w.cell? a = some (.int .i64 x)) (hb : base ≤ w.heap.size) :
    ∃ v' w', (Builtin.append_ #[ts, ts] ty #[v, .slice (some a) 1 c]).run P w = .ok v' w' ∧ Qv t w' base v' (l ++ [x]) ∧ Fx (fun j => v.ownBlock = some j) w w' ∧ ∀ g, v'.ownBlock = some g → v.ownBlock = some g ∨ w.heap.size ≤ g := by
  obtain ⟨g, o, cap, cur, rfl, h1, h2, h3, h4, h5, h6⟩ := h
  have hnews : ∀ j u, ([Value.int .i64 x])[j]? = some u → w.cell? (a.add j) = some u := fun j u hu => by
    match j, hu with
    | 0, hu =>
      simp at hu
      subst hu
      obtain ⟨ab, ao, ai⟩ := a
      exact hx
    | j + 1, hu => simp at hu
  by_cases hroom : l.length + 1 ≤ cap
  · have hf := run_firstCells_some (P := P) w 1 1 a 1 c [.int .i64 x] rfl hnews
    have hst := run_storeCells_at P g (o + l.length) t [.int .i64 x] 0 cur w h2 (by simp; omega) (by simp [Value.oneCell'])
    simp only [Nat.add_zero] at hst
    have hrun : (Builtin.append_ #[ts, ts] ty #[.slice (some ⟨g, o, none⟩) l.length cap, .slice (some a) 1 c]).run P w = .ok (.slice (some ⟨g, o, none⟩) (l.length + 1) cap) (w.setRow g (cur.toList.take (o + l.length) ++ [Value.int .i64 x] ++ cur.toList.drop (o + l.length + 1)).toArray) := by
      simp [Builtin.append_, run_underlying ht, sizeOf, typeInfo, hi, Builtin.lenOf, hroom, hs, hf, Addr.add_lit, hst]
    refine ⟨_, _, hrun, ?_, (setRow_fxQ w g _).mono fun k _ hk => (show (Value.slice (some ⟨g, o, none⟩) l.length cap).ownBlock = some k by rw [hk]; rfl), fun g' e => .inl e⟩
    refine ⟨g, o, cap, _, by rw [List.length_append]; rfl, h1, setRow_heap w g cur _ t _ h2, by simpa using hroom, h4, ?_, fun k hk => ?_⟩
    · simp; omega
    · have hlt : (cur.toList.take (o + l.length)).length = o + l.length := by rw [List.length_take]; simp; omega
      rw [List.getElem?_toArray, List.append_assoc]
      by_cases e : k < l.length
      · rw [List.getElem?_append_left (by rw [hlt]; omega), List.getElem?_take_of_lt (by omega)]
        have h7 := h6 k e
        rw [← Array.getElem?_toList] at h7
        rw [h7]
        simp [gi, List.getElem?_append_left e]
      · have e' : k = l.length := by simp at hk; omega
        subst e'
        rw [List.getElem?_append_right (by rw [hlt]; omega), hlt, Nat.sub_self]
        simp [gi]
  · have holds : ∀ j u, (ints l)[j]? = some u → w.cell? ((⟨g, o, none⟩ : Addr).add j) = some u := fun j u hu => by
      have hj : j < l.length := by have := (List.getElem?_eq_some_iff.1 hu).1; simpa [ints] using this
      rw [Addr.add_lit, cell_of_row _ _ _ _ _ _ h2, h6 j hj]
      simpa [ints, gi, hj] using hu
    obtain ⟨v', w', hr, ho, hg⟩ := run_append_arg_grows (P := P) w ts ty t i z 1 bytes ht hi hz hs hby hzs (by decide) ⟨g, o, none⟩ l.length cap (ints l) (by simp [ints]) holds a 1 c [.int .i64 x] rfl hnews (by omega) (by unfold maxLen; omega) (by subst hb8; omega)
    have ho' : w'.ownsRow w.heap.size t 1 v' (l ++ [x]).length (ints (l ++ [x])) := by simpa [ints] using ho
    have hq := Qv.ofOwns ho' (by simp)
    refine ⟨v', w', hr, ?_, Fx.ofGrown hg (by simp), fun g' e => .inr (hq.lt e).1⟩
    obtain ⟨g', o', cap', cur', k0, k1, k2⟩ := hq
    exact ⟨g', o', cap', cur', k0, by omega, k2⟩
/-- the walk's law -/
theorem wpList_append_q {P : Program} {ops : Array Oper} {rest : List Oper} {op : Oper} {ac : Act} {Q : Exit → Act → World → Prop} (hgd : op.guard = none) (s y : Operand) (ts : TypeId)
    (hop : op.op = .call { callee := .builtin .append, args := #[s, y], argTypes := #[ts, ts] })
    {i : TypeInfo} {z : Value} {bytes : Nat} (ht : P.underlying ts = some (.slice t)) (hi : P.info? t = some i) (hz : i.zero = some z) (hzs : z.cells.size = 1) (hs : i.size = 1) (hby : i.bytes = bytes) (hb8 : bytes = 8)
    (h : Qv t w base v l) (hl : l.length ≤ 1000000) {a : Addr} {c : Nat} {x : Int} (hx : w.cell? a = some (.int .i64 x)) (hb : base ≤ w.heap.size) (es : ac.eval s = v) (ey : ac.eval y = .slice (some a) 1 c)
    (hK : ∀ v' w', Qv t w' base v' (l ++ [x]) → Fx (fun j => v.ownBlock = some j) w w' → (∀ g, v'.ownBlock = some g → v.ownBlock = some g ∨ w.heap.size ≤ g) → wpList P ops Q rest (ac.put op.dst v') w') : wpList P ops Q (op :: rest) ac w := by
  obtain ⟨v', w', hr, g1, g2, g3⟩ := run_append_q (P := P) (ts := ts) (ty := op.type) ht hi hz hzs hs hby hb8 h hl (c := c) hx hb
  refine wpList_plain hgd fun K hK' => ?_
  unfold Oper.wp
  simp [execOp, hop, resolve, invoke, builtin, es, ey, hr, Result.andThen]
  exact hK' _ _ (hK v' w' g1 g2 g3)
end
#print axioms wpList_append_q
end Go.Proofs.Yteafkafkbipcmaa

namespace Go.Proofs.Yteafkafkbipcmaa
open Go.RowKit
set_option linter.unusedVariables false

/-- the line: a queue -/
def FirstV (hb lo : Nat) (w : World) (F : Nat → Prop) (Q : List Nat) : Prop := ∃ v, (w.cell? ⟨hb, 0, none⟩ = some v ∧ w.frozen? ⟨hb, 0, none⟩ = false) ∧ ((v = .slice none 0 0 ∧ Q = []) ∨ Qv 3 w lo v (nI Q)) ∧ (¬ v.ownBlock = some hb) ∧ lo ≤ hb ∧ F = HpS hb v
theorem FirstV.keep {hb lo : Nat} {w w' : World} {F S : Nat → Prop} {Q : List Nat} (h : FirstV hb lo w F Q) (hf : Fx S w w') (hd : ∀ x, F x → ¬ S x) : FirstV hb lo w' F Q := by
  obtain ⟨v, h1, h2, h3, h4, rfl⟩ := h
  refine ⟨v, hf.cellF h1.1 h1.2 (hd hb (.inl rfl)), ?_, h3, h4, rfl⟩
  rcases h2 with h2 | h2
  · exact .inl h2
  · exact .inr (h2.keep hf fun g e => hd g (.inr e))
theorem FirstV.lt {hb lo : Nat} {w : World} {F : Nat → Prop} {Q : List Nat} (h : FirstV hb lo w F Q) : ∀ x, F x → lo ≤ x ∧ x < w.heap.size := by
  obtain ⟨v, h1, h2, h3, h4, rfl⟩ := h
  intro x hx
  rcases hx with e | e
  · rw [e]; exact ⟨h4, World.block_lt_of_cell? w _ h1.1⟩
  · rcases h2 with ⟨h2, _⟩ | h2
    · rw [h2] at e; simp [Value.ownBlock] at e
    · exact h2.lt e
theorem FirstV.slice {hb lo : Nat} {w : World} {F : Nat → Prop} {Q : List Nat} (h : FirstV hb lo w F Q) : ∃ ao cap, w.cell? ⟨hb, 0, none⟩ = some (.slice ao Q.length cap) := by
  obtain ⟨v, h1, h2, h3, h4, rfl⟩ := h
  rcases h2 with ⟨rfl, rfl⟩ | ⟨g, o, cap, cur, rfl, _⟩
  · exact ⟨none, 0, h1.1⟩
  · rw [nI_len] at h1; exact ⟨_, cap, h1.1⟩
section
variable {w w' : World} {lo hb : Nat} {Q : List Nat} {F : Nat → Prop}
theorem fSome_any (h : FirstV hb lo w F Q) : Calls Try.prog 85 #[.pointer (some ⟨hb, 0, none⟩)] w fun e w' => e = .returned (.bool (decide (0 < Q.length))) ∧ w = w' := by
  obtain ⟨ao, cap, c0⟩ := h.slice
  clear h
  go_enter Try.func85, Try.ntmps85
  go_wp2
  go_ret
  exact ⟨by simp, rfl⟩
set_option maxRecDepth 100000 in
set_option maxHeartbeats 4000000 in
theorem fPush_any (h : FirstV hb lo w F Q) (hl : Q.length ≤ 100000) (n : Nat) (hn : n ≤ 1000000) : Calls Try.prog 84 #[.pointer (some ⟨hb, 0, none⟩), .int .i64 (n : Nat)] w fun e w' => e = .returned (.tuple #[]) ∧ Fx F w w' ∧ ∃ F', FirstV hb lo w' F' (Q ++ [n]) ∧ ∀ x, F' x → F x ∨ w.heap.size ≤ x := by
  obtain ⟨ii, hi, hz, hs, hb8⟩ := info_parts info_int'
  obtain ⟨v, ⟨c0, z0⟩, h2, h3, h4, rfl⟩ := h
  have hbl : hb < w.heap.size := World.block_lt_of_cell? w _ c0
  -- what an append hands over, stored
  have HEnd : Hid (∀ (v' : Value) (W w2 : World), Fx No w W → Fx (fun j => v.ownBlock = some j) W w2 → Qv 3 w2 lo v' (nI (Q ++ [n])) → (∀ g, v'.ownBlock = some g → v.ownBlock = some g ∨ W.heap.size ≤ g) → (w2.cell? ⟨hb, 0, none⟩ = some v ∧ w2.frozen? ⟨hb, 0, none⟩ = false) ∧ Fx (HpS hb v) w (w2.setCell ⟨hb, 0, none⟩ v') ∧ ∃ F', FirstV hb lo (w2.setCell ⟨hb, 0, none⟩ v') F' (Q ++ [n]) ∧ ∀ x, F' x → HpS hb v x ∨ w.heap.size ≤ x) := Lib.hid fun v' W w2 hW hf hq hb2 => by
    have hfa : Fx (fun j => v.ownBlock = some j) w w2 := hW.no.trans hf
    have q4 := hfa.cellF c0 z0 h3
    have hzW := hW.size
    have hnv : ¬ v'.ownBlock = some hb := fun e => by
      rcases hb2 hb e with q | q
      · exact h3 q
      · omega
    have hp : Fx (fun x => x = hb) w2 (w2.setCell ⟨hb, 0, none⟩ v') := Fx.put _ _ _ _
    refine ⟨q4, (hfa.mono fun _ _ q => Or.inr q).trans (hp.mono fun _ _ q => Or.inl q), HpS hb v', ⟨v', ⟨World.cell?_setCell_same _ _ _ q4.1, by simpa using q4.2⟩, .inr (hq.keep hp fun g e e2 => hnv (by have e2 : g = hb := e2; rw [← e2]; exact e)), hnv, h4, rfl⟩, fun x hx => ?_⟩
    rcases hx with e | e
    · exact .inl (.inl e)
    · rcases hb2 x e with q | q
      · exact .inl (.inr q)
      · exact .inr (by omega)
  have hnI : nI (Q ++ [n]) = nI Q ++ [(n : Int)] := by rw [nI_app]; rfl
  rcases h2 with ⟨rfl, rfl⟩ | h2
  · have HNe : Hid (nI ([] ++ [n]) = [(n : Int)]) := Lib.hid rfl
    clear h3 hnI
    go_enter Try.func84, Try.ntmps84
    go_wp2_with (at_builtin; refine wpList_append_kept rfl _ _ 32 rfl lo 3 Try.underlying32 hi hz hs hb8 rfl (by decide) rfl (World.ownsRow.alloc (World.ownsRow_nil w lo 3 1) _) rfl (SlV.lit _ 3 #[.int .i64 _] 1 1 rfl (by unfold maxLen; omega)) (ints_one [_]) (by omega) (by unfold maxLen; omega) (by omega) (by simp; omega) ?_)
    intro v6 w6 ho6 hf6 hk6 hb6
    obtain ⟨g6, c6, rfl, _, _⟩ := ownsRow_pos ho6 (by omega)
    obtain ⟨⟨k1, k2⟩, hN1, hN2⟩ := HEnd.out _ _ w6 ((Fx.refl No w).alloc _) hf6 (by rw [HNe.out]; exact Qv.ofOwns ho6 (by simp)) (fun q e => by rw [World.size_alloc]; exact hb6 q e)
    have HN1 := Lib.hid hN1
    have HN2 := Lib.hid hN2
    clear ho6 hf6 hk6 hb6 HEnd hN1 hN2 c0 z0
    go_wp2
    go_end0
    exact ⟨rfl, HN1.out, HN2.out⟩
  · have HQ : Hid (Qv 3 w lo v (nI Q)) := Lib.hid h2
    obtain ⟨g, o, cap, cur, hv, _⟩ := h2
    rw [nI_len] at hv
    subst hv
    have HNi := Lib.hid hnI
    clear h3 hnI
    go_enter Try.func84, Try.ntmps84
    go_wp2_with (at_builtin; refine wpList_append_q rfl (.tmp 8) (.tmp 10) 32 rfl Try.underlying32 hi hz rfl hs hb8 rfl (HQ.out.no ((Fx.refl _ _).alloc _)) (by rw [nI_len]; omega) (a := ⟨w.heap.size, 0, none⟩) (c := 1) (x := (n : Int)) (by simp) (by simp; omega) (by simp [Act.eval]) (by simp [Act.eval]) ?_)
    intro v6 w6 hq6 hf6 hb6
    obtain ⟨g6, o6, c6, cur6, hv6, _⟩ := id hq6
    obtain ⟨n6, hn6⟩ : ∃ x, x = (nI Q ++ [(n : Int)]).length := ⟨_, rfl⟩
    rw [← hn6] at hv6
    subst hv6
    clear hn6
    obtain ⟨⟨k1, k2⟩, hN1, hN2⟩ := HEnd.out _ _ w6 ((Fx.refl No w).alloc _) hf6 (by rw [HNi.out]; exact hq6) (fun q e => by rw [World.size_alloc]; exact hb6 q e)
    have HN1 := Lib.hid hN1
    have HN2 := Lib.hid hN2
    clear hq6 hf6 hb6 HEnd hN1 hN2 c0 z0
    go_wp2
    go_end0
    exact ⟨rfl, HN1.out, HN2.out⟩
set_option maxRecDepth 100000 in
set_option maxHeartbeats 4000000 in
theorem fPop_any {n : Nat} (h : FirstV hb lo w F (n :: Q)) (hl : Q.length ≤ 100000) : Calls Try.prog 83 #[.pointer (some ⟨hb, 0, none⟩)] w fun e w' => e = .returned (.int .i64 (n : Nat)) ∧ Fx F w w' ∧ ∃ F', FirstV hb lo w' F' Q ∧ ∀ x, F' x → F x ∨ w.heap.size ≤ x := by
  obtain ⟨v, ⟨c0, z0⟩, h2, h3, h4, rfl⟩ := h
  rcases h2 with ⟨_, h2⟩ | h2
  · cases h2
  · have h2 : Qv 3 w lo v ((n : Int) :: nI Q) := h2
    obtain ⟨g, o, cap, rfl, g1, g2, g3, g4, g5, g6⟩ := h2.front
    rw [nI_len] at c0 g3 g6 h3 ⊢
    obtain ⟨m, hm⟩ : ∃ m, m = Q.length := ⟨_, rfl⟩
    rw [← hm] at c0 g3 g6 h3 hl ⊢
    have hgb : ¬ g = hb := fun e => h3 (by rw [e]; rfl)
    have HN : Hid (∀ v', Qv 3 w lo v' (nI Q) → v'.ownBlock = some g → Fx (HpS hb (.slice (some ⟨g, o, none⟩) (m + 1) cap)) w (w.setCell ⟨hb, 0, none⟩ v') ∧ ∃ F', FirstV hb lo (w.setCell ⟨hb, 0, none⟩ v') F' Q ∧ ∀ x, F' x → HpS hb (.slice (some ⟨g, o, none⟩) (m + 1) cap) x ∨ w.heap.size ≤ x) := Lib.hid fun v' hq he => by
      have hp : Fx (fun x => x = hb) w (w.setCell ⟨hb, 0, none⟩ v') := Fx.put _ _ _ _
      have hne : ¬ v'.ownBlock = some hb := fun e => by rw [he] at e; exact hgb (by simpa using e)
      refine ⟨hp.mono fun _ _ q => Or.inl q, HpS hb v', ⟨v', ⟨World.cell?_setCell_same _ _ _ c0, by simpa using z0⟩, .inr (hq.keep hp fun q e e2 => hne (by have e2 : q = hb := e2; rw [← e2]; exact e)), hne, h4, rfl⟩, fun x hx => ?_⟩
      rcases hx with e | e
      · exact .inl (.inl e)
      · exact .inl (.inr (by rw [he] at e; exact e))
    have i0 : (0 : Int) < (m : Int) + 1 := by omega
    have i1 : (1 : Int) ≤ (m : Int) + 1 := by omega
    have hm6 : m ≤ 100000 := hl
    by_cases hc : cap = 1
    · subst hc
      obtain rfl : m = 0 := by omega
      rw [if_pos rfl] at g6
      have HN2 := Lib.hid (HN.out _ g6 rfl)
      clear h2 g6 HN hm h3 hgb
      go_enter Try.func83, Try.ntmps83
      go_wp2
      go_ret
      exact ⟨rfl, HN2.out.1, HN2.out.2⟩
    · rw [if_neg hc] at g6
      have HN2 := Lib.hid (HN.out _ g6 rfl)
      have hc1 : ¬ 1 = cap := fun e => hc e.symm
      clear h2 g6 HN hm h3 hgb
      go_enter Try.func83, Try.ntmps83
      go_wp2
      go_ret
      exact ⟨rfl, HN2.out.1, HN2.out.2⟩
end
#print axioms fSome_any
#print axioms fPush_any
#print axioms fPop_any
end Go.Proofs.Yteafkafkbipcmaa
