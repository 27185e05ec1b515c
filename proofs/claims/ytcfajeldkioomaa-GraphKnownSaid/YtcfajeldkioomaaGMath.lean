/- Sorted rows of edges: plain. -/
import Derived.Test.YtcfajeldkioomaaTRows
namespace Go.Proofs.Ytcfajeldkioomaa
set_option linter.unusedVariables false

/-- one edge is ahead of another one -/
def Ed.lt (a b : Ed) : Prop := a.f < b.f ∨ (a.f = b.f ∧ (a.t < b.t ∨ (a.t = b.t ∧ a.l < b.l)))
instance (a b : Ed) : Decidable (Ed.lt a b) := by unfold Ed.lt; infer_instance
theorem Ed.lt_irrefl (a : Ed) : ¬ a.lt a := by unfold Ed.lt; omega
theorem Ed.lt_trans {a b c : Ed} (h1 : a.lt b) (h2 : b.lt c) : a.lt c := by unfold Ed.lt at *; omega
theorem Ed.lt_asymm {a b : Ed} (h1 : a.lt b) (h2 : b.lt a) : False := Ed.lt_irrefl a (Ed.lt_trans h1 h2)
theorem Ed.ext' {a b : Ed} (h1 : a.f = b.f) (h2 : a.t = b.t) (h3 : a.l = b.l) : a = b := by cases a; cases b; simp_all
theorem Ed.lt_or {a b : Ed} (h : a ≠ b) : a.lt b ∨ b.lt a := by
  have : ¬ (a.f = b.f ∧ a.t = b.t ∧ a.l = b.l) := fun ⟨x, y, z⟩ => h (Ed.ext' x y z)
  unfold Ed.lt
  omega
/-- how two edges compare -/
def cmpE (a b : Ed) : Int := if a = b then 0 else if a.lt b then -1 else 1
theorem cmpE_neg {a b : Ed} : cmpE a b < 0 ↔ a.lt b := by
  unfold cmpE
  by_cases h : a = b
  · subst h; simp [Ed.lt_irrefl]
  · rw [if_neg h]; by_cases h2 : a.lt b <;> simp [h2]
theorem cmpE_zero {a b : Ed} : cmpE a b = 0 ↔ a = b := by
  unfold cmpE
  by_cases h : a = b
  · simp [h]
  · rw [if_neg h]; by_cases h2 : a.lt b <;> simp [h2, h]
def Asc (l : List Ed) : Prop := l.Pairwise Ed.lt
theorem Asc.nil : Asc [] := List.Pairwise.nil
theorem Asc.cons {x : Ed} {l : List Ed} : Asc (x :: l) ↔ (∀ y ∈ l, x.lt y) ∧ Asc l := List.pairwise_cons
theorem Asc.filter {l : List Ed} (h : Asc l) (p : Ed → Bool) : Asc (l.filter p) := List.Pairwise.filter p h
theorem Asc.nodup {l : List Ed} (h : Asc l) : l.Nodup := by
  refine List.Pairwise.imp ?_ h
  intro a b h e
  subst e
  exact Ed.lt_irrefl a h
/-- sorted rows with the same edges are the same -/
theorem Asc.same : ∀ {a b : List Ed}, Asc a → Asc b → (∀ x, x ∈ a ↔ x ∈ b) → a = b
  | [], [], _, _, _ => rfl
  | [], y :: b, _, _, h => absurd ((h y).2 (by simp)) (by simp)
  | x :: a, [], _, _, h => absurd ((h x).1 (by simp)) (by simp)
  | x :: a, y :: b, ha, hb, h => by
    obtain ⟨ha1, ha2⟩ := Asc.cons.1 ha
    obtain ⟨hb1, hb2⟩ := Asc.cons.1 hb
    have e : x = y := by
      rcases List.mem_cons.1 ((h x).1 (by simp)) with e | e
      · exact e
      · rcases List.mem_cons.1 ((h y).2 (by simp)) with e' | e'
        · exact e'.symm
        · exact absurd (ha1 y e') fun q => Ed.lt_asymm q (hb1 x e)
    subst e
    congr 1
    refine Asc.same ha2 hb2 fun z => ?_
    constructor
    · intro hz
      rcases List.mem_cons.1 ((h z).1 (by simp [hz])) with e | e
      · subst e; exact absurd (ha1 z hz) (Ed.lt_irrefl z)
      · exact e
    · intro hz
      rcases List.mem_cons.1 ((h z).2 (by simp [hz])) with e | e
      · subst e; exact absurd (hb1 z hz) (Ed.lt_irrefl z)
      · exact e
/-- an edge more -/
def insE (e : Ed) : List Ed → List Ed
  | [] => [e]
  | x :: l => if e.lt x then e :: x :: l else if e = x then x :: l else x :: insE e l
theorem mem_insE {e x : Ed} : ∀ {l : List Ed}, x ∈ insE e l ↔ x = e ∨ x ∈ l
  | [] => by simp [insE]
  | y :: l => by
    unfold insE
    split
    · simp
    · split
      · rename_i h; subst h; simp
      · rw [List.mem_cons, mem_insE (l := l), List.mem_cons]
        constructor
        · rintro (h | h | h)
          · exact .inr (.inl h)
          · exact .inl h
          · exact .inr (.inr h)
        · rintro (h | h | h)
          · exact .inr (.inl h)
          · exact .inl h
          · exact .inr (.inr h)
theorem Asc.ins {e : Ed} : ∀ {l : List Ed}, Asc l → Asc (insE e l)
  | [], _ => by simp [insE, Asc]
  | y :: l, h => by
    obtain ⟨h1, h2⟩ := Asc.cons.1 h
    unfold insE
    split
    · rename_i hlt
      refine Asc.cons.2 ⟨?_, h⟩
      intro z hz
      rcases List.mem_cons.1 hz with rfl | hz
      · exact hlt
      · exact Ed.lt_trans hlt (h1 z hz)
    · split
      · exact h
      · rename_i hn hne
        refine Asc.cons.2 ⟨?_, Asc.ins h2⟩
        intro z hz
        rcases mem_insE.1 hz with rfl | hz
        · exact (Ed.lt_or hne).resolve_left hn
        · exact h1 z hz
theorem insE_mem {e : Ed} {l : List Ed} (h : Asc l) (he : e ∈ l) : insE e l = l :=
  Asc.same h.ins h fun x => by rw [mem_insE]; exact ⟨fun q => q.elim (fun q => q ▸ he) id, .inr⟩
/-- an edge less -/
def delE (e : Ed) (l : List Ed) : List Ed := l.filter fun x => !decide (x = e)
theorem mem_delE {e x : Ed} {l : List Ed} : x ∈ delE e l ↔ x ∈ l ∧ x ≠ e := by simp [delE]
theorem Asc.del {e : Ed} {l : List Ed} (h : Asc l) : Asc (delE e l) := h.filter _
theorem delE_not {e : Ed} {l : List Ed} (he : e ∉ l) : delE e l = l := by
  unfold delE
  rw [List.filter_eq_self]
  intro x hx
  simp
  rintro rfl
  exact he hx
/-- how many are ahead of an edge -/
def posE (e : Ed) (l : List Ed) : Nat := (l.filter fun x => decide (x.lt e)).length
theorem posE_cons (e x : Ed) (l : List Ed) : posE e (x :: l) = (if x.lt e then 1 else 0) + posE e l := by
  unfold posE
  by_cases h : x.lt e <;> simp [h]; omega
theorem posE_le (e : Ed) (l : List Ed) : posE e l ≤ l.length := List.length_filter_le _ _
theorem posE_zero {e : Ed} {l : List Ed} (h : ∀ y ∈ l, ¬ y.lt e) : posE e l = 0 := by
  unfold posE
  rw [List.length_eq_zero_iff, List.filter_eq_nil_iff]
  intro y hy
  simpa using h y hy
/-- where an edge goes -/
theorem lt_posE {e : Ed} : ∀ {l : List Ed}, Asc l → ∀ {k : Nat} {x : Ed}, l[k]? = some x → (x.lt e ↔ k < posE e l)
  | [], _, k, x, hx => by simp at hx
  | y :: l, h, k, x, hx => by
    obtain ⟨h1, h2⟩ := Asc.cons.1 h
    rw [posE_cons]
    by_cases hy : y.lt e
    · rw [if_pos hy]
      cases k with
      | zero => simp at hx; subst hx; simp [hy]; omega
      | succ k =>
        simp only [List.getElem?_cons_succ] at hx
        rw [lt_posE h2 hx]; omega
    · rw [if_neg hy]
      have hz : posE e l = 0 := posE_zero fun z hz q => hy (Ed.lt_trans (h1 z hz) q)
      rw [hz]
      cases k with
      | zero => simp at hx; subst hx; simp [hy]
      | succ k =>
        simp only [List.getElem?_cons_succ] at hx
        have hm := h1 x (List.mem_of_getElem? hx)
        constructor
        · intro q; exact absurd (Ed.lt_trans hm q) hy
        · omega
theorem insE_at {e : Ed} : ∀ {l : List Ed}, Asc l → e ∉ l → insE e l = l.take (posE e l) ++ e :: l.drop (posE e l)
  | [], _, _ => by simp [insE, posE]
  | y :: l, h, hn => by
    obtain ⟨h1, h2⟩ := Asc.cons.1 h
    have hne : e ≠ y := fun q => hn (by simp [q])
    have hnl : e ∉ l := fun q => hn (by simp [q])
    unfold insE
    rw [posE_cons]
    by_cases hy : e.lt y
    · have hz : posE e l = 0 := posE_zero fun z hz q => Ed.lt_asymm (Ed.lt_trans hy (h1 z hz)) q
      rw [if_pos hy, if_neg (fun q => Ed.lt_asymm hy q), hz]
      simp
    · have hye : y.lt e := (Ed.lt_or hne).resolve_left hy
      rw [if_neg hy, if_neg hne, if_pos hye, insE_at h2 hnl, Nat.add_comm 1]
      simp
theorem posE_mem {e : Ed} : ∀ {l : List Ed}, Asc l → e ∈ l → l[posE e l]? = some e
  | [], _, he => by simp at he
  | y :: l, h, he => by
    obtain ⟨h1, h2⟩ := Asc.cons.1 h
    rw [posE_cons]
    rcases List.mem_cons.1 he with rfl | he
    · have hz : posE e l = 0 := posE_zero fun z hz q => Ed.lt_asymm (h1 z hz) q
      rw [if_neg (Ed.lt_irrefl e), hz]; simp
    · rw [if_pos (h1 e he), Nat.add_comm 1, List.getElem?_cons_succ]
      exact posE_mem h2 he
theorem mem_posE {e : Ed} {l : List Ed} (h : Asc l) : e ∈ l ↔ l[posE e l]? = some e := ⟨posE_mem h, List.mem_of_getElem?⟩
theorem delE_at {e : Ed} : ∀ {l : List Ed}, Asc l → e ∈ l → delE e l = l.take (posE e l) ++ l.drop (posE e l + 1)
  | [], _, he => by simp at he
  | y :: l, h, he => by
    obtain ⟨h1, h2⟩ := Asc.cons.1 h
    rw [posE_cons]
    rcases List.mem_cons.1 he with rfl | he
    · have hz : posE e l = 0 := posE_zero fun z hz q => Ed.lt_asymm (h1 z hz) q
      have hn : e ∉ l := fun q => Ed.lt_irrefl e (h1 e q)
      rw [if_neg (Ed.lt_irrefl e), hz]
      have : delE e (e :: l) = delE e l := by simp [delE]
      rw [this, delE_not hn]; simp
    · have hye := h1 e he
      have hne : y ≠ e := fun q => Ed.lt_irrefl e (q ▸ hye)
      rw [if_pos hye, Nat.add_comm 1]
      have : delE e (y :: l) = y :: delE e l := by simp [delE, hne]
      rw [this, delE_at h2 he]; simp
theorem length_insE {e : Ed} {l : List Ed} (h : Asc l) (hn : e ∉ l) : (insE e l).length = l.length + 1 := by
  rw [insE_at h hn]
  have := posE_le e l
  simp; omega
theorem length_delE {e : Ed} {l : List Ed} (h : Asc l) (he : e ∈ l) : (delE e l).length + 1 = l.length := by
  have h1 := posE_mem h he
  have h2 : posE e l < l.length := (List.getElem?_eq_some_iff.1 h1).1
  rw [delE_at h he]
  simp; omega
/-- the edges from a node, to a node -/
def outE (l : List Ed) (i : Nat) : List Ed := l.filter fun x => decide (x.f = (i : Int))
def inE (l : List Ed) (i : Nat) : List Ed := l.filter fun x => decide (x.t = (i : Int))
theorem mem_outE {l : List Ed} {i : Nat} {x : Ed} : x ∈ outE l i ↔ x ∈ l ∧ x.f = (i : Int) := by simp [outE]
theorem mem_inE {l : List Ed} {i : Nat} {x : Ed} : x ∈ inE l i ↔ x ∈ l ∧ x.t = (i : Int) := by simp [inE]
theorem Asc.out {l : List Ed} (h : Asc l) (i : Nat) : Asc (outE l i) := h.filter _
theorem Asc.inn {l : List Ed} (h : Asc l) (i : Nat) : Asc (inE l i) := h.filter _
theorem outE_ins {l : List Ed} (h : Asc l) {e : Ed} {i : Nat} : outE (insE e l) i = if e.f = (i : Int) then insE e (outE l i) else outE l i := by
  split
  · rename_i he
    refine Asc.same (h.ins.out i) (h.out i).ins fun x => ?_
    rw [mem_outE, mem_insE, mem_insE, mem_outE]
    constructor
    · rintro ⟨q | q, r⟩
      · exact .inl q
      · exact .inr ⟨q, r⟩
    · rintro (rfl | ⟨q, r⟩)
      · exact ⟨.inl rfl, he⟩
      · exact ⟨.inr q, r⟩
  · rename_i he
    refine Asc.same (h.ins.out i) (h.out i) fun x => ?_
    rw [mem_outE, mem_insE, mem_outE]
    constructor
    · rintro ⟨q | q, r⟩
      · subst q; exact absurd r he
      · exact ⟨q, r⟩
    · rintro ⟨q, r⟩
      exact ⟨.inr q, r⟩
theorem inE_ins {l : List Ed} (h : Asc l) {e : Ed} {i : Nat} : inE (insE e l) i = if e.t = (i : Int) then insE e (inE l i) else inE l i := by
  split
  · rename_i he
    refine Asc.same (h.ins.inn i) (h.inn i).ins fun x => ?_
    rw [mem_inE, mem_insE, mem_insE, mem_inE]
    constructor
    · rintro ⟨q | q, r⟩
      · exact .inl q
      · exact .inr ⟨q, r⟩
    · rintro (rfl | ⟨q, r⟩)
      · exact ⟨.inl rfl, he⟩
      · exact ⟨.inr q, r⟩
  · rename_i he
    refine Asc.same (h.ins.inn i) (h.inn i) fun x => ?_
    rw [mem_inE, mem_insE, mem_inE]
    constructor
    · rintro ⟨q | q, r⟩
      · subst q; exact absurd r he
      · exact ⟨q, r⟩
    · rintro ⟨q, r⟩
      exact ⟨.inr q, r⟩
theorem outE_del {l : List Ed} (h : Asc l) {e : Ed} {i : Nat} : outE (delE e l) i = delE e (outE l i) := by
  refine Asc.same (h.del.out i) (h.out i).del fun x => ?_
  rw [mem_outE, mem_delE, mem_delE, mem_outE]
  constructor
  · rintro ⟨⟨a, b⟩, c⟩; exact ⟨⟨a, c⟩, b⟩
  · rintro ⟨⟨a, b⟩, c⟩; exact ⟨⟨a, c⟩, b⟩
theorem inE_del {l : List Ed} (h : Asc l) {e : Ed} {i : Nat} : inE (delE e l) i = delE e (inE l i) := by
  refine Asc.same (h.del.inn i) (h.inn i).del fun x => ?_
  rw [mem_inE, mem_delE, mem_delE, mem_inE]
  constructor
  · rintro ⟨⟨a, b⟩, c⟩; exact ⟨⟨a, c⟩, b⟩
  · rintro ⟨⟨a, b⟩, c⟩; exact ⟨⟨a, c⟩, b⟩
theorem delE_outE_other {l : List Ed} {e : Ed} {i : Nat} (h : e.f ≠ (i : Int)) : delE e (outE l i) = outE l i := delE_not fun q => h (mem_outE.1 q).2
theorem delE_inE_other {l : List Ed} {e : Ed} {i : Nat} (h : e.t ≠ (i : Int)) : delE e (inE l i) = inE l i := delE_not fun q => h (mem_inE.1 q).2
/-- the rows of edges from nodes, one behind the other -/
def catE (l : List Ed) (n : Nat) : List Ed := (List.range n).flatMap (outE l)
theorem catE_succ (l : List Ed) (n : Nat) : catE l (n + 1) = catE l n ++ outE l n := by simp [catE, List.range_succ]
theorem mem_catE {l : List Ed} {n : Nat} {x : Ed} : x ∈ catE l n ↔ x ∈ l ∧ 0 ≤ x.f ∧ x.f < (n : Int) := by
  unfold catE
  rw [List.mem_flatMap]
  constructor
  · rintro ⟨i, hi, hx⟩
    have := List.mem_range.1 hi
    obtain ⟨h1, h2⟩ := mem_outE.1 hx
    exact ⟨h1, by omega, by omega⟩
  · rintro ⟨h1, h2, h3⟩
    exact ⟨x.f.toNat, List.mem_range.2 (by omega), mem_outE.2 ⟨h1, by omega⟩⟩
theorem Asc.cat {l : List Ed} (h : Asc l) : ∀ n, Asc (catE l n)
  | 0 => by simp [catE, Asc]
  | n + 1 => by
    rw [catE_succ]
    refine List.pairwise_append.2 ⟨h.cat n, h.out n, fun a ha b hb => ?_⟩
    have h1 := mem_catE.1 ha
    have h2 := mem_outE.1 hb
    exact .inl (by omega)
theorem catE_all {l : List Ed} (h : Asc l) {n : Nat} (hb : ∀ x ∈ l, 0 ≤ x.f ∧ x.f < (n : Int)) : catE l n = l :=
  Asc.same (h.cat n) h fun x => by rw [mem_catE]; exact ⟨fun q => q.1, fun q => ⟨q, hb x q⟩⟩
#print axioms catE_all
end Go.Proofs.Ytcfajeldkioomaa
