/- Plain: ways over edges; an edge more; pairs joined until nothing is new; which edges are needed. | Plain: components found by a search in depth (frames on a stack): what holds at each step. | Plain: components in order: each node's number, the rows of nodes; what any list of components in order is. | Plain: who reaches whom, as truths; being of one component; the closed nodes, told by the edges within. | A region that draws its order, with a store into a cell that it has loaded: as RegG, but what the store waits for through others may be taken first too. For every seat. No program in sight. | scc: the search in memory: its struct, its rows, the stack, the parts; each block has a colour. | scc: the stack grows. | scc: begin: a node is seen. -/
import Derived.Test.YtdoplaijgocboaaGreatM1
import Derived.Test.YtdoplaijgocboaaGreatM4
import Derived.Laws.OwnMore
import Derived.Test.YtdoplaijgocboaaGreatM6
import Derived.Laws.ResultCell

namespace Go.Proofs.YtdoplaijgocboaaGreat
set_option linter.unusedVariables false

/-- there is a way of at least one edge -/
inductive Way (e : Nat → Nat → Prop) : Nat → Nat → Prop
  | one {i j : Nat} : e i j → Way e i j
  | more {i j k : Nat} : e i j → Way e j k → Way e i k
theorem Way.trans {e : Nat → Nat → Prop} {i j k : Nat} (h : Way e i j) (h' : Way e j k) : Way e i k := by
  induction h with
  | one h => exact .more h h'
  | more h _ ih => exact .more h (ih h')
theorem Way.mono {e e' : Nat → Nat → Prop} (hs : ∀ i j, e i j → e' i j) {i j : Nat} (h : Way e i j) : Way e' i j := by
  induction h with
  | one h => exact .one (hs _ _ h)
  | more h _ ih => exact .more (hs _ _ h) ih
theorem Way.congr {e e' : Nat → Nat → Prop} (hs : ∀ i j, e i j ↔ e' i j) {i j : Nat} : Way e i j ↔ Way e' i j :=
  ⟨fun h => h.mono fun i j => (hs i j).1, fun h => h.mono fun i j => (hs i j).2⟩
theorem Way.lt {e : Nat → Nat → Prop} {n : Nat} (hn : ∀ i j, e i j → i < n ∧ j < n) {i j : Nat} (h : Way e i j) : i < n ∧ j < n := by
  induction h with
  | one h => exact hn _ _ h
  | more h _ ih => exact ⟨(hn _ _ h).1, ih.2⟩
/-- the first edge of a way -/
theorem Way.first {e : Nat → Nat → Prop} {i j : Nat} (h : Way e i j) : ∃ k, e i k ∧ (k = j ∨ Way e k j) := by
  cases h with
  | one h => exact ⟨_, h, .inl rfl⟩
  | more h h' => exact ⟨_, h, .inr h'⟩

/-- an edge more -/
def addE (e : Nat → Nat → Prop) (f t : Nat) : Nat → Nat → Prop := fun i j => e i j ∨ (i = f ∧ j = t)
theorem way_add {e : Nat → Nat → Prop} {f t i j : Nat} : Way (addE e f t) i j ↔ Way e i j ∨ ((i = f ∨ Way e i f) ∧ (j = t ∨ Way e t j)) := by
  constructor
  · intro h
    induction h with
    | one h =>
      rcases h with h | ⟨rfl, rfl⟩
      · exact .inl (.one h)
      · exact .inr ⟨.inl rfl, .inl rfl⟩
    | more h _ ih =>
      rcases h with h | ⟨rfl, rfl⟩
      · rcases ih with ih | ⟨ih1, ih2⟩
        · exact .inl (.more h ih)
        · refine .inr ⟨.inr ?_, ih2⟩
          rcases ih1 with rfl | ih1
          · exact .one h
          · exact .more h ih1
      · rcases ih with ih | ⟨ih1, ih2⟩
        · exact .inr ⟨.inl rfl, .inr ih⟩
        · exact .inr ⟨.inl rfl, ih2⟩
  · intro h
    have m : ∀ {a b}, Way e a b → Way (addE e f t) a b := fun h => h.mono fun _ _ h => .inl h
    have o : Way (addE e f t) f t := .one (.inr ⟨rfl, rfl⟩)
    rcases h with h | ⟨h1, h2⟩
    · exact m h
    · have h3 : Way (addE e f t) i t := by
        rcases h1 with rfl | h1
        · exact o
        · exact (m h1).trans o
      rcases h2 with rfl | h2
      · exact h3
      · exact h3.trans (m h2)
theorem way_add_same {e : Nat → Nat → Prop} {f t i j : Nat} (h : Way e f t) : Way (addE e f t) i j ↔ Way e i j := by
  rw [way_add]
  constructor
  · rintro (h' | ⟨h1, h2⟩)
    · exact h'
    · have h3 : Way e i t := by
        rcases h1 with rfl | h1
        · exact h
        · exact h1.trans h
      rcases h2 with rfl | h2
      · exact h3
      · exact h3.trans h2
  · exact .inl

/-- pairs, joined by the nodes below k -/
def WK (e : Nat → Nat → Prop) : Nat → Nat → Nat → Prop
  | 0 => e
  | k + 1 => fun i j => WK e k i j ∨ (WK e k i k ∧ WK e k k j)
theorem WK.le {e : Nat → Nat → Prop} {k : Nat} : ∀ {m : Nat} {i j : Nat}, k ≤ m → WK e k i j → WK e m i j := by
  intro m
  induction m with
  | zero => intro i j hk h; obtain rfl : k = 0 := by omega
            exact h
  | succ m ih =>
    intro i j hk h
    by_cases e : k = m + 1
    · subst e; exact h
    · exact .inl (ih (by omega) h)
theorem WK.trans {e : Nat → Nat → Prop} : ∀ {k m i j : Nat}, m < k → WK e k i m → WK e k m j → WK e k i j := by
  intro k
  induction k with
  | zero => intro m i j h; omega
  | succ k ih =>
    intro m i j hm h h'
    by_cases e : m = k
    · subst e
      have h1 : WK e m i m := by rcases h with h | ⟨h, _⟩ <;> exact h
      have h2 : WK e m m j := by rcases h' with h' | ⟨_, h'⟩ <;> exact h'
      exact .inr ⟨h1, h2⟩
    · have hm' : m < k := by omega
      rcases h with h | ⟨h1, h2⟩
      · rcases h' with h' | ⟨h3, h4⟩
        · exact .inl (ih hm' h h')
        · exact .inr ⟨ih hm' h h3, h4⟩
      · rcases h' with h' | ⟨h3, h4⟩
        · exact .inr ⟨h1, ih hm' h2 h'⟩
        · exact .inr ⟨h1, h4⟩
theorem WK.way {e : Nat → Nat → Prop} : ∀ {k i j : Nat}, WK e k i j → Way e i j := by
  intro k
  induction k with
  | zero => intro i j h; exact .one h
  | succ k ih =>
    intro i j h
    rcases h with h | ⟨h1, h2⟩
    · exact ih h
    · exact (ih h1).trans (ih h2)
theorem way_WK {e : Nat → Nat → Prop} {n : Nat} (hn : ∀ i j, e i j → i < n ∧ j < n) {i j : Nat} : Way e i j ↔ WK e n i j := by
  refine ⟨fun h => ?_, WK.way⟩
  induction h with
  | one h => exact WK.le (k := 0) (Nat.zero_le _) h
  | more h h' ih => exact WK.trans (hn _ _ h).2 (WK.le (k := 0) (Nat.zero_le _) h) ih

/-! An edge that is needed -/
/-- edges but one -/
def subE (e : Nat → Nat → Prop) (f t : Nat) : Nat → Nat → Prop := fun i j => e i j ∧ ¬ (i = f ∧ j = t)
/-- of edges without a closed walk: there is a way about one just if some other edge from where it begins leads to where it ends -/
theorem way_about {e : Nat → Nat → Prop} {f t : Nat} (hc : ∀ i, ¬ Way e i i) (h : e f t) : Way (subE e f t) f t ↔ ∃ k, e f k ∧ k ≠ t ∧ Way e k t := by
  constructor
  · intro h
    obtain ⟨k, ⟨h1, h2⟩, h3⟩ := h.first
    refine ⟨k, h1, fun e => h2 ⟨rfl, e⟩, ?_⟩
    rcases h3 with rfl | h3
    · exact absurd ⟨rfl, rfl⟩ h2
    · exact h3.mono fun _ _ h => h.1
  · rintro ⟨k, h1, h2, h3⟩
    -- no way from k goes over the edge: else f would lead to itself
    have key : ∀ i j, Way e i j → (∀ x, (i = x ∨ Way e i x) → x ≠ f) → Way (subE e f t) i j := by
      intro i j hw
      induction hw with
      | one h => intro hx; exact .one ⟨h, fun e => hx _ (.inl rfl) e.1⟩
      | more h h' ih =>
        intro hx
        refine .more ⟨h, fun e => hx _ (.inl rfl) e.1⟩ (ih fun x hx' => hx x (.inr ?_))
        rcases hx' with rfl | hx'
        · exact .one h
        · exact .more h hx'
    refine .more ⟨h1, fun e => h2 e.2⟩ (key k t h3 fun x hx => ?_)
    rintro rfl
    rcases hx with rfl | hx
    · exact hc _ (.one h1)
    · exact hc _ (.more h1 hx)
end Go.Proofs.YtdoplaijgocboaaGreat

namespace Go.Proofs.YtdoplaijgocboaaGreat
set_option linter.unusedVariables false

/-- reached by a row of edges, none at all too -/
def Rch (E : Nat → Nat → Prop) (a b : Nat) : Prop := a = b ∨ Way E a b
/-- each reaches the other -/
def Sm (E : Nat → Nat → Prop) (a b : Nat) : Prop := Rch E a b ∧ Rch E b a
section
variable {E : Nat → Nat → Prop} {a b c : Nat}
theorem Rch.refl (E : Nat → Nat → Prop) (a : Nat) : Rch E a a := .inl rfl
theorem Rch.one (h : E a b) : Rch E a b := .inr (.one h)
theorem Rch.trans (h : Rch E a b) (h' : Rch E b c) : Rch E a c := by
  rcases h with rfl | h
  · exact h'
  · rcases h' with rfl | h'
    · exact .inr h
    · exact .inr (h.trans h')
theorem Sm.refl (E : Nat → Nat → Prop) (a : Nat) : Sm E a a := ⟨Rch.refl E a, Rch.refl E a⟩
theorem Sm.symm (h : Sm E a b) : Sm E b a := ⟨h.2, h.1⟩
theorem Sm.trans (h : Sm E a b) (h' : Sm E b c) : Sm E a c := ⟨h.1.trans h'.1, h'.2.trans h.2⟩
/-- what is closed under edges is closed under rows of them -/
theorem Rch.closed {P : Nat → Prop} (hP : ∀ u, P u → ∀ v, E u v → P v) (h : Rch E a b) (ha : P a) : P b := by
  rcases h with rfl | h
  · exact ha
  · induction h with
    | one h => exact hP _ ha _ h
    | more h _ ih => exact ih (hP _ ha _ h)
end
/-- a frame: its node, what is still to be looked at, the nodes behind it on the stack that were looked at whole -/
structure Fr where
  n : Nat
  nx : List Nat
  sg : List Nat
/-- the stack, from its bottom on; the top frame comes first -/
def stk : List Fr → List Nat
  | [] => []
  | F :: Fs => stk Fs ++ F.n :: F.sg
theorem mem_stk_cons {F : Fr} {Fs : List Fr} {v : Nat} : v ∈ stk (F :: Fs) ↔ v ∈ stk Fs ∨ v = F.n ∨ v ∈ F.sg := by simp [stk]
/-- what is known of a frame: S is the whole stack -/
structure FrOk (E : Nat → Nat → Prop) (num low : Nat → Nat) (cl : Nat → Prop) (S : List Nat) (F : Fr) (Fs : List Fr) : Prop where
  sg : ∀ u ∈ F.sg, Sm E F.n u
  up : ∀ F', Fs.head? = some F' → Rch E F'.n F.n
  lo : low F.n ≤ num F.n
  wit : ∃ x ∈ S, Rch E F.n x ∧ num x = low F.n
  done : ∀ u, u = F.n ∨ u ∈ F.sg → ∀ v, E u v → (u = F.n → v ∉ F.nx) → cl v ∨ (v ∈ S ∧ low F.n ≤ num v)
def Good (E : Nat → Nat → Prop) (num low : Nat → Nat) (cl : Nat → Prop) (S : List Nat) : List Fr → Prop
  | [] => True
  | F :: Fs => FrOk E num low cl S F Fs ∧ Good E num low cl S Fs
/-- where the search stands -/
structure Tj (E : Nat → Nat → Prop) (N : Nat) (num low : Nat → Nat) (seen : Nat) (cl : Nat → Prop) (Fs : List Fr) : Prop where
  lt : ∀ v ∈ stk Fs, v < N
  clN : ∀ v, cl v → v < N
  vis : ∀ v, v < N → (num v ≠ 0 ↔ cl v ∨ v ∈ stk Fs)
  dis : ∀ v, cl v → v ∉ stk Fs
  asc : (stk Fs).Pairwise fun a b => num a < num b
  top : ∀ v, num v ≤ seen
  clo : ∀ u, cl u → ∀ v, E u v → cl v
  good : Good E num low cl (stk Fs) Fs
section
variable {E : Nat → Nat → Prop} {N seen : Nat} {num low : Nat → Nat} {cl : Nat → Prop} {Fs : List Fr} {F : Fr}
/-- the frames' facts, where num, low stay for all of their nodes -/
theorem Good.mono {num' low' : Nat → Nat} {cl' : Nat → Prop} {S S' : List Nat} : ∀ {Fs : List Fr}, Good E num low cl S Fs → (∀ F ∈ Fs, low' F.n = low F.n ∧ num' F.n = num F.n) → (∀ v ∈ S, num' v = num v) → (∀ v, cl v → cl' v) →
    (∀ v ∈ S, v ∈ S' ∨ cl' v) → (∀ F ∈ Fs, ∀ x ∈ S, num x ≤ num F.n → x ∈ S') → Good E num' low' cl' S' Fs
  | [], _, _, _, _, _, _ => trivial
  | F :: Fs, h, h1, h2, h3, h4, h5 => by
    obtain ⟨hF, hG⟩ := h
    obtain ⟨e1, e2⟩ := h1 F (by simp)
    refine ⟨⟨hF.sg, hF.up, by rw [e1, e2]; exact hF.lo, ?_, fun u hu v hv hx => ?_⟩, hG.mono (fun F' h => h1 F' (List.mem_cons_of_mem _ h)) h2 h3 h4 fun F' h => h5 F' (List.mem_cons_of_mem _ h)⟩
    · obtain ⟨x, hx, hr, hn⟩ := hF.wit
      exact ⟨x, h5 F (by simp) x hx (by rw [hn]; exact hF.lo), hr, by rw [h2 x hx, hn, e1]⟩
    · rcases hF.done u hu v hv hx with h | ⟨h, h'⟩
      · exact .inl (h3 v h)
      · rcases h4 v h with h6 | h6
        · exact .inr ⟨h6, by rw [e1, h2 v h]; exact h'⟩
        · exact .inl h6
theorem node_stk : ∀ {Fs : List Fr}, ∀ F ∈ Fs, F.n ∈ stk Fs
  | [], F, h => by simp at h
  | F0 :: Fs, F, h => by
    rw [mem_stk_cons]
    rcases List.mem_cons.1 h with rfl | h
    · exact .inr (.inl rfl)
    · exact .inl (node_stk F h)
/-- a node of the stack reaches the top frame's node -/
theorem Good.reach {S : List Nat} : ∀ {Fs : List Fr} {F : Fr}, Good E num low cl S (F :: Fs) → ∀ v ∈ stk (F :: Fs), Rch E v F.n
  | Fs, F, ⟨hF, hG⟩, v, hv => by
    rcases mem_stk_cons.1 hv with h | rfl | h
    · match Fs, hG, h with
      | F' :: Fs', hG, h => exact (hG.reach v h).trans (hF.up F' rfl)
    · exact Rch.refl E _
    · exact (hF.sg v h).2
/-- what is reached from the top frame's node is on the stack from there on -/
theorem Tj.start : Tj E N (fun _ => 0) low 0 (fun _ => False) [] :=
  ⟨fun v h => by simp [stk] at h, fun v h => h.elim, fun v _ => by simp [stk], fun v h => h.elim, by simp [stk], fun v => Nat.le_refl 0, fun u h => h.elim, trivial⟩
/-- a node is seen: a frame more -/
theorem Tj.push (h : Tj E N num low seen cl Fs) {k : Nat} {nx : List Nat} (hk : k < N) (h0 : num k = 0) (hnx : ∀ v, E k v → v ∈ nx) (hup : ∀ F', Fs.head? = some F' → Rch E F'.n k) :
    Tj E N (fun v => if v = k then seen + 1 else num v) (fun v => if v = k then seen + 1 else low v) (seen + 1) cl (⟨k, nx, []⟩ :: Fs) := by
  have hkS : k ∉ stk Fs := fun hm => ((h.vis k hk).2 (.inr hm)) h0
  have hkc : ¬ cl k := fun hm => ((h.vis k hk).2 (.inl hm)) h0
  have hst : stk (⟨k, nx, []⟩ :: Fs) = stk Fs ++ [k] := rfl
  refine ⟨fun v hv => ?_, h.clN, fun v hv => ?_, fun v hv => ?_, ?_, fun v => ?_, h.clo, ?_⟩
  · rcases mem_stk_cons.1 hv with h1 | rfl | h1
    · exact h.lt v h1
    · exact hk
    · simp at h1
  · rw [mem_stk_cons]
    by_cases e : v = k
    · subst e; simp
    · simp only [if_neg e, h.vis v hv]
      constructor
      · rintro (h1 | h1)
        · exact .inl h1
        · exact .inr (.inl h1)
      · rintro (h1 | h1 | h1 | h1)
        · exact .inl h1
        · exact .inr h1
        · exact absurd h1 e
        · simp at h1
  · rw [mem_stk_cons]
    rintro (h1 | rfl | h1)
    · exact h.dis v hv h1
    · exact hkc hv
    · simp at h1
  · rw [hst]
    refine List.pairwise_append.2 ⟨h.asc.imp_of_mem fun {a b} ha hb hab => ?_, by simp, fun a ha b hb => ?_⟩
    · have e1 : a ≠ k := fun e => hkS (by rw [← e]; exact ha)
      have e2 : b ≠ k := fun e => hkS (by rw [← e]; exact hb)
      simpa [e1, e2] using hab
    · rw [List.mem_singleton] at hb
      have e1 : a ≠ k := fun e => hkS (by rw [← e]; exact ha)
      have := h.top a
      simp only [hb, e1, if_false, if_true]; omega
  · show (if v = k then seen + 1 else num v) ≤ seen + 1
    have := h.top v
    split <;> omega
  · refine ⟨⟨fun u hu => by simp at hu, hup, by simp, ⟨k, by simp [stk], Rch.refl E k, by simp⟩, fun u hu v hv hx => ?_⟩, h.good.mono (fun F hF => ?_) (fun v hv => ?_) (fun _ h => h) (fun v hv => .inl ?_) fun F hF x hx _ => ?_⟩
    · rcases hu with rfl | hu
      · exact absurd (hnx v hv) (hx rfl)
      · simp at hu
    · have : F.n ≠ k := fun e => hkS (e ▸ node_stk F hF)
      simp [this]
    · have e1 : v ≠ k := fun e => hkS (by rw [← e]; exact hv)
      simp [e1]
    · rw [hst]; exact List.mem_append_left _ hv
    · rw [hst]; exact List.mem_append_left _ hx
/-- the next node that is next to the top frame's is looked at: it is not new -/
theorem Tj.look (h : Tj E N num low seen cl (F :: Fs)) {k : Nat} {ks : List Nat} (hnx : F.nx = k :: ks) (hk : k < N) (h0 : num k ≠ 0) (hE : E F.n k) {low' : Nat → Nat}
    (hl : low' = if k ∈ stk (F :: Fs) then (fun v => if v = F.n then min (low F.n) (num k) else low v) else low) : Tj E N num low' seen cl (⟨F.n, ks, F.sg⟩ :: Fs) := by
  obtain ⟨hF, hG⟩ := h.good
  have hst : stk (⟨F.n, ks, F.sg⟩ :: Fs) = stk (F :: Fs) := rfl
  have hnF : ∀ F' ∈ Fs, F'.n ≠ F.n := fun F' hF' e => by
    have h1 := List.pairwise_append.1 h.asc
    have := h1.2.2 F'.n (node_stk F' hF') F.n (by simp)
    rw [e] at this; omega
  have hG' : Good E num low' cl (stk (F :: Fs)) Fs := hG.mono (fun F' hF' => ⟨by rw [hl]; split <;> simp [hnF F' hF'], rfl⟩) (fun _ _ => rfl) (fun _ h => h) (fun v hv => .inl hv) fun _ _ x hx _ => hx
  have hle : low' F.n ≤ low F.n := by rw [hl]; split <;> simp [Nat.min_le_left]
  refine ⟨h.lt, h.clN, h.vis, h.dis, h.asc, h.top, h.clo, ⟨⟨hF.sg, hF.up, Nat.le_trans hle hF.lo, ?_, fun u hu v hv hx => ?_⟩, hG'⟩⟩
  · rw [hl]
    by_cases hm : k ∈ stk (F :: Fs)
    · rw [if_pos hm]
      simp only [if_true]
      rcases Nat.le_total (low F.n) (num k) with hc | hc
      · rw [Nat.min_eq_left hc]; exact hF.wit
      · rw [Nat.min_eq_right hc]; exact ⟨k, hm, Rch.one hE, rfl⟩
    · rw [if_neg hm]; exact hF.wit
  · by_cases hvk : u = F.n ∧ v = k
    · obtain ⟨rfl, rfl⟩ := hvk
      rcases (h.vis v hk).1 h0 with h1 | h1
      · exact .inl h1
      · refine .inr ⟨h1, ?_⟩
        rw [hl, if_pos h1]
        simp [Nat.min_le_right]
    · rcases hF.done u hu v hv (fun e => by
        rw [hnx, List.mem_cons]
        rintro (e2 | e2)
        · exact hvk ⟨e, e2⟩
        · exact hx e e2) with h1 | ⟨h1, h2⟩
      · exact .inl h1
      · exact .inr ⟨h1, Nat.le_trans hle h2⟩
theorem asc_seg (h : Tj E N num low seen cl (F :: Fs)) : (∀ v ∈ stk Fs, num v < num F.n) ∧ ∀ v ∈ F.sg, num F.n < num v := by
  obtain ⟨h1, h2, h3⟩ := List.pairwise_append.1 h.asc
  exact ⟨fun v hv => h3 v hv F.n (by simp), fun v hv => (List.pairwise_cons.1 h2).1 v hv⟩
/-- the top frame is done, and reaches below: it is joined with the frame below -/
theorem Tj.join {F' : Fr} (h : Tj E N num low seen cl (F :: F' :: Fs)) (hnx : F.nx = []) (hlt : low F.n < num F.n) {low' : Nat → Nat} (hl : low' = fun v => if v = F'.n then min (low F'.n) (low F.n) else low v) :
    Tj E N num low' seen cl (⟨F'.n, F'.nx, F'.sg ++ F.n :: F.sg⟩ :: Fs) := by
  obtain ⟨hF, hF', hG⟩ := h.good
  obtain ⟨a1, a2⟩ := asc_seg h
  have hst : stk (⟨F'.n, F'.nx, F'.sg ++ F.n :: F.sg⟩ :: Fs) = stk (F :: F' :: Fs) := by simp [stk]
  have hne : F'.n ≠ F.n := fun e => by have := a1 F'.n (by simp [stk]); rw [e] at this; omega
  have hback : Rch E F.n F'.n := by
    obtain ⟨x, hx, hr, hn⟩ := hF.wit
    have hx' : x ∈ stk (F' :: Fs) := by
      rcases mem_stk_cons.1 hx with h1 | rfl | h1
      · exact h1
      · omega
      · have := a2 x h1; omega
    exact hr.trans (Good.reach (Fs := Fs) (F := F') ⟨hF', hG⟩ x hx')
  have hsm : Sm E F'.n F.n := ⟨hF.up F' rfl, hback⟩
  have hnG : ∀ G ∈ Fs, G.n ≠ F'.n := fun G hG e => by
    have h1 := (List.pairwise_append.1 (List.pairwise_append.1 h.asc).1).2.2 G.n (node_stk G hG) F'.n (by simp)
    rw [e] at h1; omega
  have hl1 : low' F'.n ≤ low F'.n := by rw [hl]; simp [Nat.min_le_left]
  have hl2 : low' F'.n ≤ low F.n := by rw [hl]; simp [Nat.min_le_right]
  refine ⟨by rw [hst]; exact h.lt, h.clN, by rw [hst]; exact h.vis, by rw [hst]; exact h.dis, by rw [hst]; exact h.asc, h.top, h.clo, ?_⟩
  rw [hst]
  refine ⟨⟨fun u hu => ?_, hF'.up, Nat.le_trans hl1 hF'.lo, ?_, fun u hu v hv hx => ?_⟩, hG.mono (fun G hG => ⟨by rw [hl]; simp [hnG G hG], rfl⟩) (fun _ _ => rfl) (fun _ h => h) (fun v hv => .inl hv) fun _ _ x hx _ => hx⟩
  · show Sm E F'.n u
    rcases List.mem_append.1 hu with h1 | h1
    · exact hF'.sg u h1
    · rcases List.mem_cons.1 h1 with rfl | h1
      · exact hsm
      · exact hsm.trans (hF.sg u h1)
  · show ∃ x ∈ stk (F :: F' :: Fs), Rch E F'.n x ∧ num x = low' F'.n
    rw [hl]
    simp only [if_true]
    rcases Nat.le_total (low F'.n) (low F.n) with hc | hc
    · rw [Nat.min_eq_left hc]; exact hF'.wit
    · rw [Nat.min_eq_right hc]
      obtain ⟨x, hx, hr, hn⟩ := hF.wit
      exact ⟨x, hx, hsm.1.trans hr, hn⟩
  · show cl v ∨ (v ∈ stk (F :: F' :: Fs) ∧ low' F'.n ≤ num v)
    have old : u = F'.n ∨ u ∈ F'.sg → cl v ∨ (v ∈ stk (F :: F' :: Fs) ∧ low' F'.n ≤ num v) := fun hu => by
      rcases hF'.done u hu v hv hx with h1 | ⟨h1, h2⟩
      · exact .inl h1
      · exact .inr ⟨h1, Nat.le_trans hl1 h2⟩
    have new : u = F.n ∨ u ∈ F.sg → cl v ∨ (v ∈ stk (F :: F' :: Fs) ∧ low' F'.n ≤ num v) := fun hu => by
      rcases hF.done u hu v hv (fun _ => by rw [hnx]; simp) with h1 | ⟨h1, h2⟩
      · exact .inl h1
      · exact .inr ⟨h1, Nat.le_trans hl2 h2⟩
    rcases hu with h1 | h1
    · exact old (.inl h1)
    · rcases List.mem_append.1 h1 with h1 | h1
      · exact old (.inr h1)
      · rcases List.mem_cons.1 h1 with h1 | h1
        · exact new (.inl h1)
        · exact new (.inr h1)
/-- the top frame is done, and reaches nothing below: its part of the stack is a component -/
theorem Tj.part (h : Tj E N num low seen cl (F :: Fs)) (hnx : F.nx = []) (hge : num F.n ≤ low F.n) :
    Tj E N num low seen (fun v => cl v ∨ v ∈ F.n :: F.sg) Fs ∧ ∀ u ∈ F.n :: F.sg, ∀ v, v ∈ F.n :: F.sg ↔ Sm E u v := by
  obtain ⟨hF, hG⟩ := h.good
  obtain ⟨a1, a2⟩ := asc_seg h
  have hclo : ∀ u, cl u ∨ u ∈ F.n :: F.sg → ∀ v, E u v → cl v ∨ v ∈ F.n :: F.sg := fun u hu v hv => by
    rcases hu with hu | hu
    · exact .inl (h.clo u hu v hv)
    · rcases hF.done u (List.mem_cons.1 hu) v hv (fun _ => by rw [hnx]; simp) with h1 | ⟨h1, h2⟩
      · exact .inl h1
      · rcases mem_stk_cons.1 h1 with h3 | h3
        · have := a1 v h3; omega
        · exact .inr (List.mem_cons.2 h3)
  refine ⟨⟨fun v hv => h.lt v (mem_stk_cons.2 (.inl hv)), fun v hv => ?_, fun v hv => ?_, fun v hv hm => ?_, (List.pairwise_append.1 h.asc).1, h.top, hclo, ?_⟩, fun u hu v => ⟨fun hv => ?_, fun hv => ?_⟩⟩
  · rcases hv with hv | hv
    · exact h.clN v hv
    · exact h.lt v (mem_stk_cons.2 (.inr (List.mem_cons.1 hv)))
  · rw [h.vis v hv, mem_stk_cons, List.mem_cons]
    constructor
    · rintro (h1 | h1 | h1)
      · exact .inl (.inl h1)
      · exact .inr h1
      · exact .inl (.inr h1)
    · rintro ((h1 | h1) | h1)
      · exact .inl h1
      · exact .inr (.inr h1)
      · exact .inr (.inl h1)
  · rcases hv with hv | hv
    · exact h.dis v hv (mem_stk_cons.2 (.inl hm))
    · have := a1 v hm
      rcases List.mem_cons.1 hv with rfl | hv
      · omega
      · have := a2 v hv; omega
  · refine hG.mono (fun _ _ => ⟨rfl, rfl⟩) (fun _ _ => rfl) (fun _ h => .inl h) (fun v hv => ?_) fun G hG x hx hle => ?_
    · rcases mem_stk_cons.1 hv with h1 | h1
      · exact .inl h1
      · exact .inr (.inr (List.mem_cons.2 h1))
    · have := a1 G.n (node_stk G hG)
      rcases mem_stk_cons.1 hx with h1 | rfl | h1
      · exact h1
      · omega
      · have := a2 x h1; omega
  · have key : ∀ w ∈ F.n :: F.sg, Sm E F.n w := fun w hw => by
      rcases List.mem_cons.1 hw with rfl | hw
      · exact Sm.refl E _
      · exact hF.sg w hw
    exact (key u hu).symm.trans (key v hv)
  · rcases hv.1.closed hclo (.inr hu) with h1 | h1
    · exfalso
      have hcu : cl u := hv.2.closed h.clo h1
      exact h.dis u hcu (mem_stk_cons.2 (.inr (List.mem_cons.1 hu)))
    · exact h1
/-- a frame at the bottom reaches nothing below -/
theorem Tj.bottom (h : Tj E N num low seen cl [F]) : num F.n ≤ low F.n := by
  obtain ⟨hF, _⟩ := h.good
  obtain ⟨a1, a2⟩ := asc_seg h
  obtain ⟨x, hx, _, hn⟩ := hF.wit
  rcases mem_stk_cons.1 hx with h1 | rfl | h1
  · simp [stk] at h1
  · omega
  · have := a2 x h1; omega
end
#print axioms Tj.part
#print axioms Tj.join
#print axioms Tj.push
#print axioms Tj.look
end Go.Proofs.YtdoplaijgocboaaGreat

namespace Go.Proofs.YtdoplaijgocboaaGreat
set_option linter.unusedVariables false

theorem asc_ext : ∀ {a b : List Nat}, a.Pairwise (fun x y => x < y) → b.Pairwise (fun x y => x < y) → (∀ x, x ∈ a ↔ x ∈ b) → a = b
  | [], [], _, _, _ => rfl
  | [], y :: ys, _, _, h => by have := (h y).2 (by simp); simp at this
  | x :: xs, [], _, _, h => by have := (h x).1 (by simp); simp at this
  | x :: xs, y :: ys, hx, hy, h => by
    obtain ⟨hx1, hx2⟩ := List.pairwise_cons.1 hx
    obtain ⟨hy1, hy2⟩ := List.pairwise_cons.1 hy
    have e : x = y := by
      rcases List.mem_cons.1 ((h x).1 (by simp)) with e | e
      · exact e
      · rcases List.mem_cons.1 ((h y).2 (by simp)) with e2 | e2
        · exact e2.symm
        · have := hy1 x e; have := hx1 y e2; omega
    subst e
    rw [asc_ext hx2 hy2 fun z => ?_]
    have := h z
    simp only [List.mem_cons] at this
    constructor
    · intro hz
      rcases this.1 (.inr hz) with e | e
      · subst e; have := hx1 z hz; omega
      · exact e
    · intro hz
      rcases this.2 (.inr hz) with e | e
      · subst e; have := hy1 z hz; omega
      · exact e
theorem range_asc (m : Nat) (p : Nat → Bool) : ((List.range m).filter p).Pairwise fun x y => x < y := List.Pairwise.filter _ List.pairwise_lt_range
section
variable (sm : Nat → Nat → Bool)
/-- the least of its component -/
def repB (i : Nat) : Bool := (List.range i).all fun k => !sm i k
def reps (m : Nat) : List Nat := (List.range m).filter (repB sm)
def cls (N r : Nat) : List Nat := (List.range N).filter (sm r)
/-- the components, in the order of their least nodes -/
def canon (N : Nat) : List (List Nat) := (reps sm N).map (cls sm N)
/-- the least node of one's component -/
def lst (i : Nat) : Nat := ((List.range i).find? (sm i)).getD i
/-- its number -/
def cno (i : Nat) : Nat := (reps sm (lst sm i)).length
end
/-- being of one component, below N -/
structure Eqv (sm : Nat → Nat → Bool) (N : Nat) : Prop where
  refl : ∀ i, i < N → sm i i = true
  symm : ∀ i j, i < N → j < N → sm i j = true → sm j i = true
  trans : ∀ i j k, i < N → j < N → k < N → sm i j = true → sm j k = true → sm i k = true
section
variable {sm : Nat → Nat → Bool} {N : Nat}
theorem repB_iff {i : Nat} : repB sm i = true ↔ ∀ k, k < i → sm i k = false := by
  unfold repB
  rw [List.all_eq_true]
  constructor
  · intro h k hk; have := h k (List.mem_range.2 hk); simpa using this
  · intro h k hk; have := h k (List.mem_range.1 hk); simp [this]
theorem reps_succ (m : Nat) : reps sm (m + 1) = reps sm m ++ if repB sm m = true then [m] else [] := by
  unfold reps
  rw [List.range_succ, List.filter_append]
  congr 1
  by_cases h : repB sm m = true <;> simp [h]
theorem mem_reps {m i : Nat} : i ∈ reps sm m ↔ i < m ∧ repB sm i = true := by unfold reps; rw [List.mem_filter, List.mem_range]
theorem mem_cls {r i : Nat} : i ∈ cls sm N r ↔ i < N ∧ sm r i = true := by unfold cls; rw [List.mem_filter, List.mem_range]
theorem reps_len (m : Nat) : (reps sm m).length ≤ m := by
  unfold reps
  exact Nat.le_trans (List.length_filter_le _ _) (by simp)
theorem cls_len (r : Nat) : (cls sm N r).length ≤ N := by
  unfold cls
  exact Nat.le_trans (List.length_filter_le _ _) (by simp)
/-- a prefix -/
theorem reps_app {a b : Nat} (h : a ≤ b) : ∃ l, reps sm b = reps sm a ++ l ∧ ∀ x ∈ l, a ≤ x := by
  induction b with
  | zero => obtain rfl : a = 0 := by omega
            exact ⟨[], by simp, by simp⟩
  | succ b ih =>
    by_cases e : a = b + 1
    · subst e; exact ⟨[], by simp, by simp⟩
    · obtain ⟨l, h1, h2⟩ := ih (by omega)
      refine ⟨l ++ (if repB sm b = true then [b] else []), by rw [reps_succ, h1, List.append_assoc], fun x hx => ?_⟩
      rcases List.mem_append.1 hx with q | q
      · exact h2 x q
      · split at q
        · rw [List.mem_singleton] at q; omega
        · simp at q
theorem reps_at {a b : Nat} (h : a < b) (ha : repB sm a = true) : (reps sm b)[(reps sm a).length]? = some a := by
  obtain ⟨l, h1, _⟩ := reps_app (sm := sm) (show a + 1 ≤ b by omega)
  rw [h1, reps_succ, if_pos ha]
  simp
theorem lst_spec (i : Nat) : (lst sm i = i ∧ repB sm i = true) ∨ (lst sm i < i ∧ sm i (lst sm i) = true ∧ ∀ k, k < lst sm i → sm i k = false) := by
  unfold lst
  cases h : (List.range i).find? (sm i) with
  | none =>
    left
    rw [List.find?_eq_none] at h
    exact ⟨rfl, repB_iff.2 fun k hk => by have := h k (List.mem_range.2 hk); simpa using this⟩
  | some k =>
    right
    rw [List.find?_eq_some_iff_getElem] at h
    obtain ⟨h1, j, hj, h2, h3⟩ := h
    simp only [List.getElem_range] at h2 h3
    subst h2
    simp only [List.length_range] at hj
    refine ⟨hj, h1, fun k hk => ?_⟩
    have := h3 k hk
    simpa using this
theorem lst_le (i : Nat) : lst sm i ≤ i := by rcases lst_spec (sm := sm) i with h | h <;> omega
theorem lst_sm (h : Eqv sm N) {i : Nat} (hi : i < N) : sm i (lst sm i) = true := by
  rcases lst_spec (sm := sm) i with ⟨e, _⟩ | ⟨_, e, _⟩
  · rw [e]; exact h.refl i hi
  · exact e
theorem lst_rep (h : Eqv sm N) {i : Nat} (hi : i < N) : repB sm (lst sm i) = true := by
  rcases lst_spec (sm := sm) i with ⟨e, h1⟩ | ⟨h1, h2, h3⟩
  · rw [e]; exact h1
  · refine repB_iff.2 fun k hk => ?_
    cases q : sm (lst sm i) k with
    | false => rfl
    | true =>
      have := h.trans i _ k hi (by omega) (by omega) h2 q
      rw [h3 k hk] at this; cases this
theorem rep_uniq (h : Eqv sm N) {a b : Nat} (ha : a < N) (hb : b < N) (ra : repB sm a = true) (rb : repB sm b = true) (hs : sm a b = true) : a = b := by
  rcases Nat.lt_trichotomy a b with c | c | c
  · have := repB_iff.1 rb a c
    rw [h.symm a b ha hb hs] at this; cases this
  · exact c
  · have := repB_iff.1 ra b c
    rw [hs] at this; cases this
theorem lst_same (h : Eqv sm N) {i j : Nat} (hi : i < N) (hj : j < N) : sm i j = true ↔ lst sm i = lst sm j := by
  have li := lst_le (sm := sm) i
  have lj := lst_le (sm := sm) j
  constructor
  · intro hs
    refine rep_uniq h (by omega) (by omega) (lst_rep h hi) (lst_rep h hj) ?_
    exact h.trans _ i _ (by omega) hi (by omega) (h.symm _ _ hi (by omega) (lst_sm h hi)) (h.trans _ j _ hi hj (by omega) hs (lst_sm h hj))
  · intro e
    exact h.trans _ (lst sm i) _ hi (by omega) hj (lst_sm h hi) (by rw [e]; exact h.symm _ _ hj (by omega) (lst_sm h hj))
theorem reps_mono {a b : Nat} (h : a < b) (ha : repB sm a = true) : (reps sm a).length < (reps sm b).length := by
  obtain ⟨l, h1, _⟩ := reps_app (sm := sm) (show a + 1 ≤ b by omega)
  rw [h1, reps_succ, if_pos ha]
  simp
theorem cno_same (h : Eqv sm N) {i j : Nat} (hi : i < N) (hj : j < N) : cno sm i = cno sm j ↔ sm i j = true := by
  rw [lst_same h hi hj]
  constructor
  · intro e
    unfold cno at e
    rcases Nat.lt_trichotomy (lst sm i) (lst sm j) with c | c | c
    · have := reps_mono c (lst_rep h hi); omega
    · exact c
    · have := reps_mono c (lst_rep h hj); omega
  · intro e; unfold cno; rw [e]
theorem cno_lt (h : Eqv sm N) {i : Nat} (hi : i < N) : cno sm i < (reps sm N).length := reps_mono (Nat.lt_of_le_of_lt (lst_le i) hi) (lst_rep h hi)
theorem cno_at (h : Eqv sm N) {i : Nat} (hi : i < N) : (reps sm N)[cno sm i]? = some (lst sm i) := reps_at (Nat.lt_of_le_of_lt (lst_le i) hi) (lst_rep h hi)
/-- the components, told by the first i nodes -/
def canonI (sm : Nat → Nat → Bool) (i : Nat) : List (List Nat) := (reps sm i).map (cls sm i)
theorem cls_succ (m r : Nat) : cls sm (m + 1) r = cls sm m r ++ if sm r m = true then [m] else [] := by
  unfold cls
  rw [List.range_succ, List.filter_append]
  congr 1
  by_cases h : sm r m = true <;> simp [h]
/-- a node more begins a component -/
theorem canonI_new (h : Eqv sm N) {i : Nat} (hi : i < N) (hr : repB sm i = true) : canonI sm (i + 1) = canonI sm i ++ [[i]] := by
  unfold canonI
  rw [reps_succ, if_pos hr, List.map_append]
  congr 1
  · refine List.map_congr_left fun r hr' => ?_
    obtain ⟨h1, h2⟩ := mem_reps.1 hr'
    rw [cls_succ, if_neg, List.append_nil]
    intro e
    have := repB_iff.1 hr r h1
    rw [h.symm r i (by omega) hi e] at this; cases this
  · simp only [List.map_cons, List.map_nil]
    rw [cls_succ, if_pos (h.refl i hi)]
    have : cls sm i i = [] := by
      unfold cls
      rw [List.filter_eq_nil_iff]
      intro k hk
      have := repB_iff.1 hr k (List.mem_range.1 hk)
      simp [this]
    rw [this]; rfl
/-- a node more of a component that is there -/
theorem canonI_old (h : Eqv sm N) {i : Nat} (hi : i < N) (hr : repB sm i = false) : canonI sm (i + 1) = (canonI sm i).set (cno sm i) (((canonI sm i)[cno sm i]?).getD [] ++ [i]) ∧ cno sm i < (canonI sm i).length := by
  have hlt : lst sm i < i := by
    rcases lst_spec (sm := sm) i with ⟨_, e⟩ | ⟨e, _⟩
    · rw [hr] at e; cases e
    · exact e
  have hat := reps_at (sm := sm) hlt (lst_rep h hi)
  have hlen : cno sm i < (canonI sm i).length := by
    unfold canonI
    rw [List.length_map]
    exact (List.getElem?_eq_some_iff.1 hat).1
  refine ⟨?_, hlen⟩
  have hg : (canonI sm i)[cno sm i]? = some (cls sm i (lst sm i)) := by
    unfold canonI
    rw [List.getElem?_map]
    unfold cno
    rw [hat]; rfl
  rw [hg]
  apply List.ext_getElem?
  intro j
  unfold canonI
  rw [reps_succ, hr]
  simp only [Bool.false_eq_true, if_false, List.append_nil, Option.getD_some]
  rw [List.getElem?_map]
  by_cases e : j = cno sm i
  · subst e
    rw [List.getElem?_set_self (by unfold canonI at hlen; exact hlen)]
    unfold cno
    rw [hat]
    simp only [Option.map_some]
    rw [cls_succ, if_pos (h.symm _ _ hi (by omega) (lst_sm h hi))]
  · rw [List.getElem?_set_ne (fun q => e q.symm), List.getElem?_map]
    cases q : (reps sm i)[j]? with
    | none => rfl
    | some r =>
      simp only [Option.map_some]
      obtain ⟨hj, hrj⟩ := List.getElem?_eq_some_iff.1 q
      obtain ⟨h1, h2⟩ := mem_reps.1 (hrj ▸ List.getElem_mem hj)
      rw [cls_succ, if_neg, List.append_nil]
      intro hs
      have hrl : r = lst sm i := rep_uniq h (by omega) (by omega) h2 (lst_rep h hi) (h.trans _ i _ (by omega) hi (by omega) hs (lst_sm h hi))
      apply e
      -- the place of a least node
      have h3 := reps_at (sm := sm) h1 h2
      have hnd : (reps sm i).Pairwise fun x y => x < y := range_asc i _
      have h4 : (reps sm r).length < (reps sm i).length := (List.getElem?_eq_some_iff.1 h3).1
      have h5 : (reps sm i)[(reps sm r).length] = r := (List.getElem?_eq_some_iff.1 h3).2
      have h6 : j = (reps sm r).length := by
        rcases Nat.lt_trichotomy j (reps sm r).length with c | c | c
        · have := List.pairwise_iff_getElem.1 hnd j _ hj h4 c; omega
        · exact c
        · have := List.pairwise_iff_getElem.1 hnd _ j h4 hj c; omega
      rw [h6, hrl]; rfl
/-- any list of all components, each in order, in the order of their first nodes, is this one -/
theorem canon_uniq (h : Eqv sm N) {P : List (List Nat)} (h0 : ∀ p ∈ P, p ≠ [] ∧ p.Pairwise (fun x y => x < y) ∧ (∀ u ∈ p, u < N ∧ ∀ v, v ∈ p ↔ v < N ∧ sm u v = true)) (hc : ∀ v, v < N → ∃ p ∈ P, v ∈ p)
    (hs : P.Pairwise fun p q => p.headD 0 < q.headD 0) : P = canon sm N := by
  have hhead : ∀ p ∈ P, p.headD 0 ∈ p := fun p hp => by
    obtain ⟨h1, _⟩ := h0 p hp
    cases p with
    | nil => exact absurd rfl h1
    | cons a l => simp
  have hleast : ∀ p ∈ P, ∀ u ∈ p, p.headD 0 ≤ u := fun p hp u hu => by
    obtain ⟨h1, h2, _⟩ := h0 p hp
    cases p with
    | nil => simp at hu
    | cons a l =>
      rcases List.mem_cons.1 hu with e | e
      · rw [e]; exact Nat.le_refl _
      · exact Nat.le_of_lt ((List.pairwise_cons.1 h2).1 u e)
  have hm : P.map (fun p => p.headD 0) = reps sm N := by
    refine asc_ext ?_ (range_asc N _) fun x => ?_
    · rw [List.pairwise_map]; exact hs
    · rw [List.mem_map, mem_reps]
      constructor
      · rintro ⟨p, hp, rfl⟩
        obtain ⟨_, _, h3⟩ := h0 p hp
        obtain ⟨h4, h5⟩ := h3 _ (hhead p hp)
        refine ⟨h4, repB_iff.2 fun k hk => ?_⟩
        cases q : sm (p.headD 0) k with
        | false => rfl
        | true =>
          have := hleast p hp k ((h5 k).2 ⟨by omega, q⟩)
          omega
      · rintro ⟨h1, h2⟩
        obtain ⟨p, hp, hx⟩ := hc x h1
        refine ⟨p, hp, ?_⟩
        obtain ⟨_, _, h3⟩ := h0 p hp
        obtain ⟨_, h5⟩ := h3 x hx
        have h6 := hleast p hp x hx
        have h7 := (h5 _).1 (hhead p hp)
        rcases Nat.lt_or_ge (p.headD 0) x with c | c
        · have := repB_iff.1 h2 _ c
          rw [h7.2] at this; cases this
        · show p.headD 0 = x
          omega
  unfold canon
  rw [← hm, List.map_map]
  have : P.map id = P.map (cls sm N ∘ fun p => p.headD 0) := List.map_congr_left fun p hp => by
    show p = cls sm N (p.headD 0)
    obtain ⟨_, h2, h3⟩ := h0 p hp
    obtain ⟨_, h5⟩ := h3 _ (hhead p hp)
    exact asc_ext h2 (range_asc N _) fun v => by rw [h5, mem_cls]
  rw [List.map_id] at this
  exact this
/-- the number of the component that a node is in -/
theorem canon_at (h : Eqv sm N) {j : Nat} {p : List Nat} (hp : (canon sm N)[j]? = some p) {v : Nat} (hv : v < N) : v ∈ p ↔ cno sm v = j := by
  unfold canon at hp
  rw [List.getElem?_map] at hp
  cases q : (reps sm N)[j]? with
  | none => rw [q] at hp; cases hp
  | some r =>
    rw [q] at hp
    obtain rfl := Option.some.inj hp
    obtain ⟨hj, hrj⟩ := List.getElem?_eq_some_iff.1 q
    obtain ⟨h1, h2⟩ := mem_reps.1 (hrj ▸ List.getElem_mem hj)
    rw [mem_cls]
    have hrl : lst sm r = r := by
      rcases lst_spec (sm := sm) r with ⟨e, _⟩ | ⟨e1, e2, _⟩
      · exact e
      · have := repB_iff.1 h2 _ e1; rw [e2] at this; cases this
    have hcr : cno sm r = j := by
      have h3 := cno_at h h1
      rw [hrl] at h3
      obtain ⟨h4, h5⟩ := List.getElem?_eq_some_iff.1 h3
      have hnd : (reps sm N).Pairwise fun x y => x < y := range_asc N _
      rcases Nat.lt_trichotomy (cno sm r) j with c | c | c
      · have := List.pairwise_iff_getElem.1 hnd _ j h4 hj c; omega
      · exact c
      · have := List.pairwise_iff_getElem.1 hnd j _ hj h4 c; omega
    rw [← hcr]
    constructor
    · rintro ⟨_, hs⟩; exact ((cno_same h h1 hv).2 hs).symm
    · intro e; exact ⟨hv, (cno_same h h1 hv).1 e.symm⟩
end
#print axioms canon_uniq
#print axioms canonI_old
#print axioms canon_at
end Go.Proofs.YtdoplaijgocboaaGreat

namespace Go.Proofs.YtdoplaijgocboaaGreat
set_option linter.unusedVariables false

theorem asc_extI : ∀ {a b : List Int}, a.Pairwise (fun x y => x < y) → b.Pairwise (fun x y => x < y) → (∀ x, x ∈ a ↔ x ∈ b) → a = b
  | [], [], _, _, _ => rfl
  | [], y :: ys, _, _, h => by have := (h y).2 (by simp); simp at this
  | x :: xs, [], _, _, h => by have := (h x).1 (by simp); simp at this
  | x :: xs, y :: ys, hx, hy, h => by
    obtain ⟨hx1, hx2⟩ := List.pairwise_cons.1 hx
    obtain ⟨hy1, hy2⟩ := List.pairwise_cons.1 hy
    have e : x = y := by
      rcases List.mem_cons.1 ((h x).1 (by simp)) with e | e
      · exact e
      · rcases List.mem_cons.1 ((h y).2 (by simp)) with e2 | e2
        · exact e2.symm
        · have := hy1 x e; have := hx1 y e2; omega
    subst e
    rw [asc_extI hx2 hy2 fun z => ?_]
    have := h z
    simp only [List.mem_cons] at this
    constructor
    · intro hz
      rcases this.1 (.inr hz) with e | e
      · subst e; have := hx1 z hz; omega
      · exact e
    · intro hz
      rcases this.2 (.inr hz) with e | e
      · subst e; have := hy1 z hz; omega
      · exact e
/-- of one component, by who reaches whom -/
def smR (r : Nat → Nat → Bool) (i k : Nat) : Bool := decide (i = k) || (r i k && r k i)
section
variable {E : Nat → Nat → Prop} {N : Nat} {r : Nat → Nat → Bool}
theorem smR_iff (h : ∀ i j, i < N → j < N → (r i j = true ↔ Way E i j)) {i j : Nat} (hi : i < N) (hj : j < N) : smR r i j = true ↔ Sm E i j := by
  unfold smR Sm Rch
  simp only [Bool.or_eq_true, decide_eq_true_eq, Bool.and_eq_true, h i j hi hj, h j i hj hi]
  constructor
  · rintro (h | ⟨h1, h2⟩)
    · exact ⟨.inl h, .inl h.symm⟩
    · exact ⟨.inr h1, .inr h2⟩
  · rintro ⟨h1 | h1, h2 | h2⟩
    · exact .inl h1
    · exact .inl h1
    · exact .inl h2.symm
    · exact .inr ⟨h1, h2⟩
theorem eqv_smR (h : ∀ i j, i < N → j < N → (r i j = true ↔ Way E i j)) : Eqv (smR r) N :=
  ⟨fun i hi => (smR_iff h hi hi).2 (Sm.refl E i), fun i j hi hj q => (smR_iff h hj hi).2 ((smR_iff h hi hj).1 q).symm, fun i j k hi hj hk q1 q2 => (smR_iff h hi hk).2 (((smR_iff h hi hj).1 q1).trans ((smR_iff h hj hk).1 q2))⟩
/-- a node's number is that of any earlier one of its component -/
theorem cno_old (h : Eqv (smR r) N) {i k : Nat} (hi : i < N) (hk : k < i) (hr : (r i k && r k i) = true) : cno (smR r) i = cno (smR r) k := by
  rw [cno_same h hi (by omega)]
  unfold smR
  rw [hr, Bool.or_true]
theorem cno_new (h : Eqv (smR r) N) {i : Nat} (hr : ∀ k, k < i → (r i k && r k i) = false) : repB (smR r) i = true ∧ cno (smR r) i = (reps (smR r) i).length := by
  have h1 : repB (smR r) i = true := repB_iff.2 fun k hk => by
    unfold smR
    rw [hr k hk, Bool.or_false]
    exact decide_eq_false (by omega)
  refine ⟨h1, ?_⟩
  unfold cno
  rcases lst_spec (sm := smR r) i with ⟨e, _⟩ | ⟨e1, e2, _⟩
  · rw [e]
  · have := repB_iff.1 h1 _ e1; rw [e2] at this; cases this
theorem rep_not (h : Eqv (smR r) N) {i k : Nat} (hi : i < N) (hk : k < i) (hr : (r i k && r k i) = true) : repB (smR r) i = false := by
  rw [Bool.eq_false_iff]
  intro q
  have := repB_iff.1 q k hk
  unfold smR at this
  rw [hr, Bool.or_true] at this; cases this
/-- a node reaches itself just if an edge from it stays within its component -/
theorem closed_iff (h : ∀ i j, i < N → j < N → (r i j = true ↔ Way E i j)) (hn : ∀ i j, E i j → i < N ∧ j < N) {i : Nat} (hi : i < N) : r i i = true ↔ ∃ j, E i j ∧ cno (smR r) i = cno (smR r) j := by
  have hq := eqv_smR h
  rw [h i i hi hi]
  constructor
  · intro hw
    obtain ⟨j, h1, h2⟩ := hw.first
    have hj := (hn i j h1).2
    refine ⟨j, h1, ?_⟩
    rw [cno_same hq hi hj, smR_iff h hi hj]
    refine ⟨Rch.one h1, ?_⟩
    rcases h2 with e | e
    · exact .inl e
    · exact .inr e
  · rintro ⟨j, h1, h2⟩
    have hj := (hn i j h1).2
    rw [cno_same hq hi hj, smR_iff h hi hj] at h2
    rcases h2.2 with e | e
    · subst e; exact .one h1
    · exact .more h1 e
/-- an edge lies on a closed row just if it stays within a component -/
theorem within_iff (h : ∀ i j, i < N → j < N → (r i j = true ↔ Way E i j)) {i j : Nat} (hi : i < N) (hj : j < N) (he : E i j) : cno (smR r) i = cno (smR r) j ↔ i = j ∨ r j i = true := by
  have hq := eqv_smR h
  rw [cno_same hq hi hj, smR_iff h hi hj, h j i hj hi]
  constructor
  · rintro ⟨_, e | e⟩
    · exact .inl e.symm
    · exact .inr e
  · rintro (e | e)
    · subst e; exact Sm.refl E _
    · exact ⟨Rch.one he, .inr e⟩
end
/-! rows of numbers that rise -/
/-- one more, if it is not the last -/
def addL1 (l : List Int) (x : Int) : List Int := if l.getLast? = some x then l else l ++ [x]
structure Up1 (l : List Int) (fs : List Int) : Prop where
  asc : l.Pairwise fun x y => x < y
  mem : ∀ x, x ∈ l ↔ x ∈ fs
  last : ∀ x, l.getLast? = some x → ∀ y ∈ fs, y ≤ x
theorem Up1.nil : Up1 [] [] := ⟨List.Pairwise.nil, fun x => Iff.rfl, fun x h => by simp at h⟩
theorem Up1.snoc {l fs : List Int} (h : Up1 l fs) {x : Int} (hx : ∀ y ∈ fs, y ≤ x) : Up1 (addL1 l x) (fs ++ [x]) := by
  unfold addL1
  by_cases e : l.getLast? = some x
  · rw [if_pos e]
    have hxl : x ∈ l := List.mem_of_getLast? e
    refine ⟨h.asc, fun y => ?_, fun y hy z hz => ?_⟩
    · rw [List.mem_append, List.mem_singleton, h.mem y]
      constructor
      · exact .inl
      · rintro (q | q)
        · exact q
        · rw [q]; exact (h.mem x).1 hxl
    · obtain rfl : x = y := by rw [e] at hy; exact Option.some.inj hy
      rcases List.mem_append.1 hz with q | q
      · exact hx z q
      · rw [List.mem_singleton] at q; omega
  · rw [if_neg e]
    refine ⟨List.pairwise_append.2 ⟨h.asc, by simp, fun a ha b hb => ?_⟩, fun y => ?_, fun y hy z hz => ?_⟩
    · rw [List.mem_singleton] at hb
      subst hb
      have h1 := hx a ((h.mem a).1 ha)
      have hne : l ≠ [] := fun q => by rw [q] at ha; simp at ha
      obtain ⟨m, hm⟩ : ∃ m, l.getLast? = some m := ⟨l.getLast hne, List.getLast?_eq_some_getLast hne⟩
      have h2 := hx m ((h.mem m).1 (List.mem_of_getLast? hm))
      have h3 := h.last m hm a ((h.mem a).1 ha)
      have h4 : m ≠ b := fun q => e (by rw [hm, q])
      omega
    · rw [List.mem_append, List.mem_append, h.mem y]
    · rw [List.getLast?_append] at hy
      obtain rfl : x = y := by simpa using hy
      rcases List.mem_append.1 hz with q | q
      · exact hx z q
      · rw [List.mem_singleton] at q; omega
#print axioms Up1.snoc
#print axioms closed_iff
end Go.Proofs.YtdoplaijgocboaaGreat

namespace Go.Proofs.YtdoplaijgocboaaGreat
open Go.RowKit
set_option linter.unusedVariables false
section
variable {P : Program} {ops : Array Oper} {Q : Exit → Act → World → Prop} {md : Region.Mode} {s : Nat} {S : Bool → World → Prop}

/-- what has come up has had all that it waits for -/
def ClA (md : Region.Mode) (ops : Array Oper) (L : Array Bool) : Prop := ∀ j oj, ops[j]? = some oj → L.getD j false = true → ∀ e ∈ oj.after, Region.binds md e = true → L.getD e.on false = true
theorem clA_ready {L : Array Bool} {j : Nat} (h : ClA md ops L) (hj : j ∈ Region.ready md ops L) : ClA md ops (L.setIfInBounds j true) := by
  intro k ok hok hl e he hb
  by_cases hjk : j = k
  · subst hjk
    obtain ⟨_, oj, hoj, hall⟩ := mem_ready.1 hj
    have : oj = ok := Option.some.inj (hoj.symm.trans hok)
    subst this
    exact getD_set_true (hall e he hb)
  · rw [getD_set_ne false hjk] at hl
    exact getD_set_true (h k ok hok hl e he hb)
/-- does s wait for i, itself or through others? -/
def waitsT (md : Region.Mode) (ops : Array Oper) (i : Nat) : Nat → Nat → Bool
  | 0, _ => false
  | f + 1, s => match ops[s]? with
    | none => false
    | some os => os.after.any fun e => Region.binds md e && (e.on == i || waitsT md ops i f e.on)
theorem clA_un {L : Array Bool} {i : Nat} (h : ClA md ops L) (hi : L.getD i true = false) : ∀ {f s : Nat}, waitsT md ops i f s = true → L.getD s false = false
  | 0, s, hw => by cases hw
  | f + 1, s, hw => by
    unfold waitsT at hw
    cases hos : ops[s]? with
    | none => rw [hos] at hw; cases hw
    | some os =>
      rw [hos] at hw
      simp only [Array.any_eq_true, List.any_eq_true, Bool.and_eq_true, Bool.or_eq_true, beq_iff_eq] at hw
      cases hl : L.getD s false with
      | false => rfl
      | true =>
        have hcl : ∀ e ∈ os.after, Region.binds md e = true → L.getD e.on false = true := h s os hos hl
        obtain ⟨e, he, hb, hor⟩ : ∃ e, e ∈ os.after ∧ Region.binds md e = true ∧ (e.on = i ∨ waitsT md ops i f e.on = true) := by
          first
            | (obtain ⟨k, hk, hb, hor⟩ := hw; exact ⟨_, Array.getElem_mem hk, hb, hor⟩)
            | (obtain ⟨e, he, hb, hor⟩ := hw; exact ⟨e, he, hb, hor⟩)
        have h1 := hcl e he hb
        rcases hor with q | q
        · rw [q, getD_both hi] at h1; cases h1
        · rw [clA_un h hi q] at h1; cases h1
theorem wpT_first {i : Nat} {oi : Oper} {v : Value} {fu : Nat} (hi : ops[i]? = some oi) (hsel : ∀ (j : Nat) (o : Oper) cs b, ops[j]? = some o → o.op ≠ .select cs b)
    (hQ : ∀ c a w, Q (.panic c) (a.put oi.dst v) w → Q (.panic c) a w) (his : i ≠ s) (hw : waitsT md ops i fu s = true) :
    ∀ (f : Nat) (L : Array Bool) (a : Act) (w : World),
      (∀ j oj, ops[j]? = some oj → j ≠ i → L.getD j true = false → (∀ e ∈ oj.after, Region.binds md e = true → e.on ≠ i) → oi.apart ops oj = true) →
      i ∈ Region.ready md ops L → YieldsIf P ops (S false) oi v a → S (L.getD s false) w → ClA md ops L →
      wpG P md ops Q s S f (L.setIfInBounds i true) (a.put oi.dst v) w → wpG P md ops Q s S (f + 1) L a w := by
  intro f
  induction f with
  | zero =>
    intro L a w _ hr hy hS hc H
    have hun := clA_un hc (mem_ready.1 hr).1 hw
    rw [hun] at hS
    refine ⟨fun h => (by rw [h] at hr; cases hr), fun j hj => ?_⟩
    by_cases hji : j = i
    · subst hji; exact hy.wpOp hi hS ⟨by rw [getD_set_ne false his, hun]; exact hS, H⟩
    · have := ready_mono hj hji
      rw [H.1] at this; cases this
  | succ f ih =>
    intro L a w hfree hr hy hS hc H
    have hun := clA_un hc (mem_ready.1 hr).1 hw
    refine ⟨fun h => (by rw [h] at hr; cases hr), fun j hj => ?_⟩
    by_cases hji : j = i
    · subst hji
      rw [hun] at hS
      exact hy.wpOp hi hS ⟨by rw [getD_set_ne false his, hun]; exact hS, H⟩
    · have h1 := H.2 j (ready_mono hj hji)
      obtain ⟨hjun, oj, hoj, hall⟩ := mem_ready.1 hj
      have hnot : ∀ e ∈ oj.after, Region.binds md e = true → e.on ≠ i := fun e he hb heq => by
        have h1 := hall e he hb
        rw [heq, getD_both (mem_ready.1 hr).1] at h1
        cases h1
      have h2 := wpOp_putIf hoj (hfree j oj hoj hji hjun hnot) (fun cs b => hsel i oi cs b hi) (fun cs b => hsel j oj cs b hoj) hQ hy h1
      have hfree' : ∀ k ok, ops[k]? = some ok → k ≠ i → (L.setIfInBounds j true).getD k true = false →
          (∀ e ∈ ok.after, Region.binds md e = true → e.on ≠ i) → oi.apart ops ok = true := fun k ok hk hki hun hno => by
        refine hfree k ok hk hki ?_ hno
        by_cases hjk : j = k
        · subst hjk; exact hjun
        · rw [getD_set_ne true hjk] at hun; exact hun
      refine wpOp_mono (fun a' w' h3 => ?_) h2
      have hSj : S ((L.setIfInBounds j true).getD s false) w' := by
        have := h3.2.1
        rw [Array.setIfInBounds_comm _ _ (Ne.symm hji), getD_set_ne false his] at this
        exact this
      refine ⟨hSj, ih (L.setIfInBounds j true) a' w' hfree' (ready_mono hr (Ne.symm hji)) h3.1 hSj (clA_ready hc hj) ?_⟩
      rw [Array.setIfInBounds_comm _ _ hji]
      exact h3.2.2
theorem both_S {b : Bool} {W : World} (h : S b W) : S true W ∨ S false W := by
  cases b
  · exact .inr h
  · exact .inl h
/-- what yields its value in whatever world -/
theorem wpT_firstA {i : Nat} {oi : Oper} {v : Value} (hi : ops[i]? = some oi) (hsel : ∀ (j : Nat) (o : Oper) cs b, ops[j]? = some o → o.op ≠ .select cs b)
    (hQ : ∀ c a w, Q (.panic c) (a.put oi.dst v) w → Q (.panic c) a w) (his : i ≠ s) :
    ∀ (f : Nat) (L : Array Bool) (a : Act) (w : World),
      (∀ j oj, ops[j]? = some oj → j ≠ i → L.getD j true = false → (∀ e ∈ oj.after, Region.binds md e = true → e.on ≠ i) → oi.apart ops oj = true) →
      i ∈ Region.ready md ops L → YieldsIf P ops (fun W => S true W ∨ S false W) oi v a → S (L.getD s false) w → ClA md ops L →
      wpG P md ops Q s S f (L.setIfInBounds i true) (a.put oi.dst v) w → wpG P md ops Q s S (f + 1) L a w := by
  intro f
  induction f with
  | zero =>
    intro L a w _ hr hy hS hc H
    refine ⟨fun h => (by rw [h] at hr; cases hr), fun j hj => ?_⟩
    by_cases hji : j = i
    · subst hji; exact hy.wpOp hi (both_S hS) ⟨by rw [getD_set_ne false his]; exact hS, H⟩
    · have := ready_mono hj hji
      rw [H.1] at this; cases this
  | succ f ih =>
    intro L a w hfree hr hy hS hc H
    refine ⟨fun h => (by rw [h] at hr; cases hr), fun j hj => ?_⟩
    by_cases hji : j = i
    · subst hji
      exact hy.wpOp hi (both_S hS) ⟨by rw [getD_set_ne false his]; exact hS, H⟩
    · have h1 := H.2 j (ready_mono hj hji)
      obtain ⟨hjun, oj, hoj, hall⟩ := mem_ready.1 hj
      have hnot : ∀ e ∈ oj.after, Region.binds md e = true → e.on ≠ i := fun e he hb heq => by
        have h1 := hall e he hb
        rw [heq, getD_both (mem_ready.1 hr).1] at h1
        cases h1
      have h2 := wpOp_putIf hoj (hfree j oj hoj hji hjun hnot) (fun cs b => hsel i oi cs b hi) (fun cs b => hsel j oj cs b hoj) hQ hy h1
      have hfree' : ∀ k ok, ops[k]? = some ok → k ≠ i → (L.setIfInBounds j true).getD k true = false →
          (∀ e ∈ ok.after, Region.binds md e = true → e.on ≠ i) → oi.apart ops ok = true := fun k ok hk hki hun hno => by
        refine hfree k ok hk hki ?_ hno
        by_cases hjk : j = k
        · subst hjk; exact hjun
        · rw [getD_set_ne true hjk] at hun; exact hun
      refine wpOp_mono (fun a' w' h3 => ?_) h2
      have hSj : S ((L.setIfInBounds j true).getD s false) w' := by
        have := h3.2.1
        rw [Array.setIfInBounds_comm _ _ (Ne.symm hji), getD_set_ne false his] at this
        exact this
      refine ⟨hSj, ih (L.setIfInBounds j true) a' w' hfree' (ready_mono hr (Ne.symm hji)) h3.1 hSj (clA_ready hc hj) ?_⟩
      rw [Array.setIfInBounds_comm _ _ hji]
      exact h3.2.2
theorem wpT_take {i : Nat} {oi : Oper} {v : Value} {f : Nat} {L : Array Bool} {a : Act} {w : World} (hi : ops[i]? = some oi)
    (hs : Region.noSelect ops = true) (hf : Region.free md ops L i = true) (hr : (Region.ready md ops L).contains i = true) (hw : waitsT md ops i ops.size s = true)
    (hQ : ∀ c a w, Q (.panic c) (a.put oi.dst v) w → Q (.panic c) a w) (his : i ≠ s) (hy : YieldsIf P ops (S false) oi v a) (hc : ClA md ops L) (hS : S (L.getD s false) w)
    (h : S ((L.setIfInBounds i true).getD s false) w → ClA md ops (L.setIfInBounds i true) → wpG P md ops Q s S f (L.setIfInBounds i true) (a.put oi.dst v) w) : wpG P md ops Q s S (f + 1) L a w :=
  wpT_first hi (Region.noSelect_spec hs) hQ his hw f L a w (Region.free_spec hi hf) (by simpa using hr) hy hS hc (h (by rw [getD_set_ne false his]; exact hS) (clA_ready hc (by simpa using hr)))
theorem wpT_takeA {i : Nat} {oi : Oper} {v : Value} {f : Nat} {L : Array Bool} {a : Act} {w : World} (hi : ops[i]? = some oi)
    (hs : Region.noSelect ops = true) (hf : Region.free md ops L i = true) (hr : (Region.ready md ops L).contains i = true)
    (hQ : ∀ c a w, Q (.panic c) (a.put oi.dst v) w → Q (.panic c) a w) (his : i ≠ s) (hy : YieldsIf P ops (fun W => S true W ∨ S false W) oi v a) (hc : ClA md ops L) (hS : S (L.getD s false) w)
    (h : S ((L.setIfInBounds i true).getD s false) w → ClA md ops (L.setIfInBounds i true) → wpG P md ops Q s S f (L.setIfInBounds i true) (a.put oi.dst v) w) : wpG P md ops Q s S (f + 1) L a w :=
  wpT_firstA hi (Region.noSelect_spec hs) hQ his f L a w (Region.free_spec hi hf) (by simpa using hr) hy hS hc (h (by rw [getD_set_ne false his]; exact hS) (clA_ready hc (by simpa using hr)))
theorem wpT_one {i : Nat} {o : Oper} {f : Nat} {L : Array Bool} {a : Act} {w : World} (hr : Region.ready md ops L = [i]) (ho : ops[i]? = some o) (hc : ClA md ops L)
    (h : ∀ K' : Act → World → Prop, Shut (∀ a w, S ((L.setIfInBounds i true).getD s false) w → (S ((L.setIfInBounds i true).getD s false) w → ClA md ops (L.setIfInBounds i true) → wpG P md ops Q s S f (L.setIfInBounds i true) a w) → K' a w) → if Region.wanted o (yielded ops a.tmps) = true then Oper.wp P o a w K' Q else K' (a.put o.dst undef) w) :
    wpG P md ops Q s S (f + 1) L a w :=
  ⟨fun h0 => (by rw [hr] at h0; cases h0), fun j hj => by
    rw [hr, List.mem_singleton] at hj
    subst hj
    exact wpOp_step ho (fun K' hK => h K' (fun a w hS hW => hK a w ⟨hS, hW hS (clA_ready hc (by rw [hr]; simp))⟩))⟩
theorem clA_none : ∀ {n : Nat}, ClA md ops (Array.replicate n false) := by
  intro n j oj hoj hl
  rw [getD_replicate_false] at hl
  cases hl
theorem wp_region_T {id : Nat} {a : Act} {w : World} (s : Nat) (S : Bool → World → Prop) (hm : P.follows .mixedOrders = true) (hS : S false w.drew)
    (h : S ((Array.replicate ops.size false).getD s false) w.drew → ClA .any ops (Array.replicate ops.size false) → wpG P .any ops Q s S ops.size (Array.replicate ops.size false) a w.drew) : (Code.region id ops true).wp P Q a w :=
  wp_region_any hm (wpAny_of_wpG _ _ _ _ (h (by rw [getD_replicate_false]; exact hS) clA_none))
end
#print axioms wp_region_T
end Go.Proofs.YtdoplaijgocboaaGreat

namespace Go.Proofs.YtdoplaijgocboaaGreat
open Go.RowKit
set_option linter.unusedVariables false

/-- where a search lies: the graph, its struct (1), when nodes were seen (2), the least of those that they reach (3), who is open (4), the parts' box (6). Other colours: 5 the stack's row, 7 the parts' row, 8 the parts, 9 the way's row, 10 the rows of nodes next to one -/
structure SP where
  gb : Nat
  sb : Nat
  nb : Nat
  lb : Nat
  ob : Nat
  pb : Nat
def natsI (l : List Nat) : List Int := l.map fun i => ((i : Nat) : Int)
theorem natsI_len (l : List Nat) : (natsI l).length = l.length := by simp [natsI]
theorem natsI_app (a b : List Nat) : natsI (a ++ b) = natsI a ++ natsI b := by simp [natsI]
theorem gi_natsI {l : List Nat} {k : Nat} (h : k < l.length) : gi (natsI l) k = ((l[k] : Nat) : Int) := by simp [gi, natsI, h]
/-- a row of numbers, of truths, that may be written -/
def NumB (w : World) (b N : Nat) (f : Nat → Nat) : Prop := ∀ i, i < N → w.cell? ⟨b, i, none⟩ = some (.int .i64 (f i : Nat)) ∧ w.frozen? ⟨b, i, none⟩ = false
def TruB (w : World) (b N : Nat) (f : Nat → Bool) : Prop := ∀ i, i < N → w.cell? ⟨b, i, none⟩ = some (.bool (f i)) ∧ w.frozen? ⟨b, i, none⟩ = false
section
variable {w w' : World} {S : Nat → Prop} {b N : Nat}
theorem NumB.keep {f : Nat → Nat} (h : NumB w b N f) (hf : Fx S w w') (hn : ¬ S b) : NumB w' b N f := fun i hi => hf.cellF (h i hi).1 (h i hi).2 hn
theorem TruB.keep {f : Nat → Bool} (h : TruB w b N f) (hf : Fx S w w') (hn : ¬ S b) : TruB w' b N f := fun i hi => hf.cellF (h i hi).1 (h i hi).2 hn
theorem NumB.put {f : Nat → Nat} (h : NumB w b N f) {i : Nat} (hi : i < N) (v : Nat) : NumB (w.setCell ⟨b, i, none⟩ (.int .i64 (v : Nat))) b N (fun j => if j = i then v else f j) := fun j hj => by
  obtain ⟨c1, c2⟩ := h j hj
  refine ⟨?_, by simpa using c2⟩
  by_cases e : j = i
  · subst e; simp only [if_true]; exact World.cell?_setCell_same _ _ _ c1
  · simp only [if_neg e]; rw [World.cell?_setCell_other _ _ _ _ (by intro q; injection q; omega)]; exact c1
theorem TruB.put {f : Nat → Bool} (h : TruB w b N f) {i : Nat} (hi : i < N) (v : Bool) : TruB (w.setCell ⟨b, i, none⟩ (.bool v)) b N (fun j => if j = i then v else f j) := fun j hj => by
  obtain ⟨c1, c2⟩ := h j hj
  refine ⟨?_, by simpa using c2⟩
  by_cases e : j = i
  · subst e; simp only [if_true]; exact World.cell?_setCell_same _ _ _ c1
  · simp only [if_neg e]; rw [World.cell?_setCell_other _ _ _ _ (by intro q; injection q; omega)]; exact c1
theorem NumB.congr {f g : Nat → Nat} (h : NumB w b N f) (he : ∀ i, i < N → f i = g i) : NumB w b N g := fun i hi => by rw [← he i hi]; exact h i hi
theorem TruB.congr {f g : Nat → Bool} (h : TruB w b N f) (he : ∀ i, i < N → f i = g i) : TruB w b N g := fun i hi => by rw [← he i hi]; exact h i hi
end
/-- the parts' values: rows in blocks of their own -/
def partVals (B C : Nat → Nat) (P : List (List Nat)) : List Value := (List.range P.length).map fun i => .slice (some ⟨B i, 0, none⟩) (P.getD i []).length (C i)
theorem partVals_len (B C : Nat → Nat) (P : List (List Nat)) : (partVals B C P).length = P.length := by simp [partVals]
theorem partVals_snoc (B C : Nat → Nat) (P : List (List Nat)) (p : List Nat) (b c : Nat) :
    partVals (fun i => if i = P.length then b else B i) (fun i => if i = P.length then c else C i) (P ++ [p]) = partVals B C P ++ [.slice (some ⟨b, 0, none⟩) p.length c] := by
  unfold partVals
  rw [List.length_append, List.length_singleton, List.range_succ, List.map_append]
  congr 1
  · refine List.map_congr_left fun i hi => ?_
    have hi := List.mem_range.1 hi
    have e : ¬ i = P.length := by omega
    simp [e, List.getD, List.getElem?_append_left hi]
  · simp [List.getD]
/-- a prefix of a row of the call's own -/
theorem ownsRow_take {w : World} {base : Nat} {e : TypeId} {size g cap n m : Nat} {xs : List Value} (h : w.ownsRow base e size (.slice (some ⟨g, 0, none⟩) n cap) n xs) (hm : m ≤ n) : w.ownsRow base e size (.slice (some ⟨g, 0, none⟩) m cap) m (xs.take (m * size)) := by
  obtain ⟨h1, h2⟩ := h
  have hms : m * size ≤ n * size := Nat.mul_le_mul_right _ hm
  rcases h2 with ⟨h0, _⟩ | ⟨g', cap', cur, hv, hg, hh, hn, hcap, hsz, htake⟩
  · cases h0
  · cases hv
    refine ⟨by rw [List.length_take, h1]; omega, .inr ⟨g, cap, cur, rfl, hg, hh, by omega, hcap, hsz, ?_⟩⟩
    rw [← htake, List.take_take, Nat.min_eq_left hms]
/-- where a search stands -/
structure SrV (w0 w : World) (k : SP) (col : Nat → Nat) (N : Nat) (L : List Ed) (D : Nat → Prop) (num low : Nat → Nat) (seen : Nat) (opn : Nat → Bool) (st : List Nat) (stv : Value) (P : List (List Nat)) (B C : Nat → Nat) (pv : Value) : Prop where
  fx : Fx No w0 w
  g : GraphV w D k.gb N L
  old : ∀ x, D x → col x = 0
  new : ∀ x, col x ≠ 0 → w0.heap.size ≤ x ∧ x < w.heap.size
  k1 : col k.sb = 1
  k2 : col k.nb = 2
  k3 : col k.lb = 3
  k4 : col k.ob = 4
  k6 : col k.pb = 6
  ks : ∀ g, stv.ownBlock = some g → col g = 5
  kp : ∀ g, pv.ownBlock = some g → col g = 7
  kb : ∀ i, i < P.length → col (B i) = 8
  inj : ∀ i j, i < P.length → j < P.length → B i = B j → i = j
  c0 : w.cell? ⟨k.sb, 0, none⟩ = some (.pointer (some ⟨k.gb, 0, none⟩))
  c1 : w.cell? ⟨k.sb, 1, none⟩ = some (.int .i64 (seen : Nat)) ∧ w.frozen? ⟨k.sb, 1, none⟩ = false
  c2 : w.cell? ⟨k.sb, 2, none⟩ = some (.slice (some ⟨k.nb, 0, none⟩) N N)
  c3 : w.cell? ⟨k.sb, 3, none⟩ = some (.slice (some ⟨k.lb, 0, none⟩) N N)
  c4 : w.cell? ⟨k.sb, 4, none⟩ = some stv ∧ w.frozen? ⟨k.sb, 4, none⟩ = false
  c5 : w.cell? ⟨k.sb, 5, none⟩ = some (.slice (some ⟨k.ob, 0, none⟩) N N)
  c6 : w.cell? ⟨k.sb, 6, none⟩ = some (.func (.func 37) #[.pointer (some ⟨k.pb, 0, none⟩)] #[])
  num : NumB w k.nb N num
  low : NumB w k.lb N low
  opn : TruB w k.ob N opn
  st : w.ownsRow w0.heap.size 3 1 stv st.length (ints (natsI st))
  pc : w.cell? ⟨k.pb, 0, none⟩ = some pv ∧ w.frozen? ⟨k.pb, 0, none⟩ = false
  ps : w.ownsRow w0.heap.size 23 1 pv P.length (partVals B C P)
  pe : ∀ i, i < P.length → CellsI w (B i) 0 (natsI (P.getD i []))
  pcap : ∀ i, i < P.length → (P.getD i []).length ≤ C i ∧ C i ≤ maxLen
section
variable {w0 w w' : World} {k : SP} {col : Nat → Nat} {N : Nat} {L : List Ed} {D S : Nat → Prop} {num low : Nat → Nat} {seen : Nat} {opn : Nat → Bool} {st : List Nat} {stv : Value} {P : List (List Nat)} {B C : Nat → Nat} {pv : Value}
/-- what turns no coloured block below 9, nor any old one -/
theorem SrV.keep (h : SrV w0 w k col N L D num low seen opn st stv P B C pv) (hf : Fx S w w') (hS : ∀ x, S x → x < w.heap.size → 9 ≤ col x) : SrV w0 w' k col N L D num low seen opn st stv P B C pv := by
  have n : ∀ x, col x < 9 → x < w.heap.size → ¬ S x := fun x hx hl hs => by have := hS x hs hl; omega
  have l : ∀ x, col x ≠ 0 → x < w.heap.size := fun x hx => (h.new x hx).2
  have c : ∀ x c, col x = c → 0 < c → c < 9 → ¬ S x := fun x c e h0 h9 => n x (by omega) (l x (by omega))
  have e1 := c _ _ h.k1 (by omega) (by omega)
  have e6 := c _ _ h.k6 (by omega) (by omega)
  have hz := hf.size
  exact ⟨h.fx.trans' hf fun j h1 h2 => by
      by_cases q : col j = 0
      · have := hS j h1 (by have := h.fx.size; omega); omega
      · have := (h.new j q).1; omega,
    h.g.keep (S := fun x => S x ∧ x < w.heap.size) (hf.mono fun x hx hs => ⟨hs, hx⟩) fun x hx hs => by have := hS x hs.1 hs.2; rw [h.old x hx] at this; omega, h.old, fun x hx => ⟨(h.new x hx).1, by have := (h.new x hx).2; omega⟩, h.k1, h.k2, h.k3, h.k4, h.k6, h.ks, h.kp, h.kb, h.inj,
    hf.cell' h.c0 e1, hf.cellF h.c1.1 h.c1.2 e1, hf.cell' h.c2 e1, hf.cell' h.c3 e1, hf.cellF h.c4.1 h.c4.2 e1, hf.cell' h.c5 e1, hf.cell' h.c6 e1,
    h.num.keep hf (c _ _ h.k2 (by omega) (by omega)), h.low.keep hf (c _ _ h.k3 (by omega) (by omega)), h.opn.keep hf (c _ _ h.k4 (by omega) (by omega)),
    ownsRow_fx h.st hf fun g e => c _ _ (h.ks g e) (by omega) (by omega), hf.cellF h.pc.1 h.pc.2 e6, ownsRow_fx h.ps hf fun g e => c _ _ (h.kp g e) (by omega) (by omega),
    fun i hi => (h.pe i hi).keep hf (c _ _ (h.kb i hi) (by omega) (by omega)), h.pcap⟩
theorem SrV.no (h : SrV w0 w k col N L D num low seen opn st stv P B C pv) (hf : Fx No w w') : SrV w0 w' k col N L D num low seen opn st stv P B C pv := h.keep hf fun x hx => hx.elim
/-- other colours for what is new -/
theorem SrV.recol (h : SrV w0 w k col N L D num low seen opn st stv P B C pv) {col' : Nat → Nat} (h1 : ∀ x, col x ≠ 0 → col' x = col x) (h2 : ∀ x, D x → col' x = 0) (h3 : ∀ x, col' x ≠ 0 → w0.heap.size ≤ x ∧ x < w.heap.size) :
    SrV w0 w k col' N L D num low seen opn st stv P B C pv := by
  have e : ∀ x c, col x = c → c ≠ 0 → col' x = c := fun x c q q0 => by rw [h1 x (by omega), q]
  exact { h with
    old := h2
    new := h3
    k1 := e _ _ h.k1 (by omega)
    k2 := e _ _ h.k2 (by omega)
    k3 := e _ _ h.k3 (by omega)
    k4 := e _ _ h.k4 (by omega)
    k6 := e _ _ h.k6 (by omega)
    ks := fun g q => e _ _ (h.ks g q) (by omega)
    kp := fun g q => e _ _ (h.kp g q) (by omega)
    kb := fun i hi => e _ _ (h.kb i hi) (by omega) }
theorem SrV.stLe (h : SrV w0 w k col N L D num low seen opn st stv P B C pv) : w0.heap.size ≤ w.heap.size := h.fx.size
/-- a node is seen -/
theorem SrV.see (h : SrV w0 w k col N L D num low seen opn st stv P B C pv) (v : Nat) : SrV w0 (w.setCell ⟨k.sb, 1, none⟩ (.int .i64 (v : Nat))) k col N L D num low v opn st stv P B C pv := by
  have hf : Fx (fun x => x = k.sb) w (w.setCell ⟨k.sb, 1, none⟩ (.int .i64 (v : Nat))) := Fx.put _ _ _ _
  have l1 := h.new k.sb (by rw [h.k1]; omega)
  have hz : (w.setCell ⟨k.sb, 1, none⟩ (.int .i64 (v : Nat))).heap.size = w.heap.size := by simp [World.setCell]
  have n : ∀ x c, col x = c → c ≠ 1 → ¬ x = k.sb := fun x c q q1 e => by rw [e, h.k1] at q; omega
  have o : ∀ j : Nat, j ≠ 1 → (⟨k.sb, 1, none⟩ : Addr) ≠ ⟨k.sb, j, none⟩ := fun j hj e => by injection e; omega
  refine ⟨h.fx.trans' hf fun j e h2 => by have e : j = k.sb := e; omega, h.g.keep hf fun x hx e => n x 0 (h.old x hx) (by omega) e, h.old, fun x hx => by rw [hz]; exact h.new x hx, h.k1, h.k2, h.k3, h.k4, h.k6, h.ks, h.kp, h.kb, h.inj,
    ?_, ⟨World.cell?_setCell_same _ _ _ h.c1.1, by simpa using h.c1.2⟩, ?_, ?_, ⟨?_, by simpa using h.c4.2⟩, ?_, ?_, h.num.keep hf (n _ _ h.k2 (by omega)), h.low.keep hf (n _ _ h.k3 (by omega)), h.opn.keep hf (n _ _ h.k4 (by omega)),
    ownsRow_fx h.st hf fun g e => n _ _ (h.ks g e) (by omega), hf.cellF h.pc.1 h.pc.2 (n _ _ h.k6 (by omega)), ownsRow_fx h.ps hf fun g e => n _ _ (h.kp g e) (by omega), fun i hi => (h.pe i hi).keep hf (n _ _ (h.kb i hi) (by omega)), h.pcap⟩
  · rw [World.cell?_setCell_other _ _ _ _ (o 0 (by omega))]; exact h.c0
  · rw [World.cell?_setCell_other _ _ _ _ (o 2 (by omega))]; exact h.c2
  · rw [World.cell?_setCell_other _ _ _ _ (o 3 (by omega))]; exact h.c3
  · rw [World.cell?_setCell_other _ _ _ _ (o 4 (by omega))]; exact h.c4.1
  · rw [World.cell?_setCell_other _ _ _ _ (o 5 (by omega))]; exact h.c5
  · rw [World.cell?_setCell_other _ _ _ _ (o 6 (by omega))]; exact h.c6
/-- a number is written -/
theorem SrV.putNum (h : SrV w0 w k col N L D num low seen opn st stv P B C pv) {i : Nat} (hi : i < N) (v : Nat) : SrV w0 (w.setCell ⟨k.nb, i, none⟩ (.int .i64 (v : Nat))) k col N L D (fun j => if j = i then v else num j) low seen opn st stv P B C pv := by
  have hf : Fx (fun x => x = k.nb) w (w.setCell ⟨k.nb, i, none⟩ (.int .i64 (v : Nat))) := Fx.put _ _ _ _
  have l1 := h.new k.nb (by rw [h.k2]; omega)
  have hz : (w.setCell ⟨k.nb, i, none⟩ (.int .i64 (v : Nat))).heap.size = w.heap.size := by simp [World.setCell]
  have n : ∀ x c, col x = c → c ≠ 2 → ¬ x = k.nb := fun x c q q1 e => by rw [e, h.k2] at q; omega
  have e1 := n _ _ h.k1 (by omega)
  exact ⟨h.fx.trans' hf fun j e h2 => by have e : j = k.nb := e; omega, h.g.keep hf fun x hx e => n x 0 (h.old x hx) (by omega) e, h.old, fun x hx => by rw [hz]; exact h.new x hx, h.k1, h.k2, h.k3, h.k4, h.k6, h.ks, h.kp, h.kb, h.inj,
    hf.cell' h.c0 e1, hf.cellF h.c1.1 h.c1.2 e1, hf.cell' h.c2 e1, hf.cell' h.c3 e1, hf.cellF h.c4.1 h.c4.2 e1, hf.cell' h.c5 e1, hf.cell' h.c6 e1, h.num.put hi v, h.low.keep hf (n _ _ h.k3 (by omega)), h.opn.keep hf (n _ _ h.k4 (by omega)),
    ownsRow_fx h.st hf fun g e => n _ _ (h.ks g e) (by omega), hf.cellF h.pc.1 h.pc.2 (n _ _ h.k6 (by omega)), ownsRow_fx h.ps hf fun g e => n _ _ (h.kp g e) (by omega), fun i hi => (h.pe i hi).keep hf (n _ _ (h.kb i hi) (by omega)), h.pcap⟩
theorem SrV.putLow (h : SrV w0 w k col N L D num low seen opn st stv P B C pv) {i : Nat} (hi : i < N) (v : Nat) : SrV w0 (w.setCell ⟨k.lb, i, none⟩ (.int .i64 (v : Nat))) k col N L D num (fun j => if j = i then v else low j) seen opn st stv P B C pv := by
  have hf : Fx (fun x => x = k.lb) w (w.setCell ⟨k.lb, i, none⟩ (.int .i64 (v : Nat))) := Fx.put _ _ _ _
  have l1 := h.new k.lb (by rw [h.k3]; omega)
  have hz : (w.setCell ⟨k.lb, i, none⟩ (.int .i64 (v : Nat))).heap.size = w.heap.size := by simp [World.setCell]
  have n : ∀ x c, col x = c → c ≠ 3 → ¬ x = k.lb := fun x c q q1 e => by rw [e, h.k3] at q; omega
  have e1 := n _ _ h.k1 (by omega)
  exact ⟨h.fx.trans' hf fun j e h2 => by have e : j = k.lb := e; omega, h.g.keep hf fun x hx e => n x 0 (h.old x hx) (by omega) e, h.old, fun x hx => by rw [hz]; exact h.new x hx, h.k1, h.k2, h.k3, h.k4, h.k6, h.ks, h.kp, h.kb, h.inj,
    hf.cell' h.c0 e1, hf.cellF h.c1.1 h.c1.2 e1, hf.cell' h.c2 e1, hf.cell' h.c3 e1, hf.cellF h.c4.1 h.c4.2 e1, hf.cell' h.c5 e1, hf.cell' h.c6 e1, h.num.keep hf (n _ _ h.k2 (by omega)), h.low.put hi v, h.opn.keep hf (n _ _ h.k4 (by omega)),
    ownsRow_fx h.st hf fun g e => n _ _ (h.ks g e) (by omega), hf.cellF h.pc.1 h.pc.2 (n _ _ h.k6 (by omega)), ownsRow_fx h.ps hf fun g e => n _ _ (h.kp g e) (by omega), fun i hi => (h.pe i hi).keep hf (n _ _ (h.kb i hi) (by omega)), h.pcap⟩
theorem SrV.putOpn (h : SrV w0 w k col N L D num low seen opn st stv P B C pv) {i : Nat} (hi : i < N) (v : Bool) : SrV w0 (w.setCell ⟨k.ob, i, none⟩ (.bool v)) k col N L D num low seen (fun j => if j = i then v else opn j) st stv P B C pv := by
  have hf : Fx (fun x => x = k.ob) w (w.setCell ⟨k.ob, i, none⟩ (.bool v)) := Fx.put _ _ _ _
  have l1 := h.new k.ob (by rw [h.k4]; omega)
  have hz : (w.setCell ⟨k.ob, i, none⟩ (.bool v)).heap.size = w.heap.size := by simp [World.setCell]
  have n : ∀ x c, col x = c → c ≠ 4 → ¬ x = k.ob := fun x c q q1 e => by rw [e, h.k4] at q; omega
  have e1 := n _ _ h.k1 (by omega)
  exact ⟨h.fx.trans' hf fun j e h2 => by have e : j = k.ob := e; omega, h.g.keep hf fun x hx e => n x 0 (h.old x hx) (by omega) e, h.old, fun x hx => by rw [hz]; exact h.new x hx, h.k1, h.k2, h.k3, h.k4, h.k6, h.ks, h.kp, h.kb, h.inj,
    hf.cell' h.c0 e1, hf.cellF h.c1.1 h.c1.2 e1, hf.cell' h.c2 e1, hf.cell' h.c3 e1, hf.cellF h.c4.1 h.c4.2 e1, hf.cell' h.c5 e1, hf.cell' h.c6 e1, h.num.keep hf (n _ _ h.k2 (by omega)), h.low.keep hf (n _ _ h.k3 (by omega)), h.opn.put hi v,
    ownsRow_fx h.st hf fun g e => n _ _ (h.ks g e) (by omega), hf.cellF h.pc.1 h.pc.2 (n _ _ h.k6 (by omega)), ownsRow_fx h.ps hf fun g e => n _ _ (h.kp g e) (by omega), fun i hi => (h.pe i hi).keep hf (n _ _ (h.kb i hi) (by omega)), h.pcap⟩
end
#print axioms SrV.putOpn
end Go.Proofs.YtdoplaijgocboaaGreat

namespace Go.Proofs.YtdoplaijgocboaaGreat
open Go.RowKit
set_option linter.unusedVariables false

theorem wpH_hold {P : Program} {md : Region.Mode} {ops : Array Oper} {Q : Exit → Act → World → Prop} {S : World → Prop} {f : Nat} {L : Array Bool} {a : Act} {W : World} (R : World → Prop) (hR : R W) (h : ∀ W', R W' → wpAnyH P md ops Q S f L a W') : wpAnyH P md ops Q S f L a W := h W hR
theorem q_hold {Q : Exit → Act → World → Prop} {e : Exit} {a : Act} {W : World} (R : World → Prop) (hR : R W) (h : ∀ W', R W' → Q e a W') : Q e a W := h W hR
theorem new_cells {W : World} {cs : Array Value} {t : TypeId} {b i : Nat} {v : Value} (hb : b = W.heap.size) (hi : cs[i]? = some v) : (W.alloc (.cells cs t)).cell? ⟨b, i, none⟩ = some v ∧ (W.alloc (.cells cs t)).frozen? ⟨b, i, none⟩ = false := by
  subst hb
  exact ⟨by rw [cell_of_row _ _ _ _ _ _ (heap_alloc_new W _)]; exact hi, frozen_of_row _ _ _ _ _ (heap_alloc_new W _)⟩
theorem put_twoS (W : World) {qb : Nat} {a b : Value} (x y : Value) (q0 : W.cell? ⟨qb, 0, none⟩ = some a) (q1 : W.cell? ⟨qb, 1, none⟩ = some b) :
    ((W.setCell ⟨qb, 0, none⟩ x).setCell ⟨qb, 1, none⟩ y).cell? ⟨qb, 0, none⟩ = some x ∧ ((W.setCell ⟨qb, 0, none⟩ x).setCell ⟨qb, 1, none⟩ y).cell? ⟨qb, 1, none⟩ = some y ∧
    Fx (fun j => j = qb) W ((W.setCell ⟨qb, 0, none⟩ x).setCell ⟨qb, 1, none⟩ y) ∧ ((W.setCell ⟨qb, 0, none⟩ x).setCell ⟨qb, 1, none⟩ y).heap.size = W.heap.size := by
  refine ⟨?_, ?_, (Fx.put _ _ _ _).trans (Fx.put _ _ _ _), by simp [World.setCell]⟩
  · rw [World.cell?_setCell_other _ _ _ _ (by intro e; injection e; omega)]; exact World.cell?_setCell_same _ _ _ q0
  · exact World.cell?_setCell_same _ _ _ (by rw [World.cell?_setCell_other _ _ _ _ (by intro e; injection e; omega)]; exact q1)
section
variable {w0 w w' : World} {k : SP} {col : Nat → Nat} {N : Nat} {L : List Ed} {D S : Nat → Prop} {num low : Nat → Nat} {seen : Nat} {opn : Nat → Bool} {st st' : List Nat} {stv : Value} {P : List (List Nat)} {B C : Nat → Nat} {pv : Value}
/-- another row behind the stack -/
theorem SrV.stack (h : SrV w0 w k col N L D num low seen opn st stv P B C pv) {W w2 : World} (hW : Fx No w W) (hfx : Fx (fun g => stv.ownBlock = some g) W w2) {v' : Value} (ho : w2.ownsRow w0.heap.size 3 1 v' st'.length (ints (natsI st')))
    (hb2 : ∀ g, v'.ownBlock = some g → stv.ownBlock = some g ∨ W.heap.size ≤ g) :
    ∃ col' : Nat → Nat, SrV w0 (w2.setCell ⟨k.sb, 4, none⟩ v') k col' N L D num low seen opn st' v' P B C pv ∧ (∀ x, x < W.heap.size → col' x = col x) ∧ ∀ x, W.heap.size ≤ x → col' x = 0 ∨ col' x = 5 := by
  have hf0 : Fx (fun g => stv.ownBlock = some g) w w2 := hW.no.trans hfx
  have hf1 : Fx (fun x => x = k.sb) w2 (w2.setCell ⟨k.sb, 4, none⟩ v') := Fx.put _ _ _ _
  have hf : Fx (fun x => stv.ownBlock = some x ∨ x = k.sb) w (w2.setCell ⟨k.sb, 4, none⟩ v') := (hf0.mono fun _ _ q => .inl q).trans (hf1.mono fun _ _ q => .inr q)
  have zW := hW.size
  have z2 := hfx.size
  have l1 := h.new k.sb (by rw [h.k1]; omega)
  have hz : (w2.setCell ⟨k.sb, 4, none⟩ v').heap.size = w2.heap.size := by simp [World.setCell]
  have n : ∀ x c, col x = c → c ≠ 1 → c ≠ 5 → ¬ (stv.ownBlock = some x ∨ x = k.sb) := fun x c q q1 q5 e => by
    rcases e with e | e
    · have := h.ks x e; omega
    · rw [e, h.k1] at q; omega
  have n5 : ¬ stv.ownBlock = some k.sb := fun e => by have := h.ks _ e; have := h.k1; omega
  have o : ∀ j : Nat, j ≠ 4 → (⟨k.sb, 4, none⟩ : Addr) ≠ ⟨k.sb, j, none⟩ := fun j hj e => by injection e; omega
  have hv' : ∀ g, v'.ownBlock = some g → w0.heap.size ≤ g ∧ g < w2.heap.size := fun g e => World.ownsRow.lt ho g e
  have c4 := hf0.cellF h.c4.1 h.c4.2 n5
  have lt : ∀ x, col x ≠ 0 → x < W.heap.size := fun x q => by have := (h.new x q).2; omega
  obtain ⟨col', hcol⟩ : ∃ col' : Nat → Nat, ∀ x, col' x = if v'.ownBlock = some x ∧ W.heap.size ≤ x then 5 else col x := ⟨fun x => if v'.ownBlock = some x ∧ W.heap.size ≤ x then 5 else col x, fun _ => rfl⟩
  have hlow : ∀ x, x < W.heap.size → col' x = col x := fun x hx => by rw [hcol, if_neg (by omega)]
  have hk : ∀ x c, col x = c → c ≠ 0 → col' x = c := fun x c q q0 => by rw [hlow x (lt x (by omega)), q]
  refine ⟨col', ⟨?_, ?_, ?_, ?_, hk _ _ h.k1 (by omega), hk _ _ h.k2 (by omega), hk _ _ h.k3 (by omega), hk _ _ h.k4 (by omega), hk _ _ h.k6 (by omega), ?_, fun g e => hk _ _ (h.kp g e) (by omega), fun i hi => hk _ _ (h.kb i hi) (by omega), h.inj, ?_, ⟨?_, ?_⟩, ?_, ?_, ?_, ?_, ?_,
    h.num.keep hf (n _ _ h.k2 (by omega) (by omega)), h.low.keep hf (n _ _ h.k3 (by omega) (by omega)), h.opn.keep hf (n _ _ h.k4 (by omega) (by omega)), ?_, hf.cellF h.pc.1 h.pc.2 (n _ _ h.k6 (by omega) (by omega)), ownsRow_fx h.ps hf fun g e => n _ _ (h.kp g e) (by omega) (by omega), fun i hi => (h.pe i hi).keep hf (n _ _ (h.kb i hi) (by omega) (by omega)), h.pcap⟩, hlow, fun x hx => ?_⟩
  · exact h.fx.trans' hf fun j e h2 => by
      rcases e with e | e
      · have := (h.new j (by rw [h.ks j e]; omega)).1; omega
      · have e : j = k.sb := e; omega
  · exact h.g.keep hf fun x hx e => n x 0 (h.old x hx) (by omega) (by omega) e
  · intro x hx
    have := h.g.lt x hx
    rw [hlow x (by omega)]; exact h.old x hx
  · intro x hx
    rw [hcol] at hx
    rw [hz]
    split at hx
    · rename_i q; exact hv' x q.1
    · have := h.new x hx; omega
  · intro g e
    rcases hb2 g e with q | q
    · exact hk _ _ (h.ks g q) (by omega)
    · rw [hcol, if_pos ⟨e, q⟩]
  · rw [World.cell?_setCell_other _ _ _ _ (o 0 (by omega))]; exact hf0.cell' h.c0 n5
  · rw [World.cell?_setCell_other _ _ _ _ (o 1 (by omega))]; exact (hf0.cellF h.c1.1 h.c1.2 n5).1
  · have := (hf0.cellF h.c1.1 h.c1.2 n5).2; simpa using this
  · rw [World.cell?_setCell_other _ _ _ _ (o 2 (by omega))]; exact hf0.cell' h.c2 n5
  · rw [World.cell?_setCell_other _ _ _ _ (o 3 (by omega))]; exact hf0.cell' h.c3 n5
  · exact ⟨World.cell?_setCell_same _ _ _ c4.1, by simpa using c4.2⟩
  · rw [World.cell?_setCell_other _ _ _ _ (o 5 (by omega))]; exact hf0.cell' h.c5 n5
  · rw [World.cell?_setCell_other _ _ _ _ (o 6 (by omega))]; exact hf0.cell' h.c6 n5
  · exact ownsRow_fx ho hf1 fun g e e2 => by
      have e2 : g = k.sb := e2
      rcases hb2 g e with q | q
      · rw [e2] at q; exact n5 q
      · omega
  · rw [hcol]
    split
    · exact .inr rfl
    · left
      apply Classical.byContradiction
      intro q
      have := lt x q; omega
end
#print axioms SrV.stack
end Go.Proofs.YtdoplaijgocboaaGreat

namespace Go.Proofs.YtdoplaijgocboaaGreat
open Go.RowKit
set_option linter.unusedVariables false

/-- the nodes next to one -/
def nxN (L : List Ed) (N n : Nat) : List Nat := (comp ((rowI (outE L) N (n : Int)).map (·.t))).map Int.toNat
theorem compTo_sub {l : List Int} : ∀ {a : Nat}, a ≤ l.length → ∀ x ∈ compTo l a, x ∈ l
  | 0, _, x, h => by simp [compTo] at h
  | a + 1, ha, x, h => by
    rw [compTo, List.mem_append] at h
    rcases h with h | h
    · exact compTo_sub (by omega) x h
    · split at h
      · rw [List.mem_singleton] at h
        subst h
        exact gi_mem (by omega)
      · simp at h
theorem natsI_nxN {L : List Ed} {N n : Nat} (hL : ∀ x ∈ L, (0 ≤ x.f ∧ x.f < (N : Int)) ∧ 0 ≤ x.t ∧ x.t < (N : Int)) : natsI (nxN L N n) = comp ((rowI (outE L) N (n : Int)).map (·.t)) := by
  unfold natsI nxN
  rw [List.map_map]
  conv => rhs; rw [← List.map_id (comp ((rowI (outE L) N (n : Int)).map (·.t)))]
  refine List.map_congr_left fun z hz => ?_
  have h1 := compTo_sub (Nat.le_refl _) z hz
  obtain ⟨e, he, rfl⟩ := List.mem_map.1 h1
  have h2 : e ∈ L := by
    unfold rowI at he
    split at he
    · exact (mem_outE.1 he).1
    · simp at he
  have := hL e h2
  show ((e.t.toNat : Nat) : Int) = e.t
  omega
section
variable {w0 w w' : World} {k : SP} {col : Nat → Nat} {N : Nat} {L : List Ed} {D S : Nat → Prop} {num low : Nat → Nat} {seen : Nat} {opn : Nat → Bool} {st st' : List Nat} {stv : Value} {P : List (List Nat)} {B C : Nat → Nat} {pv : Value}
set_option maxRecDepth 100000 in
set_option maxHeartbeats 4000000 in
theorem begin_any (h : SrV w0 w k col N L D num low seen opn st stv P B C pv) {n : Nat} (hn : n < N) (hst : st.length ≤ 70000) (hseen : seen ≤ 70000) :
    Calls Tryz.prog 54 #[.pointer (some ⟨k.sb, 0, none⟩), .int .i64 (n : Nat)] w fun e w' => ∃ (nxv stv' : Value) (col' : Nat → Nat), e = .returned (.agg #[.int .i64 (n : Nat), nxv]) ∧
      SrV w0 w' k col' N L D (fun j => if j = n then seen + 1 else num j) (fun j => if j = n then seen + 1 else low j) (seen + 1) (fun j => if j = n then true else opn j) (st ++ [n]) stv' P B C pv ∧
      Fx (fun x => 1 ≤ col x ∧ col x ≤ 5) w w' ∧ (∀ x, x < w.heap.size → col' x = col x) ∧ (∀ x, w.heap.size ≤ x → col' x = 0 ∨ col' x = 5 ∨ 10 ≤ col' x) ∧ IntsV w' (fun x => col' x = 10) nxv (natsI (nxN L N n)) := by
  obtain ⟨ii, hi, hz, hs, hb⟩ := info_parts info_int'
  have H := Lib.hid h
  have HNx := Lib.hid (natsI_nxN (n := n) h.g.nodes)
  have hNN := h.g.nn
  have hnN : (n : Int) < (N : Int) := by omega
  have hn0 : (0 : Int) ≤ (n : Int) := by omega
  have c1 := h.c1
  have lsb := (h.new k.sb (by rw [h.k1]; omega)).2
  have lw := h.fx.size
  obtain ⟨sn, hsn⟩ : ∃ s, s = seen + 1 := ⟨_, rfl⟩
  have hsum : (seen : Int) + 1 = (sn : Int) := by omega
  have hsn7 : sn ≤ 70001 := by omega
  rw [← hsn]
  clear h hsn
  go_enter Tryz.func54, Tryz.ntmps54
  go_wp2_with fail
  obtain ⟨rb, hrb⟩ : ∃ r, r = w.heap.size := ⟨_, rfl⟩
  obtain ⟨colr, hcolr⟩ : ∃ f : Nat → Nat, ∀ x, f x = if x = rb then 11 else col x := ⟨fun x => if x = rb then 11 else col x, fun _ => rfl⟩
  have HCr := Lib.hid hcolr
  refine wp_hold (fun W => SrV w0 W k colr N L D num low sn opn st stv P B C pv ∧ Fx (fun x => 1 ≤ col x ∧ col x ≤ 5) w W ∧ rb < W.heap.size ∧ (W.cell? ⟨rb, 0, none⟩ = some (.int .i64 0) ∧ W.frozen? ⟨rb, 0, none⟩ = false) ∧ (W.cell? ⟨rb, 1, none⟩ = some (.slice none 0 0) ∧ W.frozen? ⟨rb, 1, none⟩ = false)) ?_ ?_
  · have hp : Fx (fun x => x = k.sb) w (w.setCell ⟨k.sb, 1, none⟩ (.int .i64 (sn : Int))) := Fx.put _ _ _ _
    have hA := (Fx.refl No (w.setCell ⟨k.sb, 1, none⟩ (.int .i64 (sn : Int)))).alloc (.cells #[.int .i64 0, .slice none 0 0] 99)
    have hzp : (w.setCell ⟨k.sb, 1, none⟩ (.int .i64 (sn : Int))).heap.size = rb := by rw [hrb]; simp [World.setCell]
    refine ⟨((H.out.see sn).no hA).recol (col' := colr) (fun x hx => ?_) (fun x hx => ?_) fun x hx => ?_, (hp.mono fun x _ e => by have e : x = k.sb := e; have := H.out.k1; rw [← e] at this; omega).trans hA.no, by rw [World.size_alloc, hzp]; omega, ?_, ?_⟩
    · rw [hcolr, if_neg (by have := (H.out.new x hx).2; omega)]
    · rw [hcolr, if_neg (by have := H.out.g.lt x hx; omega)]; exact H.out.old x hx
    · rw [hcolr] at hx
      rw [World.size_alloc, hzp]
      split at hx
      · omega
      · have := H.out.new x hx; omega
    · exact new_cells hzp.symm rfl
    · exact new_cells hzp.symm rfl
  clear c1 hsum hcolr
  rintro w1 ⟨h1, hf1, lrb, r0, r1⟩
  rw [← hrb]
  have H1 := Lib.hid h1
  have HF1 := Lib.hid hf1
  have HR := Lib.hid (And.intro r0 r1)
  have HRb := Lib.hid hrb
  have hsb : k.sb < w1.heap.size := by omega
  have n1 : ¬ (k.sb = k.nb ∨ k.sb = k.lb) := fun e => by
    have a1 := h1.k1; have a2 := h1.k2; have a3 := h1.k3
    rcases e with e | e
    · rw [e] at a1; omega
    · rw [e] at a1; omega
  have g1 : ∀ W, Fx (fun x => x = k.nb ∨ x = k.lb) w1 W → W.cell? ⟨k.sb, 1, none⟩ = some (.int .i64 (sn : Int)) := fun W q => q.cell' h1.c1.1 n1
  have g2 : ∀ W, Fx (fun x => x = k.nb ∨ x = k.lb) w1 W → W.cell? ⟨k.sb, 2, none⟩ = some (.slice (some ⟨k.nb, 0, none⟩) N N) := fun W q => q.cell' h1.c2 n1
  have g3 : ∀ W, Fx (fun x => x = k.nb ∨ x = k.lb) w1 W → W.cell? ⟨k.sb, 3, none⟩ = some (.slice (some ⟨k.lb, 0, none⟩) N N) := fun W q => q.cell' h1.c3 n1
  have hnl : k.nb ≠ k.lb := fun e => by have a2 := h1.k2; have a3 := h1.k3; rw [e] at a2; omega
  clear h1 hf1 r0 r1 hrb n1
  refine wp_region_H (fun W => Fx (fun x => x = k.nb ∨ x = k.lb) w1 W) (by kernel_rfl) ((Fx.refl _ _).drew) ?_
  intro hS
  refine wpH_hold (fun W => SrV w0 W k colr N L D num low sn opn st stv P B C pv ∧ Fx (fun x => x = k.nb ∨ x = k.lb) w1 W) ⟨H1.out.no (Fx.refl No w1).drew, hS⟩ ?_
  clear hS
  rintro y0 ⟨hY, hS⟩
  have q1 := hY.num n hn
  have HY := Lib.hid hY
  clear hY
  refine wpAnyH_take (i := 0) (v := ?_) rfl (by kernel_rfl) (by kernel_rfl) (by kernel_rfl) (fun _ _ _ h => h) (Or.inl ⟨by rfl, ?_⟩) hS ?_
  rotate_left
  · (intro W hs; go_simp; first | done | with_reducible rfl)
  try simp only [Act.put, List.getElem_toArray, List.getElem_cons_zero, List.getElem_cons_succ, List.setIfInBounds_toArray, List.set_cons_zero, List.set_cons_succ]
  refine wpAnyH_take (i := 4) (v := ?_) rfl (by kernel_rfl) (by kernel_rfl) (by kernel_rfl) (fun _ _ _ h => h) (Or.inl ⟨by rfl, ?_⟩) hS ?_
  rotate_left
  · (intro W hs; go_simp; first | done | with_reducible rfl)
  try simp only [Act.put, List.getElem_toArray, List.getElem_cons_zero, List.getElem_cons_succ, List.setIfInBounds_toArray, List.set_cons_zero, List.set_cons_succ]
  refine wpAnyH_take (i := 5) (v := ?_) rfl (by kernel_rfl) (by kernel_rfl) (by kernel_rfl) (fun _ _ _ h => h) (Or.inl ⟨by rfl, ?_⟩) hS ?_
  rotate_left
  · (intro W hs; go_simp; first | done | with_reducible rfl)
  try simp only [Act.put, List.getElem_toArray, List.getElem_cons_zero, List.getElem_cons_succ, List.setIfInBounds_toArray, List.set_cons_zero, List.set_cons_succ]
  refine wpAnyH_take (i := 10) (v := ?_) rfl (by kernel_rfl) (by kernel_rfl) (by kernel_rfl) (fun _ _ _ h => h) (Or.inl ⟨by rfl, ?_⟩) hS ?_
  rotate_left
  · (intro W hs; go_simp; first | done | with_reducible rfl)
  try simp only [Act.put, List.getElem_toArray, List.getElem_cons_zero, List.getElem_cons_succ, List.setIfInBounds_toArray, List.set_cons_zero, List.set_cons_succ]
  refine wpAnyH_take (i := 14) (v := ?_) rfl (by kernel_rfl) (by kernel_rfl) (by kernel_rfl) (fun _ _ _ h => h) (Or.inl ⟨by rfl, ?_⟩) hS ?_
  rotate_left
  · (intro W hs; go_simp; first | done | with_reducible rfl)
  try simp only [Act.put, List.getElem_toArray, List.getElem_cons_zero, List.getElem_cons_succ, List.setIfInBounds_toArray, List.set_cons_zero, List.set_cons_succ]
  refine wpAnyH_take (i := 1) (v := ?_) rfl (by kernel_rfl) (by kernel_rfl) (by kernel_rfl) (fun _ _ _ h => h) (Or.inl ⟨by rfl, ?_⟩) hS ?_
  rotate_left
  · (intro W hs; go_simp; first | done | with_reducible rfl)
  try simp only [Act.put, List.getElem_toArray, List.getElem_cons_zero, List.getElem_cons_succ, List.setIfInBounds_toArray, List.set_cons_zero, List.set_cons_succ]
  refine wpAnyH_take (i := 6) (v := ?_) rfl (by kernel_rfl) (by kernel_rfl) (by kernel_rfl) (fun _ _ _ h => h) (Or.inl ⟨by rfl, ?_⟩) hS ?_
  rotate_left
  · (intro W hs; go_simp; first | done | with_reducible rfl)
  try simp only [Act.put, List.getElem_toArray, List.getElem_cons_zero, List.getElem_cons_succ, List.setIfInBounds_toArray, List.set_cons_zero, List.set_cons_succ]
  refine wpAnyH_take (i := 11) (v := ?_) rfl (by kernel_rfl) (by kernel_rfl) (by kernel_rfl) (fun _ _ _ h => h) (Or.inl ⟨by rfl, ?_⟩) hS ?_
  rotate_left
  · (intro W hs; go_simp; first | done | with_reducible rfl)
  try simp only [Act.put, List.getElem_toArray, List.getElem_cons_zero, List.getElem_cons_succ, List.setIfInBounds_toArray, List.set_cons_zero, List.set_cons_succ]
  refine wpAnyH_take (i := 15) (v := ?_) rfl (by kernel_rfl) (by kernel_rfl) (by kernel_rfl) (fun _ _ _ h => h) (Or.inl ⟨by rfl, ?_⟩) hS ?_
  rotate_left
  · (intro W hs; go_simp; first | done | with_reducible rfl)
  try simp only [Act.put, List.getElem_toArray, List.getElem_cons_zero, List.getElem_cons_succ, List.setIfInBounds_toArray, List.set_cons_zero, List.set_cons_succ]
  refine wpAnyH_take (i := 2) (v := ?_) rfl (by kernel_rfl) (by kernel_rfl) (by kernel_rfl) (fun _ _ _ h => h) (Or.inl ⟨by rfl, ?_⟩) hS ?_
  rotate_left
  · (intro W hs; go_simp; first | done | with_reducible rfl)
  try simp only [Act.put, List.getElem_toArray, List.getElem_cons_zero, List.getElem_cons_succ, List.setIfInBounds_toArray, List.set_cons_zero, List.set_cons_succ]
  refine wpAnyH_take (i := 3) (v := ?_) rfl (by kernel_rfl) (by kernel_rfl) (by kernel_rfl) (fun _ _ _ h => h) (Or.inl ⟨by rfl, ?_⟩) hS ?_
  rotate_left
  · (intro W hs; go_simp; first | done | with_reducible rfl)
  try simp only [Act.put, List.getElem_toArray, List.getElem_cons_zero, List.getElem_cons_succ, List.setIfInBounds_toArray, List.set_cons_zero, List.set_cons_succ]
  refine wpAnyH_take (i := 7) (v := ?_) rfl (by kernel_rfl) (by kernel_rfl) (by kernel_rfl) (fun _ _ _ h => h) (Or.inl ⟨by rfl, ?_⟩) hS ?_
  rotate_left
  · (intro W hs; go_simp; first | done | with_reducible rfl)
  try simp only [Act.put, List.getElem_toArray, List.getElem_cons_zero, List.getElem_cons_succ, List.setIfInBounds_toArray, List.set_cons_zero, List.set_cons_succ]
  refine wpAnyH_take (i := 8) (v := ?_) rfl (by kernel_rfl) (by kernel_rfl) (by kernel_rfl) (fun _ _ _ h => h) (Or.inl ⟨by rfl, ?_⟩) hS ?_
  rotate_left
  · (intro W hs; go_simp; first | done | with_reducible rfl)
  try simp only [Act.put, List.getElem_toArray, List.getElem_cons_zero, List.getElem_cons_succ, List.setIfInBounds_toArray, List.set_cons_zero, List.set_cons_succ]
  refine wpAnyH_take (i := 9) (v := ?_) rfl (by kernel_rfl) (by kernel_rfl) (by kernel_rfl) (fun _ _ _ h => h) (Or.inl ⟨by rfl, ?_⟩) hS ?_
  rotate_left
  · (intro W hs; go_simp; first | done | with_reducible rfl)
  try simp only [Act.put, List.getElem_toArray, List.getElem_cons_zero, List.getElem_cons_succ, List.setIfInBounds_toArray, List.set_cons_zero, List.set_cons_succ]
  refine wpAnyH_take (i := 12) (v := ?_) rfl (by kernel_rfl) (by kernel_rfl) (by kernel_rfl) (fun _ _ _ h => h) (Or.inl ⟨by rfl, ?_⟩) hS ?_
  rotate_left
  · (intro W hs; go_simp; first | done | with_reducible rfl)
  try simp only [Act.put, List.getElem_toArray, List.getElem_cons_zero, List.getElem_cons_succ, List.setIfInBounds_toArray, List.set_cons_zero, List.set_cons_succ]
  refine wpAnyH_take (i := 13) (v := ?_) rfl (by kernel_rfl) (by kernel_rfl) (by kernel_rfl) (fun _ _ _ h => h) (Or.inl ⟨by rfl, ?_⟩) hS ?_
  rotate_left
  · (intro W hs; go_simp; first | done | with_reducible rfl)
  try simp only [Act.put, List.getElem_toArray, List.getElem_cons_zero, List.getElem_cons_succ, List.setIfInBounds_toArray, List.set_cons_zero, List.set_cons_succ]
  refine wpAnyH_take (i := 16) (v := ?_) rfl (by kernel_rfl) (by kernel_rfl) (by kernel_rfl) (fun _ _ _ h => h) (Or.inl ⟨by rfl, ?_⟩) hS ?_
  rotate_left
  · (intro W hs; go_simp; first | done | with_reducible rfl)
  try simp only [Act.put, List.getElem_toArray, List.getElem_cons_zero, List.getElem_cons_succ, List.setIfInBounds_toArray, List.set_cons_zero, List.set_cons_succ]
  refine wpAnyH_take (i := 17) (v := ?_) rfl (by kernel_rfl) (by kernel_rfl) (by kernel_rfl) (fun _ _ _ h => h) (Or.inl ⟨by rfl, ?_⟩) hS ?_
  rotate_left
  · (intro W hs; go_simp; first | done | with_reducible rfl)
  try simp only [Act.put, List.getElem_toArray, List.getElem_cons_zero, List.getElem_cons_succ, List.setIfInBounds_toArray, List.set_cons_zero, List.set_cons_succ]
  refine wpAnyH_take (i := 18) (v := ?_) rfl (by kernel_rfl) (by kernel_rfl) (by kernel_rfl) (fun _ _ _ h => h) (Or.inl ⟨by rfl, ?_⟩) hS ?_
  rotate_left
  · (intro W hs; go_simp; first | done | with_reducible rfl)
  try simp only [Act.put, List.getElem_toArray, List.getElem_cons_zero, List.getElem_cons_succ, List.setIfInBounds_toArray, List.set_cons_zero, List.set_cons_succ]
  refine wpH_one (i := 19) (by kernel_rfl) rfl (fun K hK => ?_)
  go_simp
  refine hK.out _ _ (hS.setCell (a := ⟨k.nb, n, none⟩) (.inr (.inl rfl)) _) (fun hS' => ?_)
  clear hK K hS q1
  try simp only [Act.put, List.getElem_toArray, List.getElem_cons_zero, List.getElem_cons_succ, List.setIfInBounds_toArray, List.set_cons_zero, List.set_cons_succ]
  refine wpH_hold (fun W => SrV w0 W k colr N L D (fun j => if j = n then sn else num j) low sn opn st stv P B C pv ∧ Fx (fun x => x = k.nb ∨ x = k.lb) w1 W) ⟨HY.out.putNum hn sn, hS'⟩ ?_
  clear hS' HY
  rintro y1 ⟨hY, hS⟩
  have q2 := hY.low n hn
  have HY := Lib.hid hY
  clear hY
  refine wpAnyH_take (i := 20) (v := ?_) rfl (by kernel_rfl) (by kernel_rfl) (by kernel_rfl) (fun _ _ _ h => h) (Or.inl ⟨by rfl, ?_⟩) hS ?_
  rotate_left
  · (intro W hs; go_simp; first | done | with_reducible rfl)
  try simp only [Act.put, List.getElem_toArray, List.getElem_cons_zero, List.getElem_cons_succ, List.setIfInBounds_toArray, List.set_cons_zero, List.set_cons_succ]
  refine wpH_one (i := 21) (by kernel_rfl) rfl (fun K hK => ?_)
  go_simp
  refine hK.out _ _ (hS.setCell (a := ⟨k.lb, n, none⟩) (.inr (.inr rfl)) _) (fun hS' => ?_)
  have HM := Lib.hid (HY.out.putLow hn sn)
  clear hK K hS q2 HY
  have hS := hS'
  clear hS'
  try simp only [Act.put, List.getElem_toArray, List.getElem_cons_zero, List.getElem_cons_succ, List.setIfInBounds_toArray, List.set_cons_zero, List.set_cons_succ]
  refine wpAnyH_done (by kernel_rfl) ?_ _
  clear g1 g2 g3
  have n2 : ¬ (rb = k.nb ∨ rb = k.lb) := fun e => by
    have a0 := H1.out.k2; have a1 := H1.out.k3
    have a2 := HCr.out rb
    rw [if_pos rfl] at a2
    rcases e with e | e
    · rw [← e] at a0; omega
    · rw [← e] at a1; omega
  refine q_hold (fun W => SrV w0 W k colr N L D (fun j => if j = n then sn else num j) (fun j => if j = n then sn else low j) sn opn st stv P B C pv ∧ Fx (fun x => 1 ≤ col x ∧ col x ≤ 5) w W ∧ rb < W.heap.size ∧ (W.cell? ⟨rb, 0, none⟩ = some (.int .i64 0) ∧ W.frozen? ⟨rb, 0, none⟩ = false) ∧ (W.cell? ⟨rb, 1, none⟩ = some (.slice none 0 0) ∧ W.frozen? ⟨rb, 1, none⟩ = false)) ?_ ?_
  · refine ⟨HM.out, HF1.out.trans' hS fun x e hl => ?_, by have := hS.size; omega, hS.cellF HR.out.1.1 HR.out.1.2 n2, hS.cellF HR.out.2.1 HR.out.2.2 n2⟩
    have a0 := H1.out.k2; have a1 := H1.out.k3
    have a2 := HCr.out x
    rw [if_neg (by have := HRb.out; omega)] at a2
    rcases e with e | e
    · rw [← e] at a0; omega
    · rw [← e] at a1; omega
  clear hS HM H1 HF1 HR lrb hsb
  rintro w2 ⟨h2, hf2, lrb, r0, r1⟩
  have H2 := Lib.hid h2
  have HF2 := Lib.hid hf2
  have HR := Lib.hid (And.intro r0 r1)
  obtain ⟨so, sc, hsv, _⟩ := SlV.ofOwns h2.st
  subst hsv
  have n3 : ¬ (Value.slice so st.length sc).ownBlock = some k.sb := fun e => by have := h2.ks _ e; have := h2.k1; omega
  have g4 : ∀ W, Fx (fun x => (Value.slice so st.length sc).ownBlock = some x) w2 W → W.cell? ⟨k.sb, 4, none⟩ = some (.slice so st.length sc) := fun W q => q.cell' h2.c4.1 n3
  have g5 : ∀ W, Fx (fun x => (Value.slice so st.length sc).ownBlock = some x) w2 W → W.cell? ⟨k.sb, 5, none⟩ = some (.slice (some ⟨k.ob, 0, none⟩) N N) := fun W q => q.cell' h2.c5 n3
  have HSt : Hid (∀ W, Fx No w2 W → W.ownsRow w0.heap.size 3 1 (.slice so st.length sc) st.length (ints (natsI st))) := Lib.hid fun W q => ownsRow_fx h2.st q fun _ _ e => e
  have l2 := h2.fx.size
  clear h2 hf2 r0 r1 n3 n2
  go_wp2_with fail
  refine wp_region_T 15 (fun b W => b = false → Fx (fun x => (Value.slice so st.length sc).ownBlock = some x) w2 W) (by kernel_rfl) (fun _ => (Fx.refl _ _).drew) ?_
  intro _ hC
  have hS : Fx (fun x => (Value.slice so st.length sc).ownBlock = some x) w2 w2.drew := (Fx.refl _ _).drew
  refine wpT_take (i := 0) (v := ?_) rfl (by kernel_rfl) (by kernel_rfl) (by kernel_rfl) (by kernel_rfl) (fun _ _ _ h => h) (by decide) (Or.inl ⟨by rfl, ?_⟩) hC (fun _ => hS) ?_
  rotate_left
  · (intro W hc; have hs := hc rfl; clear hc; go_simp; first | done | with_reducible rfl)
  clear hC
  intro _ hC
  try simp only [Act.put, List.getElem_toArray, List.getElem_cons_zero, List.getElem_cons_succ, List.setIfInBounds_toArray, List.set_cons_zero, List.set_cons_succ]
  refine wpT_take (i := 1) (v := ?_) rfl (by kernel_rfl) (by kernel_rfl) (by kernel_rfl) (by kernel_rfl) (fun _ _ _ h => h) (by decide) (Or.inl ⟨by rfl, ?_⟩) hC (fun _ => hS) ?_
  rotate_left
  · (intro W hc; have hs := hc rfl; clear hc; go_simp; first | done | with_reducible rfl)
  clear hC
  intro _ hC
  try simp only [Act.put, List.getElem_toArray, List.getElem_cons_zero, List.getElem_cons_succ, List.setIfInBounds_toArray, List.set_cons_zero, List.set_cons_succ]
  refine wpT_takeA (i := 5) (v := (.int .i64 (n : Nat))) rfl (by kernel_rfl) (by kernel_rfl) (by kernel_rfl) (fun _ _ _ h => h) (by decide) (Or.inl ⟨by rfl, by (intro W hc; clear hc; go_simp; first | done | with_reducible rfl)⟩) hC (fun _ => hS) ?_
  clear hC
  intro _ hC
  try simp only [Act.put, List.getElem_toArray, List.getElem_cons_zero, List.getElem_cons_succ, List.setIfInBounds_toArray, List.set_cons_zero, List.set_cons_succ]
  refine wpT_take (i := 6) (v := ?_) rfl (by kernel_rfl) (by kernel_rfl) (by kernel_rfl) (by kernel_rfl) (fun _ _ _ h => h) (by decide) (Or.inl ⟨by rfl, ?_⟩) hC (fun _ => hS) ?_
  rotate_left
  · (intro W hc; have hs := hc rfl; clear hc; go_simp; first | done | with_reducible rfl)
  clear hC
  intro _ hC
  try simp only [Act.put, List.getElem_toArray, List.getElem_cons_zero, List.getElem_cons_succ, List.setIfInBounds_toArray, List.set_cons_zero, List.set_cons_succ]
  refine wpT_take (i := 10) (v := ?_) rfl (by kernel_rfl) (by kernel_rfl) (by kernel_rfl) (by kernel_rfl) (fun _ _ _ h => h) (by decide) (Or.inl ⟨by rfl, ?_⟩) hC (fun _ => hS) ?_
  rotate_left
  · (intro W hc; have hs := hc rfl; clear hc; go_simp; first | done | with_reducible rfl)
  clear hC
  intro _ hC
  try simp only [Act.put, List.getElem_toArray, List.getElem_cons_zero, List.getElem_cons_succ, List.setIfInBounds_toArray, List.set_cons_zero, List.set_cons_succ]
  refine wpT_take (i := 2) (v := ?_) rfl (by kernel_rfl) (by kernel_rfl) (by kernel_rfl) (by kernel_rfl) (fun _ _ _ h => h) (by decide) (Or.inl ⟨by rfl, ?_⟩) hC (fun _ => hS) ?_
  rotate_left
  · (intro W hc; have hs := hc rfl; clear hc; go_simp; first | done | with_reducible rfl)
  clear hC
  intro _ hC
  try simp only [Act.put, List.getElem_toArray, List.getElem_cons_zero, List.getElem_cons_succ, List.setIfInBounds_toArray, List.set_cons_zero, List.set_cons_succ]
  refine wpT_take (i := 7) (v := ?_) rfl (by kernel_rfl) (by kernel_rfl) (by kernel_rfl) (by kernel_rfl) (fun _ _ _ h => h) (by decide) (Or.inl ⟨by rfl, ?_⟩) hC (fun _ => hS) ?_
  rotate_left
  · (intro W hc; have hs := hc rfl; clear hc; go_simp; first | done | with_reducible rfl)
  clear hC
  intro _ hC
  try simp only [Act.put, List.getElem_toArray, List.getElem_cons_zero, List.getElem_cons_succ, List.setIfInBounds_toArray, List.set_cons_zero, List.set_cons_succ]
  refine wpT_take (i := 3) (v := ?_) rfl (by kernel_rfl) (by kernel_rfl) (by kernel_rfl) (by kernel_rfl) (fun _ _ _ h => h) (by decide) (Or.inl ⟨by rfl, ?_⟩) hC (fun _ => hS) ?_
  rotate_left
  · (intro W hc; have hs := hc rfl; clear hc; go_simp; first | done | with_reducible rfl)
  clear hC
  intro _ hC
  try simp only [Act.put, List.getElem_toArray, List.getElem_cons_zero, List.getElem_cons_succ, List.setIfInBounds_toArray, List.set_cons_zero, List.set_cons_succ]
  refine wpT_take (i := 4) (v := ?_) rfl (by kernel_rfl) (by kernel_rfl) (by kernel_rfl) (by kernel_rfl) (fun _ _ _ h => h) (by decide) (Or.inl ⟨by rfl, ?_⟩) hC (fun _ => hS) ?_
  rotate_left
  · (intro W hc; have hs := hc rfl; clear hc; go_simp; first | done | with_reducible rfl)
  clear hC
  intro _ hC
  try simp only [Act.put, List.getElem_toArray, List.getElem_cons_zero, List.getElem_cons_succ, List.setIfInBounds_toArray, List.set_cons_zero, List.set_cons_succ]
  refine wpT_take (i := 8) (v := ?_) rfl (by kernel_rfl) (by kernel_rfl) (by kernel_rfl) (by kernel_rfl) (fun _ _ _ h => h) (by decide) (Or.inl ⟨by rfl, ?_⟩) hC (fun _ => hS) ?_
  rotate_left
  · (intro W hc; have hs := hc rfl; clear hc; go_simp; first | done | with_reducible rfl)
  clear hC
  intro _ hC
  try simp only [Act.put, List.getElem_toArray, List.getElem_cons_zero, List.getElem_cons_succ, List.setIfInBounds_toArray, List.set_cons_zero, List.set_cons_succ]
  refine wpT_take (i := 9) (v := ?_) rfl (by kernel_rfl) (by kernel_rfl) (by kernel_rfl) (by kernel_rfl) (fun _ _ _ h => h) (by decide) (Or.inl ⟨by rfl, ?_⟩) hC (fun _ => hS) ?_
  rotate_left
  · (intro W hc; have hs := hc rfl; clear hc; go_simp; first | done | with_reducible rfl)
  clear hC
  intro _ hC
  try simp only [Act.put, List.getElem_toArray, List.getElem_cons_zero, List.getElem_cons_succ, List.setIfInBounds_toArray, List.set_cons_zero, List.set_cons_succ]
  refine wpT_one (i := 11) (by kernel_rfl) rfl hC (fun K hK => ?_)
  go_simp
  have hS2 := hS.alloc (.cells #[.int .i64 (n : Nat)] 3)
  refine hK.out _ _ (fun _ => hS2) (fun _ hC' => ?_)
  clear hK K hS hC 
  have hS := hS2
  have hC := hC'
  clear hS2 hC'
  try simp only [Act.put, List.getElem_toArray, List.getElem_cons_zero, List.getElem_cons_succ, List.setIfInBounds_toArray, List.set_cons_zero, List.set_cons_succ]
  refine wpT_one (i := 12) (by kernel_rfl) rfl hC (fun K hK => ?_)
  refine step_append_kept rfl (.tmp 41) (.tmp 43) 23 rfl w0.heap.size 3 Tryz.underlying23 hi hz hs hb rfl (by decide) (.slice so st.length sc) st.length (ints (natsI st)) (by simp [Act.eval]) (HSt.out _ (((Fx.refl No w2).drew).alloc _)) (fun _ => True) (.slice (some ⟨w2.heap.size, 0, none⟩) 1 1) 1 [.int .i64 (n : Nat)] (by simp [Act.eval]) (SlV.lit w2.drew 3 #[.int .i64 (n : Nat)] 1 1 rfl (by unfold maxLen; omega)) (ints_one [_]) (by omega) (by unfold maxLen; omega) (by omega) (by simp; omega) ?_
  intro v' w3 ho hfx hk3 hb2
  obtain ⟨g', gc', rfl, _, _⟩ := ownsRow_pos ho (by omega)
  have hSk := H2.out.stack (st' := st ++ [n]) (((Fx.refl No w2).drew).alloc _) hfx (by rw [List.length_append, natsI_app]; simpa [ints, natsI] using ho) hb2
  have hS2 : Fx (fun x => (Value.slice so st.length sc).ownBlock = some x) w2 w3 := ((((Fx.refl No w2).drew).alloc _).no).trans hfx
  have q4 := hS2.cellF H2.out.c4.1 H2.out.c4.2 (fun e => by have := H2.out.ks k.sb e; have := H2.out.k1; omega)
  have HLow : Hid (w2.heap.size ≤ (w2.drew.alloc (.cells #[.int .i64 (n : Nat)] 3)).heap.size) := Lib.hid (by simp)
  refine hK.out _ _ (fun _ => hS2) (fun _ hC' => ?_)
  clear hK K hS hC ho hfx hk3
  have hS := hS2
  have hC := hC'
  clear hS2 hC' g4 g5
  try simp only [Act.put, List.getElem_toArray, List.getElem_cons_zero, List.getElem_cons_succ, List.setIfInBounds_toArray, List.set_cons_zero, List.set_cons_succ]
  refine wpT_take (i := 13) (v := ?_) rfl (by kernel_rfl) (by kernel_rfl) (by kernel_rfl) (by kernel_rfl) (fun _ _ _ h => h) (by decide) (Or.inl ⟨by rfl, ?_⟩) hC (fun _ => hS) ?_
  rotate_left
  · (intro W hc; have hs := hc rfl; clear hc; go_simp; first | done | with_reducible rfl)
  clear hC
  intro _ hC
  try simp only [Act.put, List.getElem_toArray, List.getElem_cons_zero, List.getElem_cons_succ, List.setIfInBounds_toArray, List.set_cons_zero, List.set_cons_succ]
  refine wpT_take (i := 14) (v := ?_) rfl (by kernel_rfl) (by kernel_rfl) (by kernel_rfl) (by kernel_rfl) (fun _ _ _ h => h) (by decide) (Or.inl ⟨by rfl, ?_⟩) hC (fun _ => hS) ?_
  rotate_left
  · (intro W hc; have hs := hc rfl; clear hc; go_simp; first | done | with_reducible rfl)
  clear hC
  intro _ hC
  try simp only [Act.put, List.getElem_toArray, List.getElem_cons_zero, List.getElem_cons_succ, List.setIfInBounds_toArray, List.set_cons_zero, List.set_cons_succ]
  obtain ⟨col2, hSr, hcl, hcn⟩ := hSk
  have HSr := Lib.hid hSr
  have HCl := Lib.hid hcl
  have HCn := Lib.hid hcn
  have hS3 : Fx (fun x => (Value.slice so st.length sc).ownBlock = some x ∨ x = k.sb) w2 (w3.setCell ⟨k.sb, 4, none⟩ (.slice (some ⟨g', 0, none⟩) (st.length + 1) gc')) := Fx.setCell (S := fun x => (Value.slice so st.length sc).ownBlock = some x ∨ x = k.sb) (hS.mono fun _ _ q => Or.inl q) (a := ⟨k.sb, 4, none⟩) (.inr (.inr rfl)) _
  have q5 := hSr.opn n hn
  clear hS hSr hcl hcn hb2
  refine wpT_one (i := 15) (by kernel_rfl) rfl hC (fun K hK => ?_)
  go_simp
  refine hK.out _ _ (fun h => absurd h (by decide +kernel)) (fun _ hC' => ?_)
  clear hK K hC
  have hC := hC'
  clear hC'
  try simp only [Act.put, List.getElem_toArray, List.getElem_cons_zero, List.getElem_cons_succ, List.setIfInBounds_toArray, List.set_cons_zero, List.set_cons_succ]
  refine wpT_one (i := 16) (by kernel_rfl) rfl hC (fun K hK => ?_)
  go_simp
  refine hK.out _ _ (fun h => absurd h (by decide +kernel)) (fun _ hC' => ?_)
  clear hK K hC
  have hC := hC'
  clear hC'
  try simp only [Act.put, List.getElem_toArray, List.getElem_cons_zero, List.getElem_cons_succ, List.setIfInBounds_toArray, List.set_cons_zero, List.set_cons_succ]
  refine wpT_one (i := 17) (by kernel_rfl) rfl hC (fun K hK => ?_)
  go_simp
  refine hK.out _ _ (fun h => absurd h (by decide +kernel)) (fun _ hC' => ?_)
  clear hK K hC
  have hC := hC'
  clear hC'
  try simp only [Act.put, List.getElem_toArray, List.getElem_cons_zero, List.getElem_cons_succ, List.setIfInBounds_toArray, List.set_cons_zero, List.set_cons_succ]
  refine wpG_done (by kernel_rfl) ?_ _
  have hcr : ∀ x, x < w.heap.size → colr x = col x := fun x hx => by rw [HCr.out, if_neg (by have := HRb.out; omega)]
  have hrr : colr rb = 11 := by rw [HCr.out, if_pos rfl]
  have hz2 := HF2.out.size
  have n4 : ¬ ((Value.slice so st.length sc).ownBlock = some rb ∨ rb = k.sb) := fun e => by
    rcases e with e | e
    · have := H2.out.ks rb e; omega
    · have := H2.out.k1; rw [← e] at this; omega
  have hpo : Fx (fun x => x = k.ob) (w3.setCell ⟨k.sb, 4, none⟩ (.slice (some ⟨g', 0, none⟩) (st.length + 1) gc')) ((w3.setCell ⟨k.sb, 4, none⟩ (.slice (some ⟨g', 0, none⟩) (st.length + 1) gc')).setCell ⟨k.ob, n, none⟩ (.bool true)) := Fx.put _ _ _ _
  have n5 : ¬ rb = k.ob := fun e => by have := H2.out.k4; rw [← e] at this; omega
  have lsz : w2.heap.size ≤ w3.heap.size := by have := hS3.size; simpa [World.setCell] using this
  have HCl2 : Hid (∀ x, x < w2.heap.size → col2 x = colr x) := Lib.hid fun x hx => HCl.out x (by have := HLow.out; omega)
  have HCn2 : Hid (∀ x, w2.heap.size ≤ x → col2 x = 0 ∨ col2 x = 5) := Lib.hid fun x hx => by
    by_cases q : x < (w2.drew.alloc (.cells #[.int .i64 (n : Nat)] 3)).heap.size
    · left
      rw [HCl.out x q]
      apply Classical.byContradiction
      intro q2
      have := (H2.out.new x q2).2; omega
    · exact HCn.out x (by omega)
  refine q_hold (fun W => SrV w0 W k col2 N L D (fun j => if j = n then sn else num j) (fun j => if j = n then sn else low j) sn (fun j => if j = n then true else opn j) (st ++ [n]) (.slice (some ⟨g', 0, none⟩) (st.length + 1) gc') P B C pv ∧ Fx (fun x => 1 ≤ col x ∧ col x ≤ 5) w W ∧ rb < W.heap.size ∧ (W.cell? ⟨rb, 0, none⟩ = some (.int .i64 0) ∧ W.frozen? ⟨rb, 0, none⟩ = false) ∧ (W.cell? ⟨rb, 1, none⟩ = some (.slice none 0 0) ∧ W.frozen? ⟨rb, 1, none⟩ = false) ∧ w2.heap.size ≤ W.heap.size) ?_ ?_
  · have d0 := hS3.cellF HR.out.1.1 HR.out.1.2 n4
    have d1 := hS3.cellF HR.out.2.1 HR.out.2.2 n4
    refine ⟨HSr.out.putOpn hn true, (HF2.out.trans' hS3 fun x e hl => ?_).trans' hpo fun x e hl => ?_, by have h1 := hS3.size; have h2 := hpo.size; omega, hpo.cellF d0.1 d0.2 n5, hpo.cellF d1.1 d1.2 n5, by have h1 := hS3.size; have h2 := hpo.size; omega⟩
    · have q := hcr x hl
      rcases e with e | e
      · have := H2.out.ks x e; omega
      · have := H2.out.k1; rw [← e] at this; omega
    · have e : x = k.ob := e
      have q := hcr x hl
      have := H2.out.k4; rw [← e] at this; omega
  clear hS3 q5 q4 HSr HCl HCn HLow hpo n4 n5 lsz HF2 HR H2 HSt hcr hrr hz2 l2
  rintro w4 ⟨h4, hf4, lrb4, r0, r1, lz4⟩
  have H4 := Lib.hid h4
  have HF4 := Lib.hid hf4
  have HR := Lib.hid (And.intro r0 r1)
  have c0 := h4.c0
  clear h4 hf4 r0 r1
  go_wp2_with fail
  refine (gNext_any H4.out.g (n : Int)).mono ?_
  rintro e w5 ⟨v5, rfl, hf, hr⟩
  rw [← HNx.out] at hr
  have HI := Lib.hid hr.toInts
  obtain ⟨no, nc, rfl, _⟩ := hr
  have H5 := Lib.hid (H4.out.no hf)
  have HF5 := Lib.hid (HF4.out.transNo hf)
  have r0 := hf.cellF HR.out.1.1 HR.out.1.2 (fun q => q)
  have r1 := hf.cellF HR.out.2.1 HR.out.2.2 (fun q => q)
  have lz5 := hf.size
  have H4n := Lib.hid H4.out.new
  have H4lt := Lib.hid H4.out.g.lt
  clear hf c0 HR H4 HF4
  go_wp2
  obtain ⟨g1, g2, g3, g4⟩ := put_twoS w5 (qb := rb) (.int .i64 (n : Nat)) (.slice no (natsI (nxN L N n)).length nc) r0.1 r1.1
  have hcr : ∀ x, x < w.heap.size → colr x = col x := fun x hx => by rw [HCr.out, if_neg (by have := HRb.out; omega)]
  have hrr : colr rb = 11 := by rw [HCr.out, if_pos rfl]
  have lrw := HRb.out
  have hrb2 : col2 rb = 11 := by rw [HCl2.out rb (by omega)]; exact hrr
  obtain ⟨col5, hc5⟩ : ∃ f : Nat → Nat, ∀ x, f x = if w4.heap.size ≤ x ∧ x < w5.heap.size then 10 else col2 x := ⟨fun x => if w4.heap.size ≤ x ∧ x < w5.heap.size then 10 else col2 x, fun _ => rfl⟩
  have H6 := (H5.out.recol (col' := col5) (fun x hx => by rw [hc5, if_neg (by have := (H4n.out x hx).2; omega)]) (fun x hx => by
      rw [hc5, if_neg ?_]
      · exact H5.out.old x hx
      · intro q
        have := H5.out.g.lt x hx
        have h7 := H4lt.out x hx
        omega) fun x hx => by
      rw [hc5] at hx
      have := H5.out.fx.size
      split at hx
      · omega
      · exact H5.out.new x hx).keep g3 fun x e hl => by
      have e : x = rb := e
      rw [hc5, if_neg (by omega), e, hrb2]; omega
  refine bodyPost_ret (v := .agg #[.int .i64 (n : Nat), .slice no (natsI (nxN L N n)).length nc]) (by simp [results, Tryz.results54, go_sem, g1, g2]) rfl ⟨_, _, col5, rfl, H6, HF5.out.trans' g3 fun x e hl => by have e : x = rb := e; omega, fun x hx => ?_, fun x hx => ?_, ?_⟩
  · rw [hc5, if_neg (by omega), HCl2.out x (by omega), hcr x hx]
  · rw [hc5]
    split
    · right; right; omega
    · by_cases q : x < w2.heap.size
      · rw [HCl2.out x q, HCr.out]
        split
        · right; right; omega
        · left
          apply Classical.byContradiction
          intro q2
          have := (H.out.new x q2).2; omega
      · rcases HCn2.out x (by omega) with q1 | q1
        · exact .inl q1
        · exact .inr (.inl q1)
  · refine (HI.out.mono fun x hx => ?_).keep g3 fun x hx e => ?_
    · show col5 x = 10
      rw [hc5, if_pos ⟨hx.1, hx.2⟩]
    · have e : x = rb := e
      rw [hc5, if_neg (by omega), e, hrb2] at hx
      omega
end
#print axioms begin_any
end Go.Proofs.YtdoplaijgocboaaGreat
