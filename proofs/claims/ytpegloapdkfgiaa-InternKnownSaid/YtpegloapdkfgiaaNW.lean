/- The law InternKnown: the rows that it builds. -/
import Derived.Test.YtpegloapdkfgiaaNV
import Derived.Test.YtpegloapdkfgiaaNQ
import Derived.Test.YtpegloapdkfgiaaNJ
import Derived.Test.YtpegloapdkfgiaaNN
namespace Go.Proofs.Ytpegloapdkfgiaa
open Go.RowKit
set_option linter.unusedVariables false

/-- a function turned at one place -/
def upd' {α : Type} (f : Nat → α) (i : Nat) (v : α) : Nat → α := fun j => if j = i then v else f j
theorem upd'_same {α : Type} (f : Nat → α) (i : Nat) (v : α) : upd' f i v i = v := by simp [upd']
theorem upd'_ne {α : Type} (f : Nat → α) {i j : Nat} (v : α) (h : j ≠ i) : upd' f i v j = f j := by simp [upd', h]
theorem okU_wrap (x : Int) : OkU (IntKind.u64.wrap x) := by
  rw [IntKind.wrap_u64]; unfold OkU; omega
theorem rng_push (vs : Nat → Value) (n : Nat) (v : Value) : (List.range (n + 1)).map (upd' vs n v) = (List.range n).map vs ++ [v] := by
  rw [List.range_succ, List.map_append]
  congr 1
  · refine List.map_congr_left fun k hk => upd'_ne _ _ ?_
    have := List.mem_range.1 hk; omega
  · simp [upd'_same]
/-- what a round has built: n rows, pairs, a row under way -/
structure KnI (w0 ws : World) (n : Nat) (lv pv rv : Value) (vs : Nat → Value) (rs : Nat → List Int) (ps : List (Int × Int)) (xs : List Int) (E : Nat → Prop) : Prop where
  fx : Fx No w0 ws
  l : ws.ownsRow w0.heap.size 27 1 lv n ((List.range n).map vs)
  p : ws.ownsRow w0.heap.size 60 2 pv ps.length (ncells kP ps)
  r : ws.ownsRow w0.heap.size 23 1 rv xs.length (ncells kU xs)
  row : ∀ k, k < n → NumV ws E (vs k) (rs k)
  rok : ∀ k, k < n → ∀ x ∈ rs k, OkU x
  pok : ∀ x ∈ ps, kP.ok x
  xok : ∀ x ∈ xs, OkU x
  lp : ∀ g, lv.ownBlock = some g → ¬ pv.ownBlock = some g
  lr : ∀ g, lv.ownBlock = some g → ¬ rv.ownBlock = some g
  pr : ∀ g, pv.ownBlock = some g → ¬ rv.ownBlock = some g
  eE : ∀ j, E j → j < ws.heap.size ∧ ¬ lv.ownBlock = some j ∧ ¬ pv.ownBlock = some j ∧ ¬ rv.ownBlock = some j
  pn : ps = [] → pv = .slice none 0 0
theorem KnI.start (w0 : World) : KnI w0 w0 0 (.slice none 0 0) (.slice none 0 0) (.slice none 0 0) (fun _ => .slice none 0 0) (fun _ => []) [] [] No :=
  ⟨Fx.refl _ _, World.ownsRow_nil _ _ _ _, World.ownsRow_nil _ _ _ _, World.ownsRow_nil _ _ _ _, fun k hk => by omega, fun k hk => by omega, by simp, by simp, fun g h => (by cases h), fun g h => (by cases h), fun g h => (by cases h), fun j hj => False.elim hj, fun _ => rfl⟩
section
variable {w0 ws w1 w2 : World} {n : Nat} {lv pv rv v' : Value} {vs : Nat → Value} {rs : Nat → List Int} {ps : List (Int × Int)} {xs : List Int} {E : Nat → Prop}
theorem KnI.pushR (h : KnI w0 ws n lv pv rv vs rs ps xs E) (hA : Fx No ws w1) (hf : Fx (fun b => rv.ownBlock = some b) w1 w2) {x : Int} (hx : OkU x) (ho : w2.ownsRow w0.heap.size 23 1 v' (xs.length + 1) (ncells kU xs ++ [.int .u64 x]))
    (hb : ∀ g, v'.ownBlock = some g → rv.ownBlock = some g ∨ w1.heap.size ≤ g) : KnI w0 w2 n lv pv v' vs rs ps (xs ++ [x]) E := by
  have hz := hA.size
  have hz2 := hf.size
  have hll : ∀ g, lv.ownBlock = some g → g < ws.heap.size := fun g e => (World.ownsRow.lt h.l g e).2
  have hpl : ∀ g, pv.ownBlock = some g → g < ws.heap.size := fun g e => (World.ownsRow.lt h.p g e).2
  have hrb : ∀ g, rv.ownBlock = some g → w0.heap.size ≤ g := fun g e => (World.ownsRow.lt h.r g e).1
  have hv' : ∀ j, j < ws.heap.size → ¬ rv.ownBlock = some j → ¬ v'.ownBlock = some j := fun j h1 h2 e => by
    rcases hb j e with h3 | h3
    · exact h2 h3
    · omega
  refine ⟨(h.fx.trans hA).trans' hf fun j h1 h2 => by have := hrb j h1; omega, ownsRow_fx (ownsRow_fx h.l hA fun _ _ h => h) hf fun g e1 e2 => h.lr g e1 e2, ownsRow_fx (ownsRow_fx h.p hA fun _ _ h => h) hf fun g e1 e2 => h.pr g e1 e2, by rw [List.length_append, ncells_append, ncells_single]; exact ho, fun q hq => ((h.row q hq).no hA).keep hf fun j hj => (h.eE j hj).2.2.2, h.rok, h.pok, fun y hy => ?_, h.lp, fun g e => hv' g (hll g e) (h.lr g e), fun g e => hv' g (hpl g e) (h.pr g e), fun j hj => ?_, h.pn⟩
  · rcases List.mem_append.1 hy with hy | hy
    · exact h.xok y hy
    · rw [List.mem_singleton.1 hy]; exact hx
  · obtain ⟨h1, h2, h3, h4⟩ := h.eE j hj
    exact ⟨by omega, h2, h3, hv' j h1 h4⟩
theorem KnI.pushP (h : KnI w0 ws n lv pv rv vs rs ps xs E) (hA : Fx No ws w1) (hf : Fx (fun b => pv.ownBlock = some b) w1 w2) {x : Int × Int} (hx : kP.ok x) (ho : w2.ownsRow w0.heap.size 60 2 v' (ps.length + 1) (ncells kP ps ++ [.int .u64 x.1, .int .u64 x.2]))
    (hb : ∀ g, v'.ownBlock = some g → pv.ownBlock = some g ∨ w1.heap.size ≤ g) : KnI w0 w2 n lv v' rv vs rs (ps ++ [x]) xs E := by
  have hz := hA.size
  have hz2 := hf.size
  have hll : ∀ g, lv.ownBlock = some g → g < ws.heap.size := fun g e => (World.ownsRow.lt h.l g e).2
  have hrl : ∀ g, rv.ownBlock = some g → g < ws.heap.size := fun g e => (World.ownsRow.lt h.r g e).2
  have hpb : ∀ g, pv.ownBlock = some g → w0.heap.size ≤ g := fun g e => (World.ownsRow.lt h.p g e).1
  have hv' : ∀ j, j < ws.heap.size → ¬ pv.ownBlock = some j → ¬ v'.ownBlock = some j := fun j h1 h2 e => by
    rcases hb j e with h3 | h3
    · exact h2 h3
    · omega
  refine ⟨(h.fx.trans hA).trans' hf fun j h1 h2 => by have := hpb j h1; omega, ownsRow_fx (ownsRow_fx h.l hA fun _ _ h => h) hf fun g e1 e2 => h.lp g e1 e2, by rw [List.length_append, ncells_append, ncells_single]; exact ho, ownsRow_fx (ownsRow_fx h.r hA fun _ _ h => h) hf fun g e1 e2 => h.pr g e2 e1, fun q hq => ((h.row q hq).no hA).keep hf fun j hj => (h.eE j hj).2.2.1, h.rok, fun y hy => ?_, h.xok, fun g e => hv' g (hll g e) (h.lp g e), h.lr, fun g e1 e2 => hv' g (hrl g e2) (fun e3 => h.pr g e3 e2) e1, fun j hj => ?_, fun e => by simp at e⟩
  · rcases List.mem_append.1 hy with hy | hy
    · exact h.pok y hy
    · rw [List.mem_singleton.1 hy]; exact hx
  · obtain ⟨h1, h2, h3, h4⟩ := h.eE j hj
    exact ⟨by omega, h2, hv' j h1 h3, h4⟩
theorem KnI.pushL (h : KnI w0 ws n lv pv rv vs rs ps xs E) (hA : Fx No ws w1) (hf : Fx (fun b => lv.ownBlock = some b) w1 w2) (ho : w2.ownsRow w0.heap.size 27 1 v' (n + 1) ((List.range n).map vs ++ [rv]))
    (hb : ∀ g, v'.ownBlock = some g → lv.ownBlock = some g ∨ w1.heap.size ≤ g) : KnI w0 w2 (n + 1) v' pv (.slice none 0 0) (upd' vs n rv) (upd' rs n xs) ps [] (fun j => E j ∨ rv.ownBlock = some j) := by
  have hz := hA.size
  have hz2 := hf.size
  have hpl : ∀ g, pv.ownBlock = some g → g < ws.heap.size := fun g e => (World.ownsRow.lt h.p g e).2
  have hrl : ∀ g, rv.ownBlock = some g → g < ws.heap.size := fun g e => (World.ownsRow.lt h.r g e).2
  have hlb : ∀ g, lv.ownBlock = some g → w0.heap.size ≤ g := fun g e => (World.ownsRow.lt h.l g e).1
  have hv' : ∀ j, j < ws.heap.size → ¬ lv.ownBlock = some j → ¬ v'.ownBlock = some j := fun j h1 h2 e => by
    rcases hb j e with h3 | h3
    · exact h2 h3
    · omega
  have hrow : NumV ws (fun j => rv.ownBlock = some j) rv xs := by
    obtain ⟨ao, cap, h1, h2, h3, h4, h5, h6⟩ := SlV.ofOwns h.r
    subst h1
    refine ⟨ao, cap, rfl, h2, h3, h4, h5, ?_⟩
    rcases h6 with h6 | ⟨g, o, h7, h8, h9⟩
    · exact .inl h6
    · refine .inr ⟨g, o, h7, ?_, h9⟩
      rw [h7]; rfl
  have hE : ∀ j, E j ∨ rv.ownBlock = some j → j < ws.heap.size ∧ ¬ lv.ownBlock = some j ∧ ¬ pv.ownBlock = some j := fun j hj => by
    rcases hj with hj | hj
    · obtain ⟨h1, h2, h3, _⟩ := h.eE j hj
      exact ⟨h1, h2, h3⟩
    · exact ⟨hrl j hj, fun e => h.lr j e hj, fun e => h.pr j e hj⟩
  refine ⟨(h.fx.trans hA).trans' hf fun j h1 h2 => by have := hlb j h1; omega, by rw [rng_push]; exact ho, ownsRow_fx (ownsRow_fx h.p hA fun _ _ h => h) hf fun g e1 e2 => h.lp g e2 e1, World.ownsRow_nil _ _ _ _, fun q hq => ?_, fun q hq => ?_, h.pok, by simp, fun g e1 e2 => hv' g (hpl g e2) (fun e3 => h.lp g e3 e2) e1, fun g e1 e2 => (by cases e2), fun g e1 e2 => (by cases e2), fun j hj => ?_, h.pn⟩
  · by_cases e : q = n
    · subst e
      rw [upd'_same, upd'_same]
      exact ((hrow.no hA).keep hf fun j hj => (hE j (.inr hj)).2.1).mono fun j hj => .inr hj
    · rw [upd'_ne _ _ e, upd'_ne _ _ e]
      exact (((h.row q (by omega)).no hA).keep hf fun j hj => (hE j (.inl hj)).2.1).mono fun j hj => .inl hj
  · by_cases e : q = n
    · subst e; rw [upd'_same]; exact h.xok
    · rw [upd'_ne _ _ e]; exact h.rok q (by omega)
  · obtain ⟨h1, h2, h3⟩ := hE j hj
    exact ⟨by omega, hv' j h1 h2, h3, fun e => by cases e⟩
theorem KnI.rows (h : KnI w0 ws n lv pv rv vs rs ps xs E) : RowsU ws (fun j => j < ws.heap.size) lv ((List.range n).map rs) := by
  obtain ⟨ao, cap, rfl, h2, h3, _, _, _⟩ := SlV.ofOwns h.l
  unfold maxLen at h3
  refine ⟨ao, cap, by simp, by omega, by simpa using h2, fun k l hk => ?_⟩
  have hkn : k < n := by have := (List.getElem?_eq_some_iff.1 hk).1; simpa using this
  obtain rfl : rs k = l := by simpa [hkn] using hk
  obtain ⟨g, c, e, h4, h5⟩ := ownsRow_pos h.l (by omega)
  simp only [Value.slice.injEq] at e
  obtain ⟨rfl, _, rfl⟩ := e
  have hc := h.l.cells (g := g) rfl k (vs k) (by simp [hkn])
  rw [Addr.add_lit] at hc
  exact ⟨g, 0, vs k, rfl, h5, hc, (h.row k hkn).mono fun j hj => (h.eE j hj).1, h.rok k hkn⟩
/-- the first of the pairs -/
theorem KnI.part (h : KnI w0 ws n lv pv rv vs rs ps xs E) {ao : Option Addr} {cap r : Nat} (hv : pv = .slice ao ps.length cap) (hr : r ≤ ps.length) : PaV ws (fun j => j < ws.heap.size) (.slice ao r cap) (ps.take r) ∧ (ps.length ≤ cap) ∧ cap ≤ 9223372036854775807 := by
  obtain ⟨ao', cap', e, h2, h3, h4, h5, h6⟩ := SlV.ofOwns h.p
  rw [hv] at e
  simp only [Value.slice.injEq] at e
  obtain ⟨rfl, _, rfl⟩ := e
  unfold maxLen at h3
  refine ⟨⟨ao, cap, by rw [List.length_take, Nat.min_eq_left hr], by rw [List.length_take]; omega, by unfold maxLen; omega, (ncells_length fitP _), h5, ?_⟩, h2, by omega⟩
  rcases Nat.eq_zero_or_pos r with h0 | h0
  · subst h0; exact .inl rfl
  · obtain ⟨g, o, h7, h8, h9⟩ := h6.addr (by rw [ncells_length fitP]; show 0 < ps.length * 2; omega)
    refine .inr ⟨g, o, h7, h8.2, fun i hi => ?_⟩
    rw [ncells_length fitP, List.length_take, Nat.min_eq_left hr] at hi
    have hi2 : i < r * 2 := hi
    have hn : ncells kP ps = ncells kP (ps.take r) ++ ncells kP (ps.drop r) := by rw [← ncells_append, List.take_append_drop]
    have hlt : i < (ncells kP (ps.take r)).length := by rw [ncells_length fitP, List.length_take, Nat.min_eq_left hr]; exact hi2
    rw [h9 i (by rw [hn, List.length_append]; omega), hn]
    simp [List.getD, List.getElem?_append_left hlt]
end
theorem RowsU.wide {w0 w : World} {v : Value} {ls : List (List Int)} (h : RowsU w (fun j => j < w0.heap.size) v ls) (hf : Fx No w0 w) : RowsU w (fun j => j < w.heap.size) v ls := by
  have hz := hf.size
  obtain ⟨ao, cap, h1, h2, h3, h4⟩ := h
  refine ⟨ao, cap, h1, h2, h3, fun k l hk => ?_⟩
  obtain ⟨g, o, rv, h5, h6, h7, h8, h9⟩ := h4 k l hk
  exact ⟨g, o, rv, h5, Nat.lt_of_lt_of_le h6 hz, h7, h8.mono fun j hj => Nat.lt_of_lt_of_le hj hz, h9⟩
theorem back_ok {w : World} {v : Value} {ls : List (List Int)} (h : RowsU w (fun j => j < w.heap.size) v ls) (a : Int) (ha : OkU a) (b : Int) (hb : OkU b) : Calls Try.prog 3 #[v, .int .u64 a, .int .u64 b] w fun e w' => e = .returned (.bool true) ∧ Fx No w w' := by
  obtain ⟨p, rfl⟩ := Int.eq_ofNat_of_zero_le ha.1
  obtain ⟨q, rfl⟩ := Int.eq_ofNat_of_zero_le hb.1
  exact back_any h p q (by have := ha.2; omega)
#print axioms KnI.pushL
#print axioms KnI.part
end Go.Proofs.Ytpegloapdkfgiaa
