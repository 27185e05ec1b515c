/- A range over a function, where the iterator may write into boxes of its own and the body into blocks of its own: what each may turn is told by sets of blocks. No program in sight. -/
import Derived.Test.YtcfajeldkioomaaHeap
import Derived.RangeFuncNested
import Derived.RangeFuncBound
import Derived.RangeFuncCalls
import Derived.RangeFuncLeaves
import Derived.Shelf.Abstract
import Derived.Shelf.RegionOpen
import Derived.OwnWalkIn
import Derived.TacticsInMore
import Derived.LoopNIn
import Derived.LoopIn
namespace Go.Proofs.Ytcfajeldkioomaa
open Go.RowKit
set_option linter.unusedVariables false

theorem Fx.putObj {S : Nat → Prop} (W : World) (l : Nat) (o : Obj) (h : S l) : Fx S W (W.putObj l o) :=
  Fx.ofGrown (grownBy_putObj' W l o) fun k e _ => by cases e; exact h

/-- Kept by whatever turns blocks of S alone. -/
def Kept {β : Type} (S : Nat → Prop) (J : β → World → Prop) : Prop := ∀ s A B, J s A → Fx S A B → J s B

/-- how a round's body may be left -/
def rangeOut {α : Type} (Bd : Nat → Prop) (I : List α → World → Prop) (Ix : Code → List α → World → Prop) (xs : List α) (W : World) : Exit → Act → World → Prop
  | .normal, _, W' => Fx Bd W W' ∧ I xs W'
  | .ret, _, W' => Fx Bd W W' ∧ Ix .ret xs W'
  | .exit id, _, W' => Fx Bd W W' ∧ Ix (.exit id) xs W'
  | .goto t, _, W' => Fx Bd W W' ∧ Ix (.goto t) xs W'
  | .panic _, _, _ => False
  | .outgrown, _, _ => False

/-- what a round hands to the iterator -/
def RoundAt {α : Type} (n : Nat) (P : Program) (l : Nat) (encs : α → Array Value) (G : List α → α → Prop) (Bd : Nat → Prop) (J Jx : List α → World → Prop) : Prop :=
  ∀ pre x W, G pre x → J pre W → YieldAt Fence.wide n P l (encs x) W fun e W' =>
    (e = .returned (.bool true) ∧ J (pre ++ [x]) W' ∧ Fx (fun k => Bd k ∨ k = l) W W') ∨ (e = .returned (.bool false) ∧ Jx (pre ++ [x]) W')

theorem range_law {α : Type} {n : Nat} {P : Program} {g : Operand} {ps : Array Tmp} {assign body : Code} {Q : Exit → Act → World → Prop} {a : Act} {w : World}
    {gf : Nat} {lb : Array Value} (hg : a.eval g = .func (.func gf) #[] lb) (eg : ∀ args w, (callFunc gf args).run P w = .ok (.enter gf args) w)
    (encs : α → Array Value) (hps : ∀ x, (encs x).size = ps.size) (G : List α → α → Prop) (Pv Bd : Nat → Prop) (hB0 : ¬ Bd w.heap.size) (hB1 : ¬ Bd (w.heap.size + 1)) (hP0 : ¬ Pv w.heap.size) (hP1 : ¬ Pv (w.heap.size + 1))
    (S Sp : List α → Prop) (I : List α → World → Prop) (Ix : Code → List α → World → Prop) (hI : Kept (fun k => Pv k ∨ k = w.heap.size + 1) I) (hIx : ∀ c, Kept (fun k => Pv k ∨ k = w.heap.size + 1) (Ix c))
    (h0 : I [] w) (a₁ : α → Act)
    (hassign : ∀ (x : α) (W : World) (K : Act → World → Prop), K (a₁ x) W →
      assign.wpIn (Fence.wide.inRound (w.heap.size + 1)) (n - 1 - 1) P (Exit.then K (fun _ _ _ => False)) { tmps := (ps.zip (encs x)).foldl (fun t (p, v) => t.setIfInBounds p v) a.tmps, defers := [] } W)
    (hbody : ∀ (pre : List α) (x : α) (W : World), G pre x → I pre W → w.heap.size + 2 ≤ W.heap.size → body.wpIn (Fence.wide.inRound (w.heap.size + 1)) (n - 1 - 1) P (rangeOut Bd I Ix (pre ++ [x]) W) (a₁ x) W)
    (hit : ∀ (W : World) (J Jx : List α → World → Prop), Fx No w W → W.heap.size = w.heap.size + 2 → Kept Pv J → Kept Pv Jx → RoundAt (n - 1 - 1) P (w.heap.size + 1) encs G Bd J Jx → J [] W →
      CallsIn Fence.wide (n - 1) P gf (#[.func (.yield (w.heap.size + 1)) #[] #[]] ++ lb) W fun e W' => (∃ v, e = .returned v) ∧ ((∃ xs, S xs ∧ J xs W') ∨ (∃ pre, Sp pre ∧ Jx pre W')))
    (hdone : ∀ (xs : List α) (W : World), S xs → I xs W → W.heap[w.heap.size]? = some (.deferred (some [])) → Q .normal { a with defers := { target := .collected w.heap.size, args := #[] } :: a.defers } W)
    (hstop : ∀ (c : Code) (pre : List α) (W : World), Sp pre → Ix c pre W → W.heap[w.heap.size]? = some (.deferred (some [])) → c.wpIn Fence.wide n P Q { a with defers := { target := .collected w.heap.size, args := #[] } :: a.defers } W) :
    (Code.rangeFunc g ps assign body).wpIn Fence.wide n P Q a w := by
  refine wpIn_rangeFunc fun fn hfn => ?_
  obtain ⟨rec, hrec⟩ : ∃ rec : LoopState → Option Code → Loop, rec = fun st pe => { state := st, pending := pe, fn, tmps := a.tmps, params := ps, assign, body, defers := w.heap.size } := ⟨_, rfl⟩
  obtain ⟨W1, hW1⟩ : ∃ W1, (w.alloc (.deferred (some []))).alloc (.loop (rec .ready none)) = W1 := ⟨_, rfl⟩
  have f1 : Fx No w W1 := by rw [← hW1]; exact ((Fx.refl No w).alloc _).alloc _
  have s1 : W1.heap.size = w.heap.size + 2 := by rw [← hW1]; simp
  have hL1 : W1.heap[w.heap.size + 1]? = some (.loop (rec .ready none)) := by
    rw [← hW1]; have := World.alloc_heap_new (w.alloc (.deferred (some []))) (.loop (rec .ready none)); rwa [World.size_alloc] at this
  have hK1 : W1.heap[w.heap.size]? = some (.deferred (some [])) := by
    rw [← hW1]; exact (Below.heap_alloc _ _ _ (by simp)).trans (World.alloc_heap_new w _)
  have hI1 : I [] W1 := hI _ _ _ h0 f1.no
  refine ⟨w.heap.size + 1, [{ target := .collected w.heap.size, args := #[] }], W1, { target := .fn (.func gf) lb, args := #[.func (.yield (w.heap.size + 1)) #[] #[]] }, W1, gf,
    #[.func (.yield (w.heap.size + 1)) #[] #[]] ++ lb, W1, ?_, ?_, fun f' _ => trivial, ?_, (fun h => by cases h), ?_⟩
  · rw [← hW1, hrec]; exact run_enterLoop_outer _ _ _ _ _
  · simp only [resolve, hg]
    simp [go_sem]
  · simp [invoke, go_sem, eg]
  · -- the two facts of book-keeping ride beside the caller's own
    have keep : ∀ {W W' : World} {T : Nat → Prop} {st : LoopState} {pe : Option Code}, ¬ T w.heap.size → ¬ T (w.heap.size + 1) → Fx T W W' →
        W.heap[w.heap.size + 1]? = some (.loop (rec st pe)) ∧ W.heap[w.heap.size]? = some (.deferred (some [])) →
        W'.heap[w.heap.size + 1]? = some (.loop (rec st pe)) ∧ W'.heap[w.heap.size]? = some (.deferred (some [])) :=
      fun h1 h2 hf h => ⟨hf.at_ h.1 h2, hf.at_ h.2 h1⟩
    have turn : ∀ {W : World} {r : Loop} {r' : Loop}, W.heap[w.heap.size + 1]? = some (.loop r) ∧ W.heap[w.heap.size]? = some (.deferred (some [])) →
        (W.putObj (w.heap.size + 1) (.loop r')).heap[w.heap.size + 1]? = some (.loop r') ∧ (W.putObj (w.heap.size + 1) (.loop r')).heap[w.heap.size]? = some (.deferred (some [])) :=
      fun h => ⟨World.putObj_heap_same (Array.getElem?_eq_some_iff.1 h.1).1, (World.putObj_heap_other (by omega)).trans h.2⟩
    refine (hit W1
      (fun pre W => I pre W ∧ W.heap[w.heap.size + 1]? = some (.loop (rec .ready none)) ∧ W.heap[w.heap.size]? = some (.deferred (some [])))
      (fun pre W => ∃ c, Ix c pre W ∧ W.heap[w.heap.size + 1]? = some (.loop (rec .done (some c))) ∧ W.heap[w.heap.size]? = some (.deferred (some [])))
      f1 s1
      (fun s A B hs hf => ⟨hI s A B hs.1 (hf.mono fun _ _ h => .inl h), keep hP0 hP1 hf hs.2⟩)
      (fun s A B hs hf => let ⟨c, hc, hl⟩ := hs; ⟨c, hIx c s A B hc (hf.mono fun _ _ h => .inl h), keep hP0 hP1 hf hl⟩)
      ?_ ⟨hI1, hL1, hK1⟩).mono ?_
    · -- one round
      rintro pre x W hG ⟨hi, hl⟩
      have hlt : w.heap.size + 1 < W.heap.size := (Array.getElem?_eq_some_iff.1 hl.1).1
      have hy := run_yield (P := P) (args := encs x) hl.1 (by rw [hrec]; exact hps x)
      rw [hrec] at hy
      refine ⟨fn, _, assign, body, hy, roundIn_of_wpIn hfn (hassign x W _ ⟨_, run_beginRound hl.1 (by rw [hrec]), ?_⟩)⟩
      have hl2 := turn (r' := { rec .ready none with state := .busy }) hl
      have hf2 : Fx (fun k => Bd k ∨ k = w.heap.size + 1) W (W.putObj (w.heap.size + 1) (.loop { rec .ready none with state := .busy })) := Fx.putObj _ _ _ (.inr rfl)
      refine wpIn_mono (hbody pre x _ hG (hI _ _ _ hi (Fx.putObj _ _ _ (.inr rfl))) (Nat.le_trans (show w.heap.size + 2 ≤ W.heap.size by omega) (Fx.putObj (S := fun _ => True) W _ _ trivial).size)) ?_
      have fin : ∀ (jump : Option Code) (W3 : World), Fx Bd (W.putObj (w.heap.size + 1) (.loop { rec .ready none with state := .busy })) W3 →
          (Instr.endRound (w.heap.size + 1) jump).run P W3 = .ok (.bool jump.isNone) (W3.putObj (w.heap.size + 1) (.loop (rec (if jump.isNone then .ready else .done) jump))) ∧
          ((W3.putObj (w.heap.size + 1) (.loop (rec (if jump.isNone then .ready else .done) jump))).heap[w.heap.size + 1]? = some (.loop (rec (if jump.isNone then .ready else .done) jump)) ∧
          (W3.putObj (w.heap.size + 1) (.loop (rec (if jump.isNone then .ready else .done) jump))).heap[w.heap.size]? = some (.deferred (some []))) := fun jump W3 hk3 => by
        have hl3 := keep (st := .busy) (pe := none) hB0 hB1 hk3 (by rw [hrec] at hl2 ⊢; exact hl2)
        have := run_endRound (P := P) jump hl3.1
        refine ⟨?_, turn hl3⟩
        rw [hrec] at this ⊢
        exact this
      rintro e a3 W3 hp
      cases e with
      | normal =>
        obtain ⟨hk3, hi3⟩ := hp
        obtain ⟨hr, hl4⟩ := fin none W3 hk3
        exact ⟨_, _, hr, .inl ⟨rfl, ⟨hI _ _ _ hi3 (Fx.putObj _ _ _ (.inr rfl)), hl4⟩, (hf2.trans (hk3.mono fun _ _ h => .inl h)).trans (Fx.putObj _ _ _ (.inr rfl))⟩⟩
      | ret =>
        obtain ⟨hk3, hi3⟩ := hp
        obtain ⟨hr, hl4⟩ := fin (some .ret) W3 hk3
        exact ⟨_, _, hr, .inr ⟨rfl, .ret, hIx _ _ _ _ hi3 (Fx.putObj _ _ _ (.inr rfl)), hl4⟩⟩
      | exit id =>
        obtain ⟨hk3, hi3⟩ := hp
        obtain ⟨hr, hl4⟩ := fin (some (.exit id)) W3 hk3
        exact ⟨_, _, hr, .inr ⟨rfl, .exit id, hIx _ _ _ _ hi3 (Fx.putObj _ _ _ (.inr rfl)), hl4⟩⟩
      | goto t =>
        obtain ⟨hk3, hi3⟩ := hp
        obtain ⟨hr, hl4⟩ := fin (some (.goto t)) W3 hk3
        exact ⟨_, _, hr, .inr ⟨rfl, .goto t, hIx _ _ _ _ hi3 (Fx.putObj _ _ _ (.inr rfl)), hl4⟩⟩
      | panic ch => exact hp.elim
      | outgrown => exact hp.elim
    · -- behind the iterator
      rintro e W2 ⟨⟨v, rfl⟩, (⟨xs, hS, hi, hl⟩ | ⟨pre, hSp, c, hi, hl⟩)⟩
      · exact ⟨none, _, by have := run_endLoop (P := P) hl.1 (by rw [hrec]; simp); rw [hrec] at this; exact this, hdone xs _ hS (hI _ _ _ hi (Fx.putObj _ _ _ (.inr rfl))) (turn hl).2⟩
      · exact ⟨some c, _, by have := run_endLoop (P := P) hl.1 (by rw [hrec]; simp); rw [hrec] at this; exact this, hstop c pre _ hSp (hIx c _ _ _ hi (Fx.putObj _ _ _ (.inr rfl))) (turn hl).2⟩
#print axioms range_law
end Go.Proofs.Ytcfajeldkioomaa
