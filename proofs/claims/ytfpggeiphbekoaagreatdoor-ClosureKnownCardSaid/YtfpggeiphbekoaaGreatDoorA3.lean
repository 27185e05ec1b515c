/- A range over a function, where the iterator may write into boxes of its own and the body into blocks of its own: what each may turn is told by sets of blocks. No program in sight. | What an iterator over a set tells: plain lemmas. | The iterator of package bits, (*Set).from: what it tells, whatever the loop's body does outside the set. | Callers of package bits' iterator: from, Next. | Contracts: slices.Collect of a set's iterator; (*Set).All. | Contracts of package bits: Join, Meet, Less. -/
import Derived.Test.YtfpggeiphbekoaaGreatDoorA1
import Derived.RangeFuncNested
import Derived.RangeFuncBound
import Derived.RangeFuncCalls
import Derived.RangeFuncLeaves
import Derived.Shelf.Abstract
import Derived.Shelf.RegionOpen
import Derived.OwnWalkIn
import Derived.TacticsInMore
import Derived.LoopNIn
import Derived.LoopIn
import Derived.Test.YtfpggeiphbekoaaGreatDoorA2
import Derived.Lib.TrailingZeros

namespace Go.Proofs.YtfpggeiphbekoaaGreatDoor
open Go.RowKit
set_option linter.unusedVariables false

theorem Fx.putObj {S : Nat → Prop} (W : World) (l : Nat) (o : Obj) (h : S l) : Fx S W (W.putObj l o) :=
  Fx.ofGrown (grownBy_putObj' W l o) fun k e _ => by cases e; exact h

/-- Kept by whatever turns blocks of S alone. -/
def Kept {β : Type} (S : Nat → Prop) (J : β → World → Prop) : Prop := ∀ s A B, J s A → Fx S A B → J s B

/-- how a round's body may be left -/
def rangeOut {α : Type} (Bd : Nat → Prop) (I : List α → World → Prop) (Ix : Code → List α → World → Prop) (xs : List α) (W : World) : Exit → Act → World → Prop
  | .normal, _, W' => Fx Bd W W' ∧ I xs W'
  | .ret, _, W' => Fx Bd W W' ∧ Ix .ret xs W'
  | .exit id, _, W' => Fx Bd W W' ∧ Ix (.exit id) xs W'
  | .goto t, _, W' => Fx Bd W W' ∧ Ix (.goto t) xs W'
  | .panic _, _, _ => False
  | .outgrown, _, _ => False

/-- what a round hands to the iterator -/
def RoundAt {α : Type} (n : Nat) (P : Program) (l : Nat) (encs : α → Array Value) (G : List α → α → Prop) (Bd : Nat → Prop) (J Jx : List α → World → Prop) : Prop :=
  ∀ pre x W, G pre x → J pre W → YieldAt Fence.wide n P l (encs x) W fun e W' =>
    (e = .returned (.bool true) ∧ J (pre ++ [x]) W' ∧ Fx (fun k => Bd k ∨ k = l) W W') ∨ (e = .returned (.bool false) ∧ Jx (pre ++ [x]) W')

theorem range_law {α : Type} {n : Nat} {P : Program} {g : Operand} {ps : Array Tmp} {assign body : Code} {Q : Exit → Act → World → Prop} {a : Act} {w : World}
    {gf : Nat} {lb : Array Value} (hg : a.eval g = .func (.func gf) #[] lb) (eg : ∀ args w, (callFunc gf args).run P w = .ok (.enter gf args) w)
    (encs : α → Array Value) (hps : ∀ x, (encs x).size = ps.size) (G : List α → α → Prop) (Pv Bd : Nat → Prop) (hB0 : ¬ Bd w.heap.size) (hB1 : ¬ Bd (w.heap.size + 1)) (hP0 : ¬ Pv w.heap.size) (hP1 : ¬ Pv (w.heap.size + 1))
    (S Sp : List α → Prop) (I : List α → World → Prop) (Ix : Code → List α → World → Prop) (hI : Kept (fun k => Pv k ∨ k = w.heap.size + 1) I) (hIx : ∀ c, Kept (fun k => Pv k ∨ k = w.heap.size + 1) (Ix c))
    (h0 : I [] w) (a₁ : α → Act)
    (hassign : ∀ (x : α) (W : World) (K : Act → World → Prop), K (a₁ x) W →
      assign.wpIn (Fence.wide.inRound (w.heap.size + 1)) (n - 1 - 1) P (Exit.then K (fun _ _ _ => False)) { tmps := (ps.zip (encs x)).foldl (fun t (p, v) => t.setIfInBounds p v) a.tmps, defers := [] } W)
    (hbody : ∀ (pre : List α) (x : α) (W : World), G pre x → I pre W → w.heap.size + 2 ≤ W.heap.size → body.wpIn (Fence.wide.inRound (w.heap.size + 1)) (n - 1 - 1) P (rangeOut Bd I Ix (pre ++ [x]) W) (a₁ x) W)
    (hit : ∀ (W : World) (J Jx : List α → World → Prop), Fx No w W → W.heap.size = w.heap.size + 2 → Kept Pv J → Kept Pv Jx → RoundAt (n - 1 - 1) P (w.heap.size + 1) encs G Bd J Jx → J [] W →
      CallsIn Fence.wide (n - 1) P gf (#[.func (.yield (w.heap.size + 1)) #[] #[]] ++ lb) W fun e W' => (∃ v, e = .returned v) ∧ ((∃ xs, S xs ∧ J xs W') ∨ (∃ pre, Sp pre ∧ Jx pre W')))
    (hdone : ∀ (xs : List α) (W : World), S xs → I xs W → W.heap[w.heap.size]? = some (.deferred (some [])) → Q .normal { a with defers := { target := .collected w.heap.size, args := #[] } :: a.defers } W)
    (hstop : ∀ (c : Code) (pre : List α) (W : World), Sp pre → Ix c pre W → W.heap[w.heap.size]? = some (.deferred (some [])) → c.wpIn Fence.wide n P Q { a with defers := { target := .collected w.heap.size, args := #[] } :: a.defers } W) :
    (Code.rangeFunc g ps assign body).wpIn Fence.wide n P Q a w := by
  refine wpIn_rangeFunc fun fn hfn => ?_
  obtain ⟨rec, hrec⟩ : ∃ rec : LoopState → Option Code → Loop, rec = fun st pe => { state := st, pending := pe, fn, tmps := a.tmps, params := ps, assign, body, defers := w.heap.size } := ⟨_, rfl⟩
  obtain ⟨W1, hW1⟩ : ∃ W1, (w.alloc (.deferred (some []))).alloc (.loop (rec .ready none)) = W1 := ⟨_, rfl⟩
  have f1 : Fx No w W1 := by rw [← hW1]; exact ((Fx.refl No w).alloc _).alloc _
  have s1 : W1.heap.size = w.heap.size + 2 := by rw [← hW1]; simp
  have hL1 : W1.heap[w.heap.size + 1]? = some (.loop (rec .ready none)) := by
    rw [← hW1]; have := World.alloc_heap_new (w.alloc (.deferred (some []))) (.loop (rec .ready none)); rwa [World.size_alloc] at this
  have hK1 : W1.heap[w.heap.size]? = some (.deferred (some [])) := by
    rw [← hW1]; exact (Below.heap_alloc _ _ _ (by simp)).trans (World.alloc_heap_new w _)
  have hI1 : I [] W1 := hI _ _ _ h0 f1.no
  refine ⟨w.heap.size + 1, [{ target := .collected w.heap.size, args := #[] }], W1, { target := .fn (.func gf) lb, args := #[.func (.yield (w.heap.size + 1)) #[] #[]] }, W1, gf,
    #[.func (.yield (w.heap.size + 1)) #[] #[]] ++ lb, W1, ?_, ?_, fun f' _ => trivial, ?_, (fun h => by cases h), ?_⟩
  · rw [← hW1, hrec]; exact run_enterLoop_outer _ _ _ _ _
  · simp only [resolve, hg]
    simp [go_sem]
  · simp [invoke, go_sem, eg]
  · -- the two facts of book-keeping ride beside the caller's own
    have keep : ∀ {W W' : World} {T : Nat → Prop} {st : LoopState} {pe : Option Code}, ¬ T w.heap.size → ¬ T (w.heap.size + 1) → Fx T W W' →
        W.heap[w.heap.size + 1]? = some (.loop (rec st pe)) ∧ W.heap[w.heap.size]? = some (.deferred (some [])) →
        W'.heap[w.heap.size + 1]? = some (.loop (rec st pe)) ∧ W'.heap[w.heap.size]? = some (.deferred (some [])) :=
      fun h1 h2 hf h => ⟨hf.at_ h.1 h2, hf.at_ h.2 h1⟩
    have turn : ∀ {W : World} {r : Loop} {r' : Loop}, W.heap[w.heap.size + 1]? = some (.loop r) ∧ W.heap[w.heap.size]? = some (.deferred (some [])) →
        (W.putObj (w.heap.size + 1) (.loop r')).heap[w.heap.size + 1]? = some (.loop r') ∧ (W.putObj (w.heap.size + 1) (.loop r')).heap[w.heap.size]? = some (.deferred (some [])) :=
      fun h => ⟨World.putObj_heap_same (Array.getElem?_eq_some_iff.1 h.1).1, (World.putObj_heap_other (by omega)).trans h.2⟩
    refine (hit W1
      (fun pre W => I pre W ∧ W.heap[w.heap.size + 1]? = some (.loop (rec .ready none)) ∧ W.heap[w.heap.size]? = some (.deferred (some [])))
      (fun pre W => ∃ c, Ix c pre W ∧ W.heap[w.heap.size + 1]? = some (.loop (rec .done (some c))) ∧ W.heap[w.heap.size]? = some (.deferred (some [])))
      f1 s1
      (fun s A B hs hf => ⟨hI s A B hs.1 (hf.mono fun _ _ h => .inl h), keep hP0 hP1 hf hs.2⟩)
      (fun s A B hs hf => let ⟨c, hc, hl⟩ := hs; ⟨c, hIx c s A B hc (hf.mono fun _ _ h => .inl h), keep hP0 hP1 hf hl⟩)
      ?_ ⟨hI1, hL1, hK1⟩).mono ?_
    · -- one round
      rintro pre x W hG ⟨hi, hl⟩
      have hlt : w.heap.size + 1 < W.heap.size := (Array.getElem?_eq_some_iff.1 hl.1).1
      have hy := run_yield (P := P) (args := encs x) hl.1 (by rw [hrec]; exact hps x)
      rw [hrec] at hy
      refine ⟨fn, _, assign, body, hy, roundIn_of_wpIn hfn (hassign x W _ ⟨_, run_beginRound hl.1 (by rw [hrec]), ?_⟩)⟩
      have hl2 := turn (r' := { rec .ready none with state := .busy }) hl
      have hf2 : Fx (fun k => Bd k ∨ k = w.heap.size + 1) W (W.putObj (w.heap.size + 1) (.loop { rec .ready none with state := .busy })) := Fx.putObj _ _ _ (.inr rfl)
      refine wpIn_mono (hbody pre x _ hG (hI _ _ _ hi (Fx.putObj _ _ _ (.inr rfl))) (Nat.le_trans (show w.heap.size + 2 ≤ W.heap.size by omega) (Fx.putObj (S := fun _ => True) W _ _ trivial).size)) ?_
      have fin : ∀ (jump : Option Code) (W3 : World), Fx Bd (W.putObj (w.heap.size + 1) (.loop { rec .ready none with state := .busy })) W3 →
          (Instr.endRound (w.heap.size + 1) jump).run P W3 = .ok (.bool jump.isNone) (W3.putObj (w.heap.size + 1) (.loop (rec (if jump.isNone then .ready else .done) jump))) ∧
          ((W3.putObj (w.heap.size + 1) (.loop (rec (if jump.isNone then .ready else .done) jump))).heap[w.heap.size + 1]? = some (.loop (rec (if jump.isNone then .ready else .done) jump)) ∧
          (W3.putObj (w.heap.size + 1) (.loop (rec (if jump.isNone then .ready else .done) jump))).heap[w.heap.size]? = some (.deferred (some []))) := fun jump W3 hk3 => by
        have hl3 := keep (st := .busy) (pe := none) hB0 hB1 hk3 (by rw [hrec] at hl2 ⊢; exact hl2)
        have := run_endRound (P := P) jump hl3.1
        refine ⟨?_, turn hl3⟩
        rw [hrec] at this ⊢
        exact this
      rintro e a3 W3 hp
      cases e with
      | normal =>
        obtain ⟨hk3, hi3⟩ := hp
        obtain ⟨hr, hl4⟩ := fin none W3 hk3
        exact ⟨_, _, hr, .inl ⟨rfl, ⟨hI _ _ _ hi3 (Fx.putObj _ _ _ (.inr rfl)), hl4⟩, (hf2.trans (hk3.mono fun _ _ h => .inl h)).trans (Fx.putObj _ _ _ (.inr rfl))⟩⟩
      | ret =>
        obtain ⟨hk3, hi3⟩ := hp
        obtain ⟨hr, hl4⟩ := fin (some .ret) W3 hk3
        exact ⟨_, _, hr, .inr ⟨rfl, .ret, hIx _ _ _ _ hi3 (Fx.putObj _ _ _ (.inr rfl)), hl4⟩⟩
      | exit id =>
        obtain ⟨hk3, hi3⟩ := hp
        obtain ⟨hr, hl4⟩ := fin (some (.exit id)) W3 hk3
        exact ⟨_, _, hr, .inr ⟨rfl, .exit id, hIx _ _ _ _ hi3 (Fx.putObj _ _ _ (.inr rfl)), hl4⟩⟩
      | goto t =>
        obtain ⟨hk3, hi3⟩ := hp
        obtain ⟨hr, hl4⟩ := fin (some (.goto t)) W3 hk3
        exact ⟨_, _, hr, .inr ⟨rfl, .goto t, hIx _ _ _ _ hi3 (Fx.putObj _ _ _ (.inr rfl)), hl4⟩⟩
      | panic ch => exact hp.elim
      | outgrown => exact hp.elim
    · -- behind the iterator
      rintro e W2 ⟨⟨v, rfl⟩, (⟨xs, hS, hi, hl⟩ | ⟨pre, hSp, c, hi, hl⟩)⟩
      · exact ⟨none, _, by have := run_endLoop (P := P) hl.1 (by rw [hrec]; simp); rw [hrec] at this; exact this, hdone xs _ hS (hI _ _ _ hi (Fx.putObj _ _ _ (.inr rfl))) (turn hl).2⟩
      · exact ⟨some c, _, by have := run_endLoop (P := P) hl.1 (by rw [hrec]; simp); rw [hrec] at this; exact this, hstop c pre _ hSp (hIx c _ _ _ hi (Fx.putObj _ _ _ (.inr rfl))) (turn hl).2⟩
#print axioms range_law
end Go.Proofs.YtfpggeiphbekoaaGreatDoor

namespace Go.Proofs.YtfpggeiphbekoaaGreatDoor

/-- the numbers of X below m that are not below i -/
def preX (i : Int) (X m : Nat) : List Nat := (List.range m).filter fun j => decide (i ≤ (j : Int)) && X.testBit j
theorem preX_succ (i : Int) (X m : Nat) : preX i X (m + 1) = preX i X m ++ if (decide (i ≤ (m : Int)) && X.testBit m) = true then [m] else [] := by
  unfold preX
  rw [List.range_succ, List.filter_append]
  congr 1
  cases h : (decide (i ≤ (m : Int)) && X.testBit m) <;> simp [h]
theorem preX_skip {i : Int} {X m m' : Nat} (h : m ≤ m') (hn : ∀ j, m ≤ j → j < m' → (decide (i ≤ (j : Int)) && X.testBit j) = false) : preX i X m' = preX i X m := by
  induction m' with
  | zero => obtain rfl : m = 0 := by omega
            rfl
  | succ m' ih =>
    by_cases e : m = m' + 1
    · rw [e]
    · rw [preX_succ, hn m' (by omega) (by omega), ih (by omega) fun j h1 h2 => hn j h1 (by omega)]; simp
theorem preX_hit {i : Int} {X m x : Nat} (h : m ≤ x) (hx : (decide (i ≤ (x : Int)) && X.testBit x) = true) (hn : ∀ j, m ≤ j → j < x → (decide (i ≤ (j : Int)) && X.testBit j) = false) :
    preX i X (x + 1) = preX i X m ++ [x] := by
  rw [preX_succ, hx, preX_skip h hn]; simp
theorem preX_prefix (i : Int) (X : Nat) {m n : Nat} (h : m ≤ n) : preX i X m <+: preX i X n := by
  induction n with
  | zero => obtain rfl : m = 0 := by omega
            exact List.prefix_refl _
  | succ n ih =>
    by_cases e : m = n + 1
    · rw [e]; exact List.prefix_refl _
    · rw [preX_succ]; exact (ih (by omega)).trans (List.prefix_append _ _)
theorem preX_length_le (i : Int) (X m : Nat) : (preX i X m).length ≤ m := by
  have := List.length_filter_le (fun j : Nat => decide (i ≤ (j : Int)) && X.testBit j) (List.range m)
  simpa [preX] using this
theorem preX_nil {i : Int} {X m : Nat} (h : ∀ j, j < m → ¬ i ≤ (j : Int)) : preX i X m = [] := by
  unfold preX
  rw [List.filter_eq_nil_iff]
  intro j hj
  rw [List.mem_range] at hj
  simp [h j hj]
theorem preX_zero_int (X n : Nat) : (preX 0 X n).map (fun k : Nat => (k : Int)) = allX n X := by
  have e : preX 0 X n = (List.range n).filter X.testBit := by
    unfold preX
    apply List.filter_congr
    intro j _
    simp
  rw [e]; rfl
theorem preX_over {i : Int} {X n m : Nat} (hX : X < 2 ^ n) (h : n ≤ m) : preX i X m = preX i X n :=
  preX_skip h fun j h1 _ => by rw [testBit_ge hX h1]; simp
theorem nextX_preX (n X : Nat) (i : Int) : nextX n X i = (preX i X n).head? := by
  unfold nextX preX
  rw [List.head?_filter]

/-- u without its lowest bit -/
theorem and_pred (k m : Nat) : 2 ^ k * (2 * m + 1) &&& (2 ^ k * (2 * m + 1) - 1) = 2 ^ (k + 1) * m := by
  have hp : 0 < 2 ^ k := Nat.two_pow_pos k
  have e1 : 2 ^ k * (2 * m + 1) = 2 ^ (k + 1) * m + 2 ^ k := by rw [Nat.pow_succ, Nat.mul_add, Nat.mul_one, ← Nat.mul_assoc]
  have e2 : 2 ^ k * (2 * m + 1) - 1 = 2 ^ (k + 1) * m + (2 ^ k - 1) := by rw [e1]; omega
  rw [e2, e1]
  apply Nat.eq_of_testBit_eq
  intro j
  have h1 : 2 ^ k < 2 ^ (k + 1) := Nat.pow_lt_pow_right (by omega) (by omega)
  rw [Nat.testBit_and, Nat.testBit_two_pow_mul_add m h1, Nat.testBit_two_pow_mul_add m (show 2 ^ k - 1 < 2 ^ (k + 1) by omega)]
  have := Nat.testBit_two_pow_mul_add m (show 0 < 2 ^ (k + 1) by omega) j
  rw [Nat.add_zero] at this
  rw [this]
  by_cases hj : j < k + 1
  · simp only [hj, if_true, Nat.testBit_two_pow, Nat.testBit_two_pow_sub_one, Nat.zero_testBit]
    by_cases e : k = j
    · subst e; simp
    · simp [e]
  · simp [hj]
theorem ctz_spec {u : Nat} (h0 : u ≠ 0) (h : u < 18446744073709551616) : Lib.ctz 64 u < 64 ∧ u.testBit (Lib.ctz 64 u) = true ∧ (∀ j, j < Lib.ctz 64 u → u.testBit j = false) ∧
    ∀ j, (u &&& (u - 1)).testBit j = (u.testBit j && !decide (j = Lib.ctz 64 u)) := by
  obtain ⟨m, hm, hk⟩ := Lib.ctzFrom_spec 64 u (by omega) (by omega)
  have e : Lib.ctz 64 u = Lib.ctzFrom 64 u := by simp [Lib.ctz, h0]
  rw [e]
  generalize Lib.ctzFrom 64 u = k at *
  subst hm
  have e1 : 2 ^ k * (2 * m + 1) = 2 ^ (k + 1) * m + 2 ^ k := by rw [Nat.pow_succ, Nat.mul_add, Nat.mul_one, ← Nat.mul_assoc]
  have h1 : 2 ^ k < 2 ^ (k + 1) := Nat.pow_lt_pow_right (by omega) (by omega)
  have hb : ∀ j, (2 ^ k * (2 * m + 1)).testBit j = if j < k + 1 then decide (k = j) else m.testBit (j - (k + 1)) := by
    intro j
    rw [e1, Nat.testBit_two_pow_mul_add m h1, Nat.testBit_two_pow]
  refine ⟨hk, by rw [hb]; simp, fun j hj => by rw [hb, if_pos (by omega)]; simp; omega, fun j => ?_⟩
  rw [and_pred, hb]
  have := Nat.testBit_two_pow_mul_add m (show 0 < 2 ^ (k + 1) by omega) j
  rw [Nat.add_zero] at this
  rw [this]
  by_cases hj : j < k + 1
  · simp only [hj, if_true, Nat.zero_testBit]
    by_cases e : k = j
    · subst e; simp
    · simp [e]
  · have : j ≠ k := by omega
    simp [hj, this]
/-- what of word k, from number m on, is still to come -/
def restU (i : Int) (X k m u : Nat) : Prop := u < 18446744073709551616 ∧ ∀ b, b < 64 → u.testBit b = (decide (m ≤ 64 * k + b) && (decide (i ≤ ((64 * k + b : Nat) : Int)) && X.testBit (64 * k + b)))
theorem testBit_big {u b : Nat} (h : u < 18446744073709551616) (hb : 64 ≤ b) : u.testBit b = false :=
  Nat.testBit_lt_two_pow (Nat.lt_of_lt_of_le h (Nat.pow_le_pow_right (n := 2) (by omega) hb))
theorem restU_full {i : Int} {X k : Nat} (h : i ≤ ((64 * k : Nat) : Int)) : restU i X k (64 * k) (wd X k) := by
  refine ⟨wd_lt _ _, fun b hb => ?_⟩
  rw [wd_testBit]
  have h1 : i ≤ ((64 * k + b : Nat) : Int) := by omega
  simp only [hb, decide_true, Bool.true_and, h1, Nat.le_add_right]
theorem restU_mask {i : Int} {X k c : Nat} (hk : k = c / 64) (hc : (c : Int) = max 0 i) : restU i X k (64 * k) (wd X k &&& (18446744073709551616 - 2 ^ (c % 64))) := by
  refine ⟨Nat.lt_of_le_of_lt Nat.and_le_left (wd_lt _ _), fun b hb => ?_⟩
  have hp : 2 ^ (c % 64) < 2 ^ 64 := Nat.pow_lt_pow_right (by omega) (by omega)
  have hp0 : 0 < 2 ^ (c % 64) := Nat.two_pow_pos _
  rw [Nat.testBit_and, wd_testBit, show 18446744073709551616 - 2 ^ (c % 64) = 2 ^ 64 - ((2 ^ (c % 64) - 1) + 1) by omega, Nat.testBit_two_pow_sub_succ (by omega), Nat.testBit_two_pow_sub_one]
  have e : (!decide (b < c % 64)) = decide (i ≤ ((64 * k + b : Nat) : Int)) := by
    rw [Bool.eq_iff_iff]; simp; omega
  simp only [hb, decide_true, Bool.true_and, Nat.le_add_right, e]
  cases X.testBit (64 * k + b) <;> simp
theorem restU_zero {i : Int} {X k m : Nat} (h : restU i X k m 0) (hm : m ≤ 64 * (k + 1)) (hm' : 64 * k ≤ m) : preX i X (64 * (k + 1)) = preX i X m := by
  apply preX_skip hm
  intro j h1 h2
  have := h.2 (j - 64 * k) (by omega)
  rw [show 64 * k + (j - 64 * k) = j by omega] at this
  simp only [Nat.zero_testBit, h1, decide_true, Bool.true_and] at this
  exact this.symm
theorem restU_next {i : Int} {X k m u : Nat} (h : restU i X k m u) (h0 : u ≠ 0) (hm' : 64 * k ≤ m) : preX i X (64 * k + Lib.ctz 64 u + 1) = preX i X m ++ [64 * k + Lib.ctz 64 u] ∧ m ≤ 64 * k + Lib.ctz 64 u + 1 ∧ Lib.ctz 64 u < 64 ∧
    restU i X k (64 * k + Lib.ctz 64 u + 1) (u &&& (u - 1)) ∧ u &&& (u - 1) < u ∧ X.testBit (64 * k + Lib.ctz 64 u) = true := by
  obtain ⟨h1, h2, h3, h4⟩ := ctz_spec h0 h.1
  generalize Lib.ctz 64 u = c at *
  have hc := h.2 c h1
  rw [h2] at hc
  have hc' := hc.symm
  simp only [Bool.and_eq_true, decide_eq_true_eq] at hc'
  refine ⟨preX_hit hc'.1 (by rw [decide_eq_true hc'.2.1, hc'.2.2]; rfl) fun j h5 h6 => ?_, by omega, h1, ⟨Nat.lt_of_le_of_lt Nat.and_le_left h.1, fun b hb => ?_⟩, ?_, hc'.2.2⟩
  · have := h.2 (j - 64 * k) (by omega)
    rw [show 64 * k + (j - 64 * k) = j by omega, h3 _ (by omega)] at this
    simp only [h5, decide_true, Bool.true_and] at this
    exact this.symm
  · rw [h4, h.2 b hb]
    by_cases hbc : b < c
    · have := h.2 b hb
      rw [h3 b hbc] at this
      rw [← this]
      have : ¬ (64 * k + c + 1 ≤ 64 * k + b) := by omega
      simp [this]
    · by_cases e : b = c
      · subst e
        have : ¬ (64 * k + b + 1 ≤ 64 * k + b) := by omega
        simp [this]
      · have e1 : decide (m ≤ 64 * k + b) = true := by simp; omega
        have e2 : decide (64 * k + c + 1 ≤ 64 * k + b) = true := by simp; omega
        rw [e1, e2]; simp [e]
  · have : u &&& (u - 1) ≤ u - 1 := Nat.and_le_right
    omega
theorem go_mask (x c : Nat) (hx : x < 18446744073709551616) : bits .and .u64 (x : Int) (IntKind.u64.wrap (18446744073709551615 * 2 ^ (c % 64))) = ((x &&& (18446744073709551616 - 2 ^ (c % 64)) : Nat) : Int) := by
  have hp : 2 ^ (c % 64) < 2 ^ 64 := Nat.pow_lt_pow_right (by omega) (by omega)
  have hp0 : 0 < 2 ^ (c % 64) := Nat.two_pow_pos _
  have e : ((2 : Int) ^ (c % 64)) = ((2 ^ (c % 64) : Nat) : Int) := by simp
  have e2 : IntKind.u64.wrap (18446744073709551615 * 2 ^ (c % 64)) = ((18446744073709551616 - 2 ^ (c % 64) : Nat) : Int) := by
    rw [IntKind.wrap_u64, e]
    generalize 2 ^ (c % 64) = q at *
    omega
  rw [e2]
  exact u64_and_nat _ _ hx (by omega)
theorem go_pred (u : Nat) (hu : u < 18446744073709551616) (h0 : u ≠ 0) : bits .and .u64 (u : Int) (IntKind.u64.wrap ((u : Int) - 1)) = ((u &&& (u - 1) : Nat) : Int) := by
  rw [show IntKind.u64.wrap ((u : Int) - 1) = ((u - 1 : Nat) : Int) by rw [IntKind.wrap_u64]; omega]
  exact u64_and_nat _ _ hu (by omega)
#print axioms ctz_spec
#print axioms restU_next
end Go.Proofs.YtfpggeiphbekoaaGreatDoor

namespace Go.Proofs.YtfpggeiphbekoaaGreatDoor
open Go.RowKit Go.Shelf
set_option linter.unusedVariables false
attribute [local go_sem] Oper.semAt_some

/-- a number, as an iterator hands it on -/
def encN (k : Nat) : Array Value := #[.int .i64 (k : Int)]

set_option maxRecDepth 100000 in
set_option maxHeartbeats 1000000 in
theorem from1_iter {n l bi bs N X : Nat} {i0 : Int} {p : Option Addr} {D Bd : Nat → Prop} {J Jx : List Nat → World → Prop} {W : World} (hi0 : i0 ≤ 9223372036854775807)
    (hci : W.cell? ⟨bi, 0, none⟩ = some (.int .i64 i0)) (hzi : W.frozen? ⟨bi, 0, none⟩ = false) (hcs : W.cell? ⟨bs, 0, none⟩ = some (.pointer p)) (hP : SetP W D p N X) (hT : TabOk W)
    (hne : bi ≠ bs) (hDi : ¬ D bi) (hti : bi ≠ 0)
    (hbi : ¬ Bd bi ∧ bi ≠ l) (hbs : ¬ Bd bs ∧ bs ≠ l) (hbD : ∀ k, D k → ¬ Bd k ∧ k ≠ l) (hbT : ¬ Bd 0 ∧ 0 ≠ l)
    (hJ : Kept (fun k => k = bi) J) (hY : RoundAt (n - 1) Tryz.prog l encN (fun pre _ => pre.length ≤ 100000) Bd J Jx) (h0 : J [] W) :
    CallsIn Fence.wide n Tryz.prog 99 #[.func (.yield l) #[] #[], .pointer (some ⟨bi, 0, none⟩), .pointer (some ⟨bs, 0, none⟩)] W fun e W' => (∃ v, e = .returned v) ∧
      ((∃ xs, xs = preX i0 X N ∧ J xs W') ∨ (∃ pre, (pre <+: preX i0 X N ∧ pre ≠ []) ∧ Jx pre W')) := by
  refine callsIn_of_wp Tryz.func99 rfl trivial ?_ rfl
  simp only [Tryz.ntmps99, List.size_toArray, List.length_cons, List.length_nil, Nat.reduceAdd, Nat.reduceSub, Array.replicate_succ, Array.replicate_zero, List.push_toArray, List.append_toArray, List.nil_append, List.cons_append]
  obtain ⟨c0, hc0⟩ : ∃ c0 : Nat, (c0 : Int) = max 0 i0 := ⟨(max 0 i0).toNat, by omega⟩
  have hle := hP.le
  have hN := hle.1
  have hX := Lib.hid hle.2
  have HC0 := Lib.hid hc0
  have HY := Lib.hid hY
  have HP := Lib.hid hP
  have HT := Lib.hid hT
  have HJ := Lib.hid hJ
  have HbD := Lib.hid hbD
  have HbT := Lib.hid hbT
  have Hbi := Lib.hid hbi
  have Hbs := Lib.hid hbs
  have HDi := Lib.hid hDi
  have Hne := Lib.hid hne
  have Hti := Lib.hid hti
  have HJ0 := Lib.hid h0
  have hc0' : c0 ≤ 9223372036854775807 := by omega
  clear hY hP hT hJ hbD h0 hle hc0 hbT hbi hbs hDi hne hti
  gi_wp2
  all_goals
    gi_loopw [4, 5] (fun i _ wr => ∃ k : Nat, i = .int .i64 k ∧ k ≤ 144115188075855871 ∧ c0 / 64 ≤ k ∧ wr.cell? ⟨bi, 0, none⟩ = some (.int .i64 c0) ∧ wr.cell? ⟨bs, 0, none⟩ = some (.pointer p) ∧ SetP wr D p N X ∧ TabOk wr ∧ J (preX i0 X (64 * k)) wr)
      (fun i _ _ => 144115188075855871 - (intOf i).toNat)
    case atStart =>
      have hc := HC0.out
      refine ⟨c0 / 64, ?_, by omega, Nat.le_refl _, ?_, ?_, ?_, ?_, ?_⟩
      · congr 1; omega
      · rw [World.cell?_setCell_same _ _ _ hci]; congr 2; omega
      · rw [World.cell?_setCell_other _ _ _ _ (by intro e; have := congrArg Addr.block e; exact Hne.out this)]; exact hcs
      · exact HP.out.keep (Fx.put _ _ _ _) (by rintro j hj rfl; exact HDi.out hj)
      · exact HT.out.keep (Fx.put _ _ _ _) (fun e => Hti.out e.symm)
      · rw [preX_nil (fun j hj hh => by omega)]
        exact HJ.out _ _ _ HJ0.out (Fx.put _ _ _ _)
    case round =>
      obtain ⟨k, rfl, hk, hck, hc1, hc2, hP1, hT1, hJ1⟩ := hrel
      have HP1 := Lib.hid hP1
      have HT1 := Lib.hid hT1
      have HJ1 := Lib.hid hJ1
      clear hP1 hT1 hJ1
      by_cases hlt : 64 * k < N
      · have hb1 : c0 / 64 = k → restU i0 X k (64 * k) (wd X k &&& (18446744073709551616 - 2 ^ (c0 % 64))) := fun e => restU_mask e.symm HC0.out
        have hb2 : c0 / 64 ≠ k → restU i0 X k (64 * k) (wd X k) := fun e => restU_full (by have := HC0.out; omega)
        have HB1 := Lib.hid hb1
        have HB2 := Lib.hid hb2
        clear hb1 hb2
        gi_wp2_with fail
        refine ⟨trivial, (fun h => by cases h), (callsIn_wide.2 (size_any HP1.out)).mono ?_⟩
        rintro e w' ⟨rfl, rfl⟩
        gi_wp2_with fail
        refine ⟨trivial, (fun h => by cases h), (callsIn_wide.2 (at_any HP1.out k)).mono ?_⟩
        rintro e w' ⟨rfl, rfl⟩
        by_cases he : c0 / 64 = k
        · have hgm := go_mask (wd X k) c0 (wd_lt X k)
          have HB := Lib.hid (HB1.out he)
          have hq : ((k : Int) == (c0 : Int) / 64) = true := by rw [beq_iff_eq]; omega
          clear he
          gi_wp2
          gi_loopw [5] (fun v wq => ∃ u m : Nat, v = .int .u64 u ∧ 64 * k ≤ m ∧ m ≤ 64 * (k + 1) ∧ restU i0 X k m u ∧ wq.cell? ⟨bi, 0, none⟩ = some (.int .i64 c0) ∧ wq.cell? ⟨bs, 0, none⟩ = some (.pointer p) ∧ SetP wq D p N X ∧ TabOk wq ∧ J (preX i0 X m) wq)
            (fun v _ => (intOf v).toNat)
          case atStart => exact ⟨_, 64 * k, by rw [← hgm], Nat.le_refl _, by omega, HB.out, hc1, hc2, HP1.out, HT1.out, HJ1.out⟩
          case round =>
            clear hgm
            obtain ⟨u, m, rfl, hm1, hm2, hr, hd1, hd2, hP2, hT2, hJ2⟩ := hrel
            have HR := Lib.hid hr
            have HP2 := Lib.hid hP2
            have HT2 := Lib.hid hT2
            have HJ2 := Lib.hid hJ2
            clear hr hP2 hT2 hJ2
            by_cases h0 : u = 0
            · subst h0
              have HE := Lib.hid (restU_zero HR.out hm2 hm1)
              gi_wp2
              go_roundw
              case rel => exact ⟨k + 1, by go_num, by omega, by omega, hd1, hd2, HP2.out, HT2.out, by rw [HE.out]; exact HJ2.out⟩
              case measure => simp [intOf]; omega
            · obtain ⟨hn1, hn2, hn3, hn4, hn5, hn6⟩ := restU_next HR.out h0 hm1
              obtain ⟨fn, tmps, assign, body, hy, hRd⟩ := HY.out _ (64 * k + Lib.ctz 64 u) _ (by have := preX_length_le i0 X m; omega) HJ2.out
              have e1 : encN (64 * k + Lib.ctz 64 u) = #[.int .i64 ((k : Int) * 64 + (Lib.ctz 64 u : Int))] := by
                unfold encN; congr 3; omega
              rw [e1] at hy
              have hup : (0 : Int) < (u : Int) := by omega
              have hgp := go_pred u HR.out.1 h0
              have HN1 := Lib.hid hn1
              have HN4 := Lib.hid hn4
              have HRd := Lib.hid hRd
              have HU := Lib.hid HR.out.1
              have H0 := Lib.hid h0
              clear hn1 hn4 hRd e1 h0
              gi_wp2_with fail
              refine ⟨trivial, (fun h => by cases h), (callsIn_wide.2 (tz_any u _ HU.out H0.out HT2.out)).mono ?_⟩
              rintro e w' ⟨rfl, rfl⟩
              gi_wp2_with fail
              refine ⟨(fun h => by cases h), HRd.out.mono ?_⟩
              rintro e W3 (⟨rfl, hJ3, hk3⟩ | ⟨rfl, hJx3⟩)
              · have hd3 := hk3.cell' hd1 (by rintro (h | h); exact Hbi.out.1 h; exact Hbi.out.2 h)
                have hd4 := hk3.cell' hd2 (by rintro (h | h); exact Hbs.out.1 h; exact Hbs.out.2 h)
                have HP3 := Lib.hid (HP2.out.keep hk3 (by rintro j hj (h | h); exact (HbD.out j hj).1 h; exact (HbD.out j hj).2 h))
                have HT3 := Lib.hid (HT2.out.keep hk3 (by rintro (h | h); exact HbT.out.1 h; exact HbT.out.2 h))
                have HJ3 := Lib.hid hJ3
                clear hk3 hJ3
                gi_wp2
                go_roundw
                case rel => exact ⟨u &&& (u - 1), 64 * k + Lib.ctz 64 u + 1, by first | rfl | rw [hgp], by omega, by omega, HN4.out, hd3, hd4, HP3.out, HT3.out, by rw [HN1.out]; exact HJ3.out⟩
                case measure => simp [intOf]; omega
              · have HJx3 := Lib.hid hJx3
                clear hJx3
                gi_wp2
                refine bodyPost_ret (results_none rfl _ _ _) rfl ⟨⟨_, rfl⟩, .inr ⟨_, ⟨?_, ?_⟩, HJx3.out⟩⟩
                · rw [← HN1.out]
                  exact preX_prefix _ _ (testBit_lt hX.out hn6)
                · simp
        · have HB := Lib.hid (HB2.out he)
          have hq : ((k : Int) == (c0 : Int) / 64) = false := by rw [beq_eq_false_iff_ne]; omega
          clear he
          gi_wp2
          gi_loopw [5] (fun v wq => ∃ u m : Nat, v = .int .u64 u ∧ 64 * k ≤ m ∧ m ≤ 64 * (k + 1) ∧ restU i0 X k m u ∧ wq.cell? ⟨bi, 0, none⟩ = some (.int .i64 c0) ∧ wq.cell? ⟨bs, 0, none⟩ = some (.pointer p) ∧ SetP wq D p N X ∧ TabOk wq ∧ J (preX i0 X m) wq)
            (fun v _ => (intOf v).toNat)
          case atStart => exact ⟨_, 64 * k, rfl, Nat.le_refl _, by omega, HB.out, hc1, hc2, HP1.out, HT1.out, HJ1.out⟩
          case round =>
            obtain ⟨u, m, rfl, hm1, hm2, hr, hd1, hd2, hP2, hT2, hJ2⟩ := hrel
            have HR := Lib.hid hr
            have HP2 := Lib.hid hP2
            have HT2 := Lib.hid hT2
            have HJ2 := Lib.hid hJ2
            clear hr hP2 hT2 hJ2
            by_cases h0 : u = 0
            · subst h0
              have HE := Lib.hid (restU_zero HR.out hm2 hm1)
              gi_wp2
              go_roundw
              case rel => exact ⟨k + 1, by go_num, by omega, by omega, hd1, hd2, HP2.out, HT2.out, by rw [HE.out]; exact HJ2.out⟩
              case measure => simp [intOf]; omega
            · obtain ⟨hn1, hn2, hn3, hn4, hn5, hn6⟩ := restU_next HR.out h0 hm1
              obtain ⟨fn, tmps, assign, body, hy, hRd⟩ := HY.out _ (64 * k + Lib.ctz 64 u) _ (by have := preX_length_le i0 X m; omega) HJ2.out
              have e1 : encN (64 * k + Lib.ctz 64 u) = #[.int .i64 ((k : Int) * 64 + (Lib.ctz 64 u : Int))] := by
                unfold encN; congr 3; omega
              rw [e1] at hy
              have hup : (0 : Int) < (u : Int) := by omega
              have hgp := go_pred u HR.out.1 h0
              have HN1 := Lib.hid hn1
              have HN4 := Lib.hid hn4
              have HRd := Lib.hid hRd
              have HU := Lib.hid HR.out.1
              have H0 := Lib.hid h0
              clear hn1 hn4 hRd e1 h0
              gi_wp2_with fail
              refine ⟨trivial, (fun h => by cases h), (callsIn_wide.2 (tz_any u _ HU.out H0.out HT2.out)).mono ?_⟩
              rintro e w' ⟨rfl, rfl⟩
              gi_wp2_with fail
              refine ⟨(fun h => by cases h), HRd.out.mono ?_⟩
              rintro e W3 (⟨rfl, hJ3, hk3⟩ | ⟨rfl, hJx3⟩)
              · have hd3 := hk3.cell' hd1 (by rintro (h | h); exact Hbi.out.1 h; exact Hbi.out.2 h)
                have hd4 := hk3.cell' hd2 (by rintro (h | h); exact Hbs.out.1 h; exact Hbs.out.2 h)
                have HP3 := Lib.hid (HP2.out.keep hk3 (by rintro j hj (h | h); exact (HbD.out j hj).1 h; exact (HbD.out j hj).2 h))
                have HT3 := Lib.hid (HT2.out.keep hk3 (by rintro (h | h); exact HbT.out.1 h; exact HbT.out.2 h))
                have HJ3 := Lib.hid hJ3
                clear hk3 hJ3
                gi_wp2
                go_roundw
                case rel => exact ⟨u &&& (u - 1), 64 * k + Lib.ctz 64 u + 1, by first | rfl | rw [hgp], by omega, by omega, HN4.out, hd3, hd4, HP3.out, HT3.out, by rw [HN1.out]; exact HJ3.out⟩
                case measure => simp [intOf]; omega
              · have HJx3 := Lib.hid hJx3
                clear hJx3
                gi_wp2
                refine bodyPost_ret (results_none rfl _ _ _) rfl ⟨⟨_, rfl⟩, .inr ⟨_, ⟨?_, ?_⟩, HJx3.out⟩⟩
                · rw [← HN1.out]
                  exact preX_prefix _ _ (testBit_lt hX.out hn6)
                · simp
      · gi_wp2_with fail
        refine ⟨trivial, (fun h => by cases h), (callsIn_wide.2 (size_any HP1.out)).mono ?_⟩
        rintro e w' ⟨rfl, rfl⟩
        gi_wp2
        go_end0
        refine ⟨⟨_, rfl⟩, .inl ⟨_, rfl, ?_⟩⟩
        rw [← preX_over hX.out (show N ≤ 64 * k by omega)]
        exact HJ1.out
#print axioms from1_iter
end Go.Proofs.YtfpggeiphbekoaaGreatDoor

namespace Go.Proofs.YtfpggeiphbekoaaGreatDoor
open Go.RowKit Go.Shelf
set_option linter.unusedVariables false
attribute [local go_sem] Oper.semAt_some

theorem SetP.bound {w : World} {D : Nat → Prop} {p : Option Addr} {n X : Nat} (h : SetP w D p n X) : SetP w (fun k => D k ∧ k < w.heap.size) p n X :=
  h.imp id fun ⟨b, h1, h2⟩ => ⟨b, h1, h2.bound⟩
theorem TabOk.lt {w : World} (h : TabOk w) : 0 < w.heap.size := World.block_lt_of_cell? w _ (h 0 (by omega))

theorem from_any (p : Option Addr) (i : Int) (w : World) :
    Calls Tryz.prog 82 #[.pointer p, .int .i64 i] w fun e w' => e = .returned (.func (.func 99) #[] #[.pointer (some ⟨w.heap.size + 1, 0, none⟩), .pointer (some ⟨w.heap.size, 0, none⟩)]) ∧
      w' = (w.alloc (.cells #[.pointer p] 83)).alloc (.cells #[.int .i64 i] 3) := by
  go_enter Tryz.func82, Tryz.ntmps82
  go_wp2
  go_ret
  exact ⟨rfl, rfl⟩

/-- numbers as Go's ints -/
def natI (l : List Nat) : List Int := l.map fun k : Nat => (k : Int)
theorem natI_snoc (l : List Nat) (x : Nat) : natI (l ++ [x]) = natI l ++ [(x : Int)] := by simp [natI]
theorem natI_length (l : List Nat) : (natI l).length = l.length := by simp [natI]
theorem info_int' : (Tryz.prog.info? 3).map (fun i => (i.zero, i.size, i.bytes)) = some (some (.int .i64 0), 1, 8) := by kernel_rfl

theorem cell_one (W : World) (e : TypeId) (u : Value) : ∀ j u', [u][j]? = some u' → (W.alloc (.cells #[u] e)).cell? ((⟨W.heap.size, 0, none⟩ : Addr).add j) = some u' := by
  intro j u' hj
  cases j with
  | zero => simp at hj; subst hj; rw [Addr.add_lit]; simp
  | succ j => simp at hj

set_option maxRecDepth 100000 in
set_option maxHeartbeats 1000000 in
/-- slices.AppendSeq onto nil, of a set's iterator -/
theorem appendSeq_any {w : World} {D : Nat → Prop} {p : Option Addr} {N X bi bs : Nat} {i : Int} (hi : i ≤ 9223372036854775807) (h : SetP w D p N X) (hT : TabOk w)
    (ci : w.cell? ⟨bi, 0, none⟩ = some (.int .i64 i)) (zi : w.frozen? ⟨bi, 0, none⟩ = false) (cs : w.cell? ⟨bs, 0, none⟩ = some (.pointer p)) (hne : bi ≠ bs) (hDi : ¬ D bi) (hti : bi ≠ 0) :
    Calls Tryz.prog 98 #[.slice none 0 0, .func (.func 99) #[] #[.pointer (some ⟨bi, 0, none⟩), .pointer (some ⟨bs, 0, none⟩)]] w fun e w' =>
      ∃ v, e = .returned v ∧ Fx (fun k => k = bi) w w' ∧ w'.ownsRow w.heap.size 3 1 v (preX i X N).length (ints (natI (preX i X N))) := by
  obtain ⟨i0, hif, hz, hs, hb⟩ := info_parts info_int'
  have H := Lib.hid h.bound
  have HT := Lib.hid hT
  have hTl := hT.lt
  have hbi := World.block_lt_of_cell? w _ ci
  have hbs := World.block_lt_of_cell? w _ cs
  clear h hT
  refine (callsIn_wide (n := 6)).1 ?_
  refine callsIn_of_wp_marks Tryz.func98 rfl trivial ?_ rfl
  simp only [Tryz.ntmps98, List.size_toArray, List.length_cons, List.length_nil, Nat.reduceAdd, Nat.reduceSub, Array.replicate_succ, Array.replicate_zero, List.push_toArray, List.append_toArray, List.nil_append, List.cons_append]
  gi_wp2_with fail
  refine range_law (gf := 99) (lb := #[.pointer (some ⟨bi, 0, none⟩), .pointer (some ⟨bs, 0, none⟩)]) rfl (enters_of Tryz.func99 (by kernel_rfl) rfl)
    (fun k : Nat => #[.int .i64 (k : Int)]) (fun _ => rfl) (fun pre _ => pre.length ≤ 100000) (fun k => k = bi) (fun k => k = w.heap.size ∨ w.heap.size + 3 ≤ k) (by simp only [World.size_alloc]; omega) (by simp only [World.size_alloc]; omega) (by simp only [World.size_alloc]; omega) (by simp only [World.size_alloc]; omega)
    (fun xs => xs = preX i X N) (fun pre => pre <+: preX i X N ∧ pre ≠ [])
    (fun pre W => ∃ v, Boxed W w.heap.size 24 v ∧ W.ownsRow (w.heap.size + 3) 3 1 v pre.length (ints (natI pre)) ∧ Fx (fun k => k = bi) w W)
    (fun _ _ _ => False)
    ?kI (fun _ _ _ _ h => h.elim) ⟨_, Boxed.new _ _ _, World.ownsRow_nil _ _ _ _, (Fx.refl _ w).alloc _⟩
    (fun x => { tmps := #[.slice none 0 0, .func (.func 99) #[] #[.pointer (some ⟨bi, 0, none⟩), .pointer (some ⟨bs, 0, none⟩)], .pointer (some ⟨w.heap.size, 0, none⟩), undef, .slice none 0 0, .int .i64 x, .func (.func 99) #[] #[.pointer (some ⟨bi, 0, none⟩), .pointer (some ⟨bs, 0, none⟩)], .int .i64 x, undef, undef, undef, undef, undef], defers := [] })
    ?assign ?body ?hit ?done ?stop
  case kI =>
    rintro s A B ⟨v, h1, h2, h3⟩ hf
    refine ⟨v, hf.at_ h1 (by simp; omega), ownsRow_fx h2 hf (fun k hk => ?_), h3.trans' hf ?_⟩
    · have := (World.ownsRow.lt h2 k hk).1
      simp; omega
    · rintro j (rfl | rfl) hj
      · rfl
      · simp at hj; omega
  case assign =>
    intro x W K hK
    gi_wp2
    exact hK
  case body =>
    rintro pre x W hG ⟨v, h1, h2, h3⟩ hsz
    have hv := h1.cell
    have hvf := h1.frozen
    simp only [World.size_alloc] at hsz
    have HO := Lib.hid h2
    have HF := Lib.hid h3
    have HB := Lib.hid h1
    clear h1 h2 h3
    gi_wp2_with (gi_at_builtin; refine wpListIn_append_own _ rfl _ _ 24 rfl (w.heap.size + 3) 3 i0 _ 1 8 Tryz.underlying24 hif hz hs hb rfl (by decide) _ _ _ rfl (World.ownsRow.alloc HO.out _) ⟨W.heap.size, 0, none⟩ 1 1 [.int .i64 (x : Int)] rfl rfl (cell_one _ _ _) (by simp [Value.oneCell']) (by unfold maxLen; omega) (by omega) (by simp; omega) ?_)
    intro v1 w1 hown1 hg1 _
    obtain ⟨g, gcap, rfl⟩ := ownsRow_succ hown1
    have hf1 : Fx (fun k => v.ownBlock = some k) (W.alloc (.cells #[.int .i64 (x : Int)] 3)) w1 := Fx.ofGrown hg1 fun k hk _ => hk
    have hnb : v.ownBlock ≠ some w.heap.size := fun e => by have := (World.ownsRow.lt HO.out _ e).1; omega
    have hb1 := hf1.at_ (HB.out.alloc (.cells #[.int .i64 (x : Int)] 3)) hnb
    have hb2 : Boxed w1 w.heap.size 24 v := hb1
    have hv2 := hb2.cell
    have hvf2 := hb2.frozen
    have HO1 := Lib.hid hown1
    have HF1 := Lib.hid hf1
    have HB1 := Lib.hid hb2
    have hs1 := hf1.size
    simp only [World.size_alloc] at hs1
    clear hown1 hg1 hf1 hb1 hb2 hnb hv hvf
    gi_wp2
    refine ⟨?_, _, HB1.out.set _, ?_, ?_⟩
    · exact ((((Fx.refl _ W).alloc _).trans' HF1.out (by rintro j hj _; exact .inr (World.ownsRow.lt HO.out _ hj).1)).setCell (.inr (.inl rfl)) _)
    · have := ownsRow_setCell_below (a := ⟨w.heap.size, 0, none⟩) HO1.out (by simp) (.slice (some ⟨g, 0, none⟩) (pre.length + 1) gcap)
      simpa [natI, ints] using this
    · exact (HF.out.trans' (((Fx.refl No W).alloc _)) (by rintro j hj; exact hj.elim)).trans' (T := fun k => w.heap.size ≤ k) ((HF1.out.mono (by rintro j _ hj; have := (World.ownsRow.lt HO.out _ hj).1; simp; omega)).setCell (.inr (by simp)) _) (by rintro j hj hlt; have : w.heap.size ≤ j := hj; omega)
  case hit =>
    intro W J Jx hf hsz hJ hJx hR hJ0
    have hf' := ((Fx.refl No w).alloc (.cells #[.slice none 0 0] 24)).trans hf
    simp only [World.size_alloc] at hR ⊢
    refine from1_iter (Bd := fun k => k = w.heap.size ∨ w.heap.size + 3 ≤ k) hi (hf'.cell' ci (fun h => h)) (hf'.cellF ci zi (fun h => h)).2 (hf'.cell' cs (fun h => h)) (H.out.keep hf' No.disj) (HT.out.keep hf' (fun h => h))
      hne (fun h => hDi h.1) hti ⟨by omega, by omega⟩ ⟨by omega, by omega⟩ (by rintro k ⟨_, hk⟩; exact ⟨by omega, by omega⟩) ⟨by omega, by omega⟩ hJ hR hJ0
  case done =>
    rintro xs W rfl ⟨v, h1, h2, h3⟩ hK
    have hv := h1.cell
    have HO := Lib.hid h2
    have HF := Lib.hid h3
    have hlt := h1.lt
    clear h1 h2 h3
    simp only [World.size_alloc] at hK
    gi_wp2
    refine ⟨by simp, .inl ⟨_, _, rfl, run_takeDeferred (by simpa using hK), ?_⟩⟩
    refine ⟨v, by simp [results, Tryz.results98, go_sem], _, rfl, ?_, ?_⟩
    · refine HF.out.trans' (Fx.putObj (S := fun k => k = w.heap.size + 1) W _ _ (by simp)) ?_
      rintro j rfl hj; omega
    · refine ownsRow_base (ownsRow_fx HO.out (Fx.putObj (S := fun k => k = w.heap.size + 1) W _ _ (by simp)) ?_) (by omega)
      intro k hk
      have := (World.ownsRow.lt HO.out k hk).1
      simp; omega
  case stop =>
    rintro c pre W _ h _
    exact h.elim
#print axioms appendSeq_any
end Go.Proofs.YtfpggeiphbekoaaGreatDoor

namespace Go.Proofs.YtfpggeiphbekoaaGreatDoor
open Go.RowKit Go.Shelf
set_option linter.unusedVariables false

theorem collect_any {w : World} {D : Nat → Prop} {p : Option Addr} {N X bi bs : Nat} {i : Int} (hi : i ≤ 9223372036854775807) (h : SetP w D p N X) (hT : TabOk w)
    (ci : w.cell? ⟨bi, 0, none⟩ = some (.int .i64 i)) (zi : w.frozen? ⟨bi, 0, none⟩ = false) (cs : w.cell? ⟨bs, 0, none⟩ = some (.pointer p)) (hne : bi ≠ bs) (hDi : ¬ D bi) (hti : bi ≠ 0) :
    Calls Tryz.prog 81 #[.func (.func 99) #[] #[.pointer (some ⟨bi, 0, none⟩), .pointer (some ⟨bs, 0, none⟩)]] w fun e w' =>
      ∃ v, e = .returned v ∧ Fx (fun k => k = bi) w w' ∧ w'.ownsRow w.heap.size 3 1 v (preX i X N).length (ints (natI (preX i X N))) := by
  have HA := Lib.hid (appendSeq_any hi h hT ci zi cs hne hDi hti)
  clear h hT ci zi cs hne hDi hti hi
  go_enter Tryz.func81, Tryz.ntmps81
  go_wp2_with fail
  refine HA.out.mono ?_
  rintro e w1 ⟨v, rfl, hf, ho⟩
  have HF := Lib.hid hf
  have HO := Lib.hid ho
  clear hf ho
  go_wp2
  go_ret
  exact ⟨v, rfl, HF.out, HO.out⟩

/-- A row of ints of the call's own. -/
def OwnI (w : World) (base : Nat) (v : Value) (l : List Int) : Prop := w.ownsRow base 3 1 v l.length (ints l)
theorem OwnI.ints {w : World} {base : Nat} {v : Value} {l : List Int} (h : OwnI w base v l) : IntsV w (Iv base w.heap.size) v l := SlV.ofOwns h

theorem all_any {w : World} {D : Nat → Prop} {p : Option Addr} {N X : Nat} (h : SetP w D p N X) (hT : TabOk w) :
    Calls Tryz.prog 59 #[.pointer p] w fun e w' => ∃ v, e = .returned v ∧ Fx No w w' ∧ OwnI w' w.heap.size v (allX N X) := by
  have H := Lib.hid h.bound
  have HT := Lib.hid hT
  have hl := hT.lt
  clear h hT
  go_enter Tryz.func59, Tryz.ntmps59
  go_wp2_with fail
  refine (from_any p 0 w).mono ?_
  rintro e w' ⟨rfl, rfl⟩
  have hf := ((Fx.refl No w).alloc (.cells #[.pointer p] 83)).alloc (.cells #[.int .i64 0] 3)
  obtain ⟨w2, hw2⟩ : ∃ w2, (w.alloc (.cells #[.pointer p] 83)).alloc (.cells #[.int .i64 0] 3) = w2 := ⟨_, rfl⟩
  have c1 : w2.cell? ⟨w.heap.size, 0, none⟩ = some (.pointer p) := by rw [← hw2]; clear hw2 hf; go_simp
  have c2 : w2.cell? ⟨w.heap.size + 1, 0, none⟩ = some (.int .i64 0) ∧ w2.frozen? ⟨w.heap.size + 1, 0, none⟩ = false := by rw [← hw2]; clear hw2 hf; constructor <;> go_simp
  have hs : w2.heap.size = w.heap.size + 2 := by rw [← hw2]; simp
  rw [hw2] at hf ⊢
  have HC := Lib.hid (collect_any (by omega) (H.out.no' hf) (HT.out.keep hf (fun h => h)) c2.1 c2.2 c1 (by omega) (by rintro ⟨_, h⟩; omega) (by omega))
  have HF := Lib.hid hf
  clear hf c1 c2 hw2
  go_wp2_with fail
  refine HC.out.mono ?_
  rintro e w3 ⟨v, rfl, hf, ho⟩
  have HF2 := Lib.hid hf
  have HO := Lib.hid ho
  clear hf ho
  go_wp2
  go_ret
  refine ⟨v, rfl, HF.out.trans' HF2.out (by rintro j rfl hj; omega), ?_⟩
  have h1 := ownsRow_base (base' := w.heap.size) HO.out (by omega)
  unfold OwnI
  rw [← preX_zero_int, List.length_map]
  exact h1
#print axioms all_any
end Go.Proofs.YtfpggeiphbekoaaGreatDoor

namespace Go.Proofs.YtfpggeiphbekoaaGreatDoor
open Go.RowKit
set_option linter.unusedVariables false

theorem joinNil_any (w : World) (v : Value) : Calls Tryz.prog 43 #[.pointer none, v] w fun e w' => e = .returned (.int .i64 0) ∧ w = w' := by
  go_enter Tryz.func43, Tryz.ntmps43
  go_wp2_with fail
  refine (doesNil_any _ _ _).mono ?_
  rintro e w' ⟨rfl, rfl⟩
  go_wp2
  go_ret
  exact ⟨rfl, rfl⟩
theorem join_any {w : World} {D E : Nat → Prop} {v : Value} {b n X : Nat} {L : List (Option Addr × Nat)} (h : SetIn w D b n X) (hv : SlV w E v 1 L.length (ptrs L)) (hL : ∀ q ∈ L, itemOk w E b 0 X q)
    (hDE : ∀ k, E k → ¬ D k) (hlen : L.length ≤ 100000) :
    Calls Tryz.prog 43 #[.pointer (some ⟨b, 0, none⟩), v] w fun e w' =>
      e = .returned (.int .i64 (turnN n X (rawX 0 X (L.map (·.2)) % 2 ^ n))) ∧ Fx D w w' ∧ SetIn w' D b n (rawX 0 X (L.map (·.2)) % 2 ^ n) := by
  have H := Lib.hid (does_any 0 (by omega) h hv hL hDE hlen)
  clear h hv hL hDE
  go_enter Tryz.func43, Tryz.ntmps43
  go_wp2_with fail
  refine H.out.mono ?_
  rintro e w' ⟨rfl, hf, hs⟩
  go_wp2
  go_ret
  exact ⟨rfl, hf, hs⟩
/-- a literal slice of integers -/
theorem ints_lit (w : World) (l : List Int) (h : l.length ≤ maxLen) :
    IntsV (w.alloc (.cells (ints l).toArray 3)) (Iv w.heap.size (w.heap.size + 1)) (.slice (some ⟨w.heap.size, 0, none⟩) l.length l.length) l := by
  have h1 := SlV.bound (SlV.lit w 3 (ints l).toArray 1 l.length (by simp [ints]) h)
  obtain ⟨ao, cap, e1, e2, e3, e4, e5, e6⟩ := SlV.lit w 3 (ints l).toArray 1 l.length (by simp [ints]) h
  simp only [Value.slice.injEq] at e1
  obtain ⟨rfl, _, rfl⟩ := e1
  refine ⟨_, _, rfl, e2, e3, by simp [ints], e5, .inr ⟨w.heap.size, 0, rfl, ⟨Nat.le_refl _, Nat.lt_succ_self _⟩, fun i hi => ?_⟩⟩
  have hi' : i < l.length := by simpa [ints] using hi
  simp [ints, hi']
#print axioms join_any
end Go.Proofs.YtfpggeiphbekoaaGreatDoor
