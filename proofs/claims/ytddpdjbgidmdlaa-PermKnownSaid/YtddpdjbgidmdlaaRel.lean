/- Contract: perm.related. -/
import Derived.Test.YtddpdjbgidmdlaaWalkB
import Derived.Test.YtddpdjbgidmdlaaMay
import Derived.Test.YtddpdjbgidmdlaaRegG
namespace Go.Proofs.Ytddpdjbgidmdlaa
open Go.RowKit
set_option linter.unusedVariables false

/-- the world under a name, with what is known of it -/
theorem wp_hold {P : Program} {c : Code} {Q : Exit → Act → World → Prop} {a : Act} {W : World} (R : World → Prop) (hR : R W) (h : ∀ W', R W' → c.wp P Q a W') : c.wp P Q a W := h W hR
theorem info_ints : (Try.prog.info? 29).map (fun i => (i.zero, i.size, i.bytes)) = some (some (.slice none 0 0), 1, 24) := by kernel_rfl
def zeroRows (k : Nat) : Array Value := Array.replicate k (.slice none 0 0)
theorem makeRows {E : Int} {k : Nat} (h0 : 0 ≤ E) (h1 : E ≤ 1000000) (hk : E.toNat = k) (w : World) :
    (Instr.makeSlice 48 (.int .i64 E) (.int .i64 E)).run Try.prog w = .ok (.slice (some ⟨w.heap.size, 0, none⟩) k k) (w.alloc (.cells (zeroRows k) 29)) := by
  obtain ⟨i, hi, hz, hs, hb⟩ := info_parts info_ints
  have := run_make (P := Try.prog) w 48 29 i _ Try.underlying48 hi hz .i64 .i64 E E h0 (Int.le_refl _) (by rw [hb]; omega) (by omega)
  rw [this, hk, hs]
  have e : madeCells (Value.slice none 0 0).cells (k * 1) = zeroRows k := by
    apply Array.ext'
    rw [show (Value.slice none 0 0).cells = #[.slice none 0 0] from rfl, toList_madeCells_one]
    simp [zeroRows]
  rw [e]
/-- the relation, of the first pairs -/
structure RelP (w0 w : World) (n r bB aB : Nat) (V : Nat → Value) (ps : List (Int × Int)) (A : Nat → Int) : Prop where
  fx : Fx No w0 w
  r0 : w.cell? ⟨r, 0, none⟩ = some (.int .i64 (n : Int))
  r1 : w.cell? ⟨r, 1, none⟩ = some (.slice (some ⟨bB, 0, none⟩) n n)
  r2 : w.cell? ⟨r, 2, none⟩ = some (.slice (some ⟨aB, 0, none⟩) n n)
  bh : ∀ i, i < n → w.cell? ⟨bB, i, none⟩ = some (V i) ∧ w.frozen? ⟨bB, i, none⟩ = false ∧ OwnI w w0.heap.size (V i) (bhL ps (i : Int))
  sep : ∀ i g, i < n → (V i).ownBlock = some g → g ≠ r ∧ g ≠ bB ∧ g ≠ aB ∧ ∀ j, j < n → j ≠ i → (V j).ownBlock ≠ some g
  ah : CellsF w aB n A
  ne1 : r ≠ bB
  ne2 : r ≠ aB
  ne3 : bB ≠ aB
  lo : w0.heap.size ≤ r ∧ w0.heap.size ≤ bB ∧ w0.heap.size ≤ aB
  hi : r < w.heap.size ∧ bB < w.heap.size ∧ aB < w.heap.size
theorem RelP.no {w0 w w' : World} {n r bB aB : Nat} {V : Nat → Value} {ps : List (Int × Int)} {A : Nat → Int} (h : RelP w0 w n r bB aB V ps A) (hf : Fx No w w') : RelP w0 w' n r bB aB V ps A := by
  have hz := hf.size
  exact ⟨h.fx.trans hf, hf.cell' h.r0 (fun h => h), hf.cell' h.r1 (fun h => h), hf.cell' h.r2 (fun h => h), fun i hi => ⟨hf.cell' (h.bh i hi).1 (fun h => h), (hf.cellF (h.bh i hi).1 (h.bh i hi).2.1 (fun h => h)).2, OwnI.fx (h.bh i hi).2.2 hf (fun _ _ h => h)⟩,
    h.sep, h.ah.fx hf (fun h => h), h.ne1, h.ne2, h.ne3, h.lo, ⟨Nat.lt_of_lt_of_le h.hi.1 hz, Nat.lt_of_lt_of_le h.hi.2.1 hz, Nat.lt_of_lt_of_le h.hi.2.2 hz⟩⟩
theorem relP_start {w0 w : World} {n r bB aB : Nat} (h0 : Fx No w0 w) (hb : w.heap[bB]? = some (.cells (zeroRows n) 29 (0, 0))) (ha : w.heap[aB]? = some (.cells (zeroInts n) 3 (0, 0)))
    (hr : w.heap[r]? = some (.cells #[.int .i64 (n : Int), .slice (some ⟨bB, 0, none⟩) n n, .slice (some ⟨aB, 0, none⟩) n n] 66 (0, 0)))
    (n1 : r ≠ bB) (n2 : r ≠ aB) (n3 : bB ≠ aB) (lo : w0.heap.size ≤ r ∧ w0.heap.size ≤ bB ∧ w0.heap.size ≤ aB) (hi : r < w.heap.size ∧ bB < w.heap.size ∧ aB < w.heap.size) : RelP w0 w n r bB aB (fun _ => .slice none 0 0) [] (fun _ => 0) := by
  refine ⟨h0, ?_, ?_, ?_, fun i hi => ⟨?_, ?_, OwnI.nil _ _⟩, fun i g _ e => by simp [Value.ownBlock] at e, fun j hj => ⟨?_, ?_⟩, n1, n2, n3, lo, hi⟩
  · rw [cell_of_row _ _ _ _ _ _ hr]; rfl
  · rw [cell_of_row _ _ _ _ _ _ hr]; rfl
  · rw [cell_of_row _ _ _ _ _ _ hr]; rfl
  · rw [cell_of_row _ _ _ _ _ _ hb]; simp [zeroRows, hi]
  · exact frozen_of_row _ _ _ _ _ hb
  · rw [cell_of_row _ _ _ _ _ _ ha]; simp [zeroInts, hj]
  · exact frozen_of_row _ _ _ _ _ ha
theorem take_gp {ps : List (Int × Int)} {k : Nat} (h : k < ps.length) : ps.take (k + 1) = ps.take k ++ [gp ps k] := by
  rw [List.take_succ_eq_append_getElem h]; simp [gp, h]
theorem bhL_snoc (ps : List (Int × Int)) (x y i : Int) : bhL (ps ++ [(x, y)]) i = bhL ps i ++ if x = i then [y] else [] := by
  unfold bhL
  rw [List.filter_append, List.map_append]
  congr 1
  by_cases e : x = i
  · simp [e]
  · have : (x == i) = false := by simpa using e
    simp [List.filter_cons, this, e]
theorem ahN_psnoc (ps : List (Int × Int)) (x y k : Int) : ahN (ps ++ [(x, y)]) [] k = ahN ps [] k + if y = k then 1 else 0 := by
  unfold ahN
  rw [List.countP_append]
  congr 1
  by_cases e : y = k
  · simp [e]
  · have : (y == k) = false := by simpa using e
    simp [this, e]
/-- behind an append to a row -/
theorem RelP.app {w0 w W w2 : World} {n r bB aB x : Nat} {y : Int} {V : Nat → Value} {ps : List (Int × Int)} {A : Nat → Int} {v' : Value} (h : RelP w0 w n r bB aB V ps A) (hx : x < n) (hW : Fx No w W)
    (ho : w2.ownsRow w0.heap.size 3 1 v' ((bhL ps (x : Int)).length + 1) (ints (bhL ps (x : Int)) ++ ints [y])) (hfx : Fx (fun b => (V x).ownBlock = some b) W w2) (hb : ∀ g, v'.ownBlock = some g → (V x).ownBlock = some g ∨ W.heap.size ≤ g) :
    RelP w0 (w2.setCell ⟨bB, x, none⟩ v') n r bB aB (fun i => if i = x then v' else V i) (ps ++ [((x : Int), y)]) A := by
  have g := h.no hW
  obtain ⟨l1, l2, l3⟩ := h.lo
  obtain ⟨u1, u2, u3⟩ := h.hi
  have hzW := hW.size
  have sp := h.sep x
  have nr : ¬ (V x).ownBlock = some r := fun e => (sp r hx e).1 rfl
  have nb : ¬ (V x).ownBlock = some bB := fun e => (sp bB hx e).2.1 rfl
  have na : ¬ (V x).ownBlock = some aB := fun e => (sp aB hx e).2.2.1 rfl
  have vlt : ∀ i g, i < n → (V i).ownBlock = some g → g < w.heap.size := fun i g hi e => (OwnI.lt (h.bh i hi).2.2 e).2
  have vge : ∀ i g, i < n → (V i).ownBlock = some g → w0.heap.size ≤ g := fun i g hi e => (OwnI.lt (h.bh i hi).2.2 e).1
  have f3 : Fx (fun b => b = bB) w2 (w2.setCell ⟨bB, x, none⟩ v') := Fx.put _ _ _ _
  have fAll : Fx No w0 (w2.setCell ⟨bB, x, none⟩ v') := ((g.fx.trans' hfx fun j e hl => by have := vge x j hx e; omega).trans' f3 fun j e hl => by omega)
  have hz : w.heap.size ≤ (w2.setCell ⟨bB, x, none⟩ v').heap.size := Nat.le_trans hzW (Nat.le_trans hfx.size f3.size)
  have vsep : ∀ b, v'.ownBlock = some b → b ≠ r ∧ b ≠ bB ∧ b ≠ aB ∧ ∀ j, j < n → j ≠ x → (V j).ownBlock ≠ some b := fun b e => by
    rcases hb b e with e | e
    · exact sp b hx e
    · refine ⟨by omega, by omega, by omega, fun j hj _ e2 => ?_⟩
      have := vlt j b hj e2; omega
  refine ⟨fAll, ?_, ?_, ?_, fun i hi => ?_, fun i b hi e => ?_, ?_, h.ne1, h.ne2, h.ne3, h.lo, ⟨by omega, by omega, by omega⟩⟩
  · rw [cell_other_block (fun e => h.ne1 e.symm)]; exact hfx.cell' g.r0 nr
  · rw [cell_other_block (fun e => h.ne1 e.symm)]; exact hfx.cell' g.r1 nr
  · rw [cell_other_block (fun e => h.ne1 e.symm)]; exact hfx.cell' g.r2 nr
  · obtain ⟨b1, b2, b3⟩ := g.bh i hi
    obtain ⟨q1, q2⟩ := hfx.cellF b1 b2 nb
    by_cases e : i = x
    · subst e
      refine ⟨by simp only [↓reduceIte]; exact World.cell?_setCell_same _ _ _ q1, by simpa using q2, ?_⟩
      simp only [↓reduceIte]
      have ho' : OwnI w2 w0.heap.size v' (bhL (ps ++ [((i : Int), y)]) (i : Int)) := by
        rw [bhL_snoc, if_pos rfl]
        unfold OwnI
        rw [List.length_append]
        simpa [ints] using ho
      exact OwnI.fx ho' f3 fun b hb' e => (vsep b hb').2.1 e
    · refine ⟨by rw [if_neg e, cell_other_off (fun e2 => e e2.symm)]; exact q1, by simpa using q2, ?_⟩
      rw [if_neg e, bhL_snoc, if_neg (by omega), List.append_nil]
      have h1 : OwnI w2 w0.heap.size (V i) (bhL ps (i : Int)) := OwnI.fx b3 hfx fun b hb' e2 => (sp b hx e2).2.2.2 i hi e hb'
      exact OwnI.fx h1 f3 fun b hb' e2 => (h.sep i b hi hb').2.1 e2
  · by_cases e2 : i = x
    · subst e2
      simp only [↓reduceIte] at e
      refine ⟨(vsep b e).1, (vsep b e).2.1, (vsep b e).2.2.1, fun j hj hji => ?_⟩
      rw [if_neg hji]
      exact (vsep b e).2.2.2 j hj hji
    · rw [if_neg e2] at e
      have hs := h.sep i b hi e
      refine ⟨hs.1, hs.2.1, hs.2.2.1, fun j hj hji => ?_⟩
      by_cases e3 : j = x
      · subst e3
        simp only [↓reduceIte]
        intro e4
        exact (vsep b e4).2.2.2 i hi e2 e
      · rw [if_neg e3]; exact hs.2.2.2 j hj hji
  · exact ((g.ah).fx hfx na).fx f3 (fun e => h.ne3 e.symm)
/-- behind a count -/
theorem RelP.inc {w0 w : World} {n r bB aB y : Nat} {V : Nat → Value} {ps : List (Int × Int)} {A : Nat → Int} (h : RelP w0 w n r bB aB V ps A) (hy : y < n) (a : Int) : RelP w0 (w.setCell ⟨aB, y, none⟩ (.int .i64 a)) n r bB aB V ps (fun j => if j = y then a else A j) := by
  have f : Fx (fun b => b = aB) w (w.setCell ⟨aB, y, none⟩ (.int .i64 a)) := Fx.put _ _ _ _
  have hz := f.size
  obtain ⟨l1, l2, l3⟩ := h.lo
  obtain ⟨u1, u2, u3⟩ := h.hi
  exact ⟨h.fx.trans' f fun j e hl => by omega, f.cell' h.r0 h.ne2, f.cell' h.r1 h.ne2, f.cell' h.r2 h.ne2, fun i hi => ⟨f.cell' (h.bh i hi).1 h.ne3, (f.cellF (h.bh i hi).1 (h.bh i hi).2.1 h.ne3).2, OwnI.fx (h.bh i hi).2.2 f fun b hb e => (h.sep i b hi hb).2.2.1 e⟩,
    h.sep, h.ah.set hy a, h.ne1, h.ne2, h.ne3, h.lo, ⟨by omega, by omega, by omega⟩⟩
theorem RelP.congr {w0 w : World} {n r bB aB : Nat} {V : Nat → Value} {ps : List (Int × Int)} {A B : Nat → Int} (h : RelP w0 w n r bB aB V ps A) (e : ∀ j, j < n → A j = B j) : RelP w0 w n r bB aB V ps B :=
  ⟨h.fx, h.r0, h.r1, h.r2, h.bh, h.sep, h.ah.congr e, h.ne1, h.ne2, h.ne3, h.lo, h.hi⟩
theorem heaps3 (w : World) (a b c : Obj) : (((w.alloc a).alloc b).alloc c).heap[w.heap.size]? = some a ∧ (((w.alloc a).alloc b).alloc c).heap[w.heap.size + 1]? = some b ∧ (((w.alloc a).alloc b).alloc c).heap[w.heap.size + 2]? = some c := by
  have ea := heap_alloc_new w a
  have eb := heap_alloc_new (w.alloc a) b
  have ec := heap_alloc_new ((w.alloc a).alloc b) c
  simp only [World.size_alloc] at eb ec
  refine ⟨?_, ?_, ec⟩
  · rw [Below.heap_alloc _ _ _ (by simp; omega), Below.heap_alloc _ _ _ (by simp)]; exact ea
  · rw [Below.heap_alloc _ _ _ (by simp)]; exact eb
theorem relP_order1 {w0 w : World} (h : Fx No w0 w) (n : Nat) : RelP w0 (((w.alloc (.cells (zeroRows n) 29)).alloc (.cells (zeroInts n) 3)).alloc (.cells #[.int .i64 (n : Int), .slice (some ⟨w.heap.size, 0, none⟩) n n, .slice (some ⟨w.heap.size + 1, 0, none⟩) n n] 66)).drew n (w.heap.size + 2) w.heap.size (w.heap.size + 1) (fun _ => .slice none 0 0) [] (fun _ => 0) := by
  obtain ⟨e1, e2, e3⟩ := heaps3 w (.cells (zeroRows n) 29) (.cells (zeroInts n) 3) (.cells #[.int .i64 (n : Int), .slice (some ⟨w.heap.size, 0, none⟩) n n, .slice (some ⟨w.heap.size + 1, 0, none⟩) n n] 66)
  have hz := h.size
  refine relP_start (((h.alloc _).alloc _).alloc _).drew e1 e2 e3 (by omega) (by omega) (by omega) (by omega) ?_
  show _ < (((w.alloc _).alloc _).alloc _).heap.size ∧ _ < (((w.alloc _).alloc _).alloc _).heap.size ∧ _ < (((w.alloc _).alloc _).alloc _).heap.size
  simp only [World.size_alloc]; omega
theorem relP_order2 {w0 w : World} (h : Fx No w0 w) (n : Nat) : RelP w0 (((w.alloc (.cells (zeroInts n) 3)).alloc (.cells (zeroRows n) 29)).alloc (.cells #[.int .i64 (n : Int), .slice (some ⟨w.heap.size + 1, 0, none⟩) n n, .slice (some ⟨w.heap.size, 0, none⟩) n n] 66)).drew n (w.heap.size + 2) (w.heap.size + 1) w.heap.size (fun _ => .slice none 0 0) [] (fun _ => 0) := by
  obtain ⟨e1, e2, e3⟩ := heaps3 w (.cells (zeroInts n) 3) (.cells (zeroRows n) 29) (.cells #[.int .i64 (n : Int), .slice (some ⟨w.heap.size + 1, 0, none⟩) n n, .slice (some ⟨w.heap.size, 0, none⟩) n n] 66)
  have hz := h.size
  refine relP_start (((h.alloc _).alloc _).alloc _).drew e2 e1 e3 (by omega) (by omega) (by omega) (by omega) ?_
  show _ < (((w.alloc _).alloc _).alloc _).heap.size ∧ _ < (((w.alloc _).alloc _).alloc _).heap.size ∧ _ < (((w.alloc _).alloc _).alloc _).heap.size
  simp only [World.size_alloc]; omega
def RelatedR (n : Int) (ps : List (Int × Int)) (w : World) (e : Ending) (w' : World) : Prop :=
  (mayE n ps ≠ 0 ∧ e = .returned (.tuple #[.pointer none, .int .i64 (mayE n ps)]) ∧ Fx No w w') ∨
  (mayE n ps = 0 ∧ ∃ r bB aB V, e = .returned (.tuple #[.pointer (some ⟨r, 0, none⟩), .int .i64 0]) ∧ RelP w w' n.toNat r bB aB V ps (fun j => ((ahN ps [] (j : Int) : Nat) : Int)))
set_option maxHeartbeats 1000000 in
theorem related_any {w : World} {D : Nat → Prop} {v : Value} {ps : List (Int × Int)} (h : PairsV w D v ps) (n : Int) (hps : ps.length ≤ 100000) :
    Calls Try.prog 32 #[.int .i64 n, v] w (RelatedR n ps w) := by
  obtain ⟨ii, hif, hz, hs, hb⟩ := info_parts info_int
  obtain ⟨uo, ucap, rfl, hul, hc⟩ := h.facts
  have HC := Lib.hid hc
  obtain ⟨ul, hulen⟩ : ∃ k, k = ps.length := ⟨_, rfl⟩
  rw [← hulen] at hul hps ⊢
  have HUl := Lib.hid hulen
  clear h hc hulen
  by_cases hn : n < 0
  · have HE : Hid (mayE n ps = 2) := mayE_neg hn
    go_enter Try.func32, Try.ntmps32
    go_wp2
    go_ret2
    exact .inl ⟨by rw [HE.out]; omega, by rw [HE.out]; rfl, Fx.refl _ _⟩
  · have hd : decide (n < 0) = false := decide_eq_false hn
    have HN : Hid (0 ≤ n) := by show 0 ≤ n; omega
    have hn0 : 0 ≤ n := by omega
    clear hn
    go_enter Try.func32, Try.ntmps32
    go_wp2
    go_loopw [7, 15] (fun _ i wr => ∃ k : Nat, i = .int .i64 k ∧ k ≤ ul ∧ Fx No w wr ∧ ∀ j, j < k → pOk n (gp ps j) = true) (fun _ i _ => ul - (intOf i).toNat)
    case atStart => exact ⟨0, rfl, Nat.zero_le _, Fx.refl _ _, fun j hj => by omega⟩
    case round =>
      obtain ⟨k, rfl, hk, hf, hq⟩ := hrel
      have HF := Lib.hid hf
      have HQ := Lib.hid hq
      clear hf hq
      by_cases hlt : k < ul
      · obtain ⟨b, o, rfl, _, c1, c2⟩ := HC.out k (by rw [← HUl.out]; exact hlt)
        have hkp : Hid (k < ps.length) := by rw [← HUl.out]; exact hlt
        have c1 := HF.out.cell' c1 (fun h => h)
        have c2 := HF.out.cell' c2 (fun h => h)
        obtain ⟨x, hx⟩ : ∃ x, x = (gp ps k).1 := ⟨_, rfl⟩
        obtain ⟨y, hy⟩ : ∃ x, x = (gp ps k).2 := ⟨_, rfl⟩
        rw [← hx] at c1
        rw [← hy] at c2
        have HGp : Hid (gp ps k = (x, y)) := by rw [hx, hy]; exact Lib.hid rfl
        clear hx hy
        obtain ⟨lo, hlo⟩ : ∃ l, (if y < x then y else x) = l := ⟨_, rfl⟩
        obtain ⟨hi_, hhi⟩ : ∃ l, (if x < y then y else x) = l := ⟨_, rfl⟩
        have hbad : pOk n (x, y) = false ↔ lo < 0 ∨ n ≤ hi_ := by
          rw [pOk_ways, ← hlo, ← hhi]
          constructor
          · intro h
            split <;> split <;> omega
          · intro h
            split at h <;> split at h <;> omega
        rcases hp : pOk n (x, y) with _ | _
        · have HB : Hid (mayE n ps = 2) := mayE_bad HN.out hkp.out (by rw [HGp.out]; exact hp)
          have hp' := hbad.1 hp
          clear hbad hp
          by_cases h1 : lo < 0
          · have d1 : decide (lo < 0) = true := decide_eq_true h1
            clear hp'
            go_wp2
            go_ret2
            exact .inl ⟨by rw [HB.out]; omega, by rw [HB.out]; rfl, HF.out.alloc _⟩
          · have d1 : decide (lo < 0) = false := decide_eq_false h1
            have h2 : n ≤ hi_ := by omega
            have d2 : decide (n ≤ hi_) = true := decide_eq_true h2
            clear hp' h1
            go_wp2
            go_ret2
            exact .inl ⟨by rw [HB.out]; omega, by rw [HB.out]; rfl, HF.out.alloc _⟩
        · have HP : Hid (pOk n (gp ps k) = true) := by rw [HGp.out]; exact hp
          have hp' : ¬ (lo < 0 ∨ n ≤ hi_) := fun h => by rw [← hbad, hp] at h; simp at h
          have d1 : decide (lo < 0) = false := decide_eq_false (by omega)
          have d2 : decide (n ≤ hi_) = false := decide_eq_false (by omega)
          clear hbad hp hp'
          go_wp2
          go_roundw
          case rel => exact ⟨k + 1, by go_num, by omega, HF.out.alloc _, fun j hj => by
            by_cases e : j = k
            · subst e; exact HP.out
            · exact HQ.out j (by omega)⟩
          case measure => simp [intOf]; omega
      · obtain rfl : k = ul := by omega
        have hE : mayE n ps = if 4096 < n then 3 else 0 := mayE_ok HN.out fun j hj => HQ.out j (by rw [HUl.out]; exact hj)
        by_cases h4 : 4096 < n
        · have d4 : decide (4096 < n) = true := decide_eq_true h4
          have HE2 : Hid (mayE n ps = 3) := by rw [hE]; exact Lib.hid (if_pos h4)
          clear hE
          go_wp2
          go_ret2
          exact .inl ⟨by rw [HE2.out]; omega, by rw [HE2.out]; rfl, HF.out⟩
        · have d4 : decide (4096 < n) = false := decide_eq_false h4
          have HE2 : Hid (mayE n ps = 0) := by rw [hE]; exact Lib.hid (if_neg h4)
          obtain ⟨N, rfl⟩ := Int.eq_ofNat_of_zero_le hn0
          have hN : N ≤ 4096 := by omega
          have hm1 := makeRows (E := (N : Int)) (k := N) (by omega) (by omega) (by omega)
          have hm2 := makeInts (E := (N : Int)) (k := N) (by omega) (by omega) (by omega)
          have HOk : Hid (PsOk ps N) := fun q hq => by
            have := (mayE_zero HE2.out).2.2 q hq
            simp only [pOk, decide_eq_true_eq] at this
            omega
          clear hE h4
          go_wp2
          go_region
          all_goals
            go_wp2_with fail
            refine wp_hold (fun W => ∃ bB aB, RelP w W N (wr.heap.size + 2) bB aB (fun _ => .slice none 0 0) [] (fun _ => 0)) (by first | exact ⟨_, _, relP_order1 HF.out N⟩ | exact ⟨_, _, relP_order2 HF.out N⟩) ?_
            rintro W3 ⟨bB, aB, hR⟩
            obtain ⟨r, hr⟩ : ∃ r, r = wr.heap.size + 2 := ⟨_, rfl⟩
            rw [← hr] at hR ⊢
            have HR := Lib.hid hR
            clear hR hr hm1 hm2
            go_loopw [10, 46] (fun _ i ws => ∃ (j : Nat) (V : Nat → Value), i = .int .i64 j ∧ j ≤ k ∧ RelP w ws N r bB aB V (ps.take j) (fun i => ((ahN (ps.take j) [] (i : Int) : Nat) : Int))) (fun _ i _ => k - (intOf i).toNat)
            case atStart => exact ⟨0, _, rfl, Nat.zero_le _, by rw [List.take_zero]; exact HR.out⟩
            case round =>
              obtain ⟨j, V, rfl, hj, hR⟩ := hrel
              have HRj := Lib.hid hR
              clear hR
              by_cases hjl : j < k
              · obtain ⟨b, o, rfl, _, c1, c2⟩ := HC.out j (by rw [← HUl.out]; exact hjl)
                have c1 := HRj.out.fx.cell' c1 (fun h => h)
                have c2 := HRj.out.fx.cell' c2 (fun h => h)
                have hmem : gp ps j ∈ ps := by have : j < ps.length := by rw [← HUl.out]; exact hjl
                                               simp [gp, this]
                obtain ⟨p1, p2, p3, p4⟩ := HOk.out _ hmem
                obtain ⟨x, hx⟩ := Int.eq_ofNat_of_zero_le p1
                obtain ⟨y, hy⟩ := Int.eq_ofNat_of_zero_le p3
                rw [hx] at c1 p2
                rw [hy] at c2 p4
                have hxn : x < N := by omega
                have hyn : y < N := by omega
                have HGp : Hid (ps.take (j + 1) = ps.take j ++ [((x : Int), (y : Int))]) := by
                  show _ = _
                  have hjp : j < ps.length := by rw [← HUl.out]; exact hjl
                  rw [take_gp hjp, show gp ps j = ((x : Int), (y : Int)) from Prod.ext hx hy]
                clear hmem p1 p3 hx hy
                go_wp2
                obtain ⟨bx, hbx⟩ : ∃ bx, bx = wr.heap.size := ⟨_, rfl⟩
                have HRx := HRj.out.hi
                have HRv : Hid (∀ i g, i < N → (V i).ownBlock = some g → g ≠ bx) := fun i g hi e => by have := (OwnI.lt (HRj.out.bh i hi).2.2 e).2; omega
                have hb1 : bx ≠ r ∧ bx ≠ bB ∧ bx ≠ aB := by omega
                rw [← hbx]
                refine wp_hold (fun W => RelP w W N r bB aB V (ps.take j) (fun i => ((ahN (ps.take j) [] (i : Int) : Nat) : Int)) ∧ W.cell? ⟨bx, 0, none⟩ = some (.int .i64 (x : Int)) ∧ W.cell? ⟨bx, 1, none⟩ = some (.int .i64 (y : Int))) ⟨HRj.out.no ((Fx.refl No _).alloc _), by rw [hbx]; simp, by rw [hbx]; simp⟩ ?_
                rintro ws ⟨hRs, d1, d2⟩
                clear HRx hbx c1 c2
                have r1 := hRs.r1
                have r2 := hRs.r2
                obtain ⟨v1, v2, v3⟩ := hRs.bh x hxn
                obtain ⟨vo, vc, hv, _⟩ := v3.ints.facts
                obtain ⟨rl, hrl⟩ : ∃ l, l = (bhL (ps.take j) (x : Int)).length := ⟨_, rfl⟩
                rw [← hrl] at hv
                rw [hv] at v1
                have hrl2 : rl ≤ 100000 := by rw [hrl]; exact Nat.le_trans (bhL_length _ _) (by rw [List.length_take]; omega)
                have HV := Lib.hid hv
                have HRl := Lib.hid hrl
                have HO : Hid (∀ W, Fx No ws W → W.ownsRow w.heap.size 3 1 (.slice vo rl vc) rl (ints (bhL (ps.take j) (x : Int)))) := fun W hf => by
                  have := OwnI.fx v3 hf fun _ _ h => h
                  unfold OwnI at this
                  rw [← hrl, hv] at this
                  exact this
                have HK2 : Hid (∀ W w2, Fx No ws W → Fx (fun b => (Value.slice vo rl vc).ownBlock = some b) W w2 → w2.cell? ⟨r, 1, none⟩ = some (.slice (some ⟨bB, 0, none⟩) N N) ∧ w2.cell? ⟨r, 2, none⟩ = some (.slice (some ⟨aB, 0, none⟩) N N) ∧
                    (w2.cell? ⟨bB, x, none⟩ = some (.slice vo rl vc) ∧ w2.frozen? ⟨bB, x, none⟩ = false) ∧ w2.cell? ⟨bx, 0, none⟩ = some (.int .i64 (x : Int)) ∧ w2.cell? ⟨bx, 1, none⟩ = some (.int .i64 (y : Int))) := fun W w2 h1 h2 => by
                  have sp : ∀ b, b = r ∨ b = bB ∨ b = bx → ¬ (Value.slice vo rl vc).ownBlock = some b := fun b hb e => by
                    rw [← hv] at e
                    have h8 := hRs.sep x b hxn e
                    rcases hb with hb | hb | hb
                    · exact h8.1 hb
                    · exact h8.2.1 hb
                    · exact HRv.out x b hxn e hb
                  exact ⟨h2.cell' (h1.cell' r1 (fun h => h)) (sp _ (.inl rfl)), h2.cell' (h1.cell' r2 (fun h => h)) (sp _ (.inl rfl)),
                    h2.cellF (h1.cell' v1 (fun h => h)) (h1.cellF v1 v2 (fun h => h)).2 (sp _ (.inr (.inl rfl))), h2.cell' (h1.cell' d1 (fun h => h)) (sp _ (.inr (.inr rfl))), h2.cell' (h1.cell' d2 (fun h => h)) (sp _ (.inr (.inr rfl)))⟩
                have HRs := Lib.hid hRs
                obtain ⟨l1, l2, l3⟩ := hRs.lo
                obtain ⟨u1, u2, u3⟩ := hRs.hi
                have n1 : ¬ r = bB := hRs.ne1
                have n2 : ¬ bB = r := fun e => hRs.ne1 e.symm
                have n3 : ¬ bB = aB := hRs.ne3
                have n4 : ¬ aB = bB := fun e => hRs.ne3 e.symm
                have n5 : ¬ bx = bB := hb1.2.1
                have n6 : ¬ bB = bx := fun e => hb1.2.1 e.symm
                have hwz := hRs.fx.size
                have hbxs := World.block_lt_of_cell? ws _ d1
                have hbxs : bx < ws.heap.size := hbxs
                clear hRs v2 v3 hv hrl hb1
                have s0 : Fx (fun b => (Value.slice vo rl vc).ownBlock = some b ∨ b = bB) ws ws := Fx.refl _ _
                have sp : ∀ b, b = r ∨ b = bx → ¬ ((Value.slice vo rl vc).ownBlock = some b ∨ b = bB) := fun b hb h => by
                  rcases h with e | e
                  · rw [← HV.out] at e
                    have h8 := HRs.out.sep x b hxn e
                    rcases hb with hb | hb
                    · exact h8.1 hb
                    · exact HRv.out x b hxn e hb
                  · rcases hb with hb | hb
                    · exact n1 (by rw [← hb, e])
                    · exact n5 (by rw [← hb, e])
                have q1 : ∀ w', Fx (fun b => (Value.slice vo rl vc).ownBlock = some b ∨ b = bB) ws w' → w'.cell? ⟨r, 1, none⟩ = some (.slice (some ⟨bB, 0, none⟩) N N) := fun w' h => h.cell' r1 (sp _ (.inl rfl))
                have q2 : ∀ w', Fx (fun b => (Value.slice vo rl vc).ownBlock = some b ∨ b = bB) ws w' → w'.cell? ⟨bx, 0, none⟩ = some (.int .i64 (x : Int)) := fun w' h => h.cell' d1 (sp _ (.inr rfl))
                have q3 : ∀ w', Fx (fun b => (Value.slice vo rl vc).ownBlock = some b ∨ b = bB) ws w' → w'.cell? ⟨bx, 1, none⟩ = some (.int .i64 (y : Int)) := fun w' h => h.cell' d2 (sp _ (.inr rfl))
                have hx0 : (0 : Int) ≤ (x : Int) := by omega
                have hy0 : (0 : Int) ≤ (y : Int) := by omega
                have HSp := Lib.hid sp
                clear sp d1 d2 r1
                refine wp_region_G 19 (fun b W => Fx (fun b => (Value.slice vo rl vc).ownBlock = some b ∨ b = bB) ws W ∧ (b = false → W.cell? ⟨bB, x, none⟩ = some (.slice vo rl vc))) (by kernel_rfl) ⟨s0.drew, fun _ => v1⟩ ?_
                intro hS hC
                refine wpG_take (i := 0) (v := ?_) rfl (by kernel_rfl) (by kernel_rfl) (by kernel_rfl) (by kernel_rfl) (fun _ _ _ h => h) (by decide) (Or.inl ⟨by rfl, ?_⟩) hC hS ?_
                rotate_left
                · (intro W ⟨hf, hc⟩; have hc := hc rfl; go_simp; first | done | with_reducible rfl)
                clear hS hC
                intro hS hC
                simp only [Act.put, List.setIfInBounds_toArray, List.set_cons_zero, List.set_cons_succ]
                refine wpG_take (i := 1) (v := ?_) rfl (by kernel_rfl) (by kernel_rfl) (by kernel_rfl) (by kernel_rfl) (fun _ _ _ h => h) (by decide) (Or.inl ⟨by rfl, ?_⟩) hC hS ?_
                rotate_left
                · (intro W ⟨hf, hc⟩; have hc := hc rfl; go_simp; first | done | with_reducible rfl)
                clear hS hC
                intro hS hC
                simp only [Act.put, List.setIfInBounds_toArray, List.set_cons_zero, List.set_cons_succ]
                refine wpG_take (i := 2) (v := ?_) rfl (by kernel_rfl) (by kernel_rfl) (by kernel_rfl) (by kernel_rfl) (fun _ _ _ h => h) (by decide) (Or.inl ⟨by rfl, ?_⟩) hC hS ?_
                rotate_left
                · (intro W ⟨hf, hc⟩; have hc := hc rfl; go_simp; first | done | with_reducible rfl)
                clear hS hC
                intro hS hC
                simp only [Act.put, List.setIfInBounds_toArray, List.set_cons_zero, List.set_cons_succ]
                refine wpG_take (i := 3) (v := ?_) rfl (by kernel_rfl) (by kernel_rfl) (by kernel_rfl) (by kernel_rfl) (fun _ _ _ h => h) (by decide) (Or.inl ⟨by rfl, ?_⟩) hC hS ?_
                rotate_left
                · (intro W ⟨hf, hc⟩; have hc := hc rfl; go_simp; first | done | with_reducible rfl)
                clear hS hC
                intro hS hC
                simp only [Act.put, List.setIfInBounds_toArray, List.set_cons_zero, List.set_cons_succ]
                refine wpG_take (i := 4) (v := ?_) rfl (by kernel_rfl) (by kernel_rfl) (by kernel_rfl) (by kernel_rfl) (fun _ _ _ h => h) (by decide) (Or.inl ⟨by rfl, ?_⟩) hC hS ?_
                rotate_left
                · (intro W ⟨hf, hc⟩; have hc := hc rfl; go_simp; first | done | with_reducible rfl)
                clear hS hC
                intro hS hC
                simp only [Act.put, List.setIfInBounds_toArray, List.set_cons_zero, List.set_cons_succ]
                refine wpG_take (i := 5) (v := ?_) rfl (by kernel_rfl) (by kernel_rfl) (by kernel_rfl) (by kernel_rfl) (fun _ _ _ h => h) (by decide) (Or.inl ⟨by rfl, ?_⟩) hC hS ?_
                rotate_left
                · (intro W ⟨hf, hc⟩; have hc := hc rfl; go_simp; first | done | with_reducible rfl)
                clear hS hC
                intro hS hC
                simp only [Act.put, List.setIfInBounds_toArray, List.set_cons_zero, List.set_cons_succ]
                refine wpG_take (i := 6) (v := ?_) rfl (by kernel_rfl) (by kernel_rfl) (by kernel_rfl) (by kernel_rfl) (fun _ _ _ h => h) (by decide) (Or.inl ⟨by rfl, ?_⟩) hC hS ?_
                rotate_left
                · (intro W ⟨hf, hc⟩; have hc := hc rfl; go_simp; first | done | with_reducible rfl)
                clear hS hC
                intro hS hC
                simp only [Act.put, List.setIfInBounds_toArray, List.set_cons_zero, List.set_cons_succ]
                refine wpG_take (i := 7) (v := ?_) rfl (by kernel_rfl) (by kernel_rfl) (by kernel_rfl) (by kernel_rfl) (fun _ _ _ h => h) (by decide) (Or.inl ⟨by rfl, ?_⟩) hC hS ?_
                rotate_left
                · (intro W ⟨hf, hc⟩; have hc := hc rfl; go_simp; first | done | with_reducible rfl)
                clear hS hC
                intro hS hC
                simp only [Act.put, List.setIfInBounds_toArray, List.set_cons_zero, List.set_cons_succ]
                refine wpG_take (i := 8) (v := ?_) rfl (by kernel_rfl) (by kernel_rfl) (by kernel_rfl) (by kernel_rfl) (fun _ _ _ h => h) (by decide) (Or.inl ⟨by rfl, ?_⟩) hC hS ?_
                rotate_left
                · (intro W ⟨hf, hc⟩; have hc := hc rfl; go_simp; first | done | with_reducible rfl)
                clear hS hC
                intro hS hC
                simp only [Act.put, List.setIfInBounds_toArray, List.set_cons_zero, List.set_cons_succ]
                refine wpG_take (i := 9) (v := ?_) rfl (by kernel_rfl) (by kernel_rfl) (by kernel_rfl) (by kernel_rfl) (fun _ _ _ h => h) (by decide) (Or.inl ⟨by rfl, ?_⟩) hC hS ?_
                rotate_left
                · (intro W ⟨hf, hc⟩; have hc := hc rfl; go_simp; first | done | with_reducible rfl)
                clear hS hC
                intro hS hC
                simp only [Act.put, List.setIfInBounds_toArray, List.set_cons_zero, List.set_cons_succ]
                refine wpG_take (i := 10) (v := ?_) rfl (by kernel_rfl) (by kernel_rfl) (by kernel_rfl) (by kernel_rfl) (fun _ _ _ h => h) (by decide) (Or.inl ⟨by rfl, ?_⟩) hC hS ?_
                rotate_left
                · (intro W ⟨hf, hc⟩; have hc := hc rfl; go_simp; first | done | with_reducible rfl)
                clear hS hC
                intro hS hC
                simp only [Act.put, List.setIfInBounds_toArray, List.set_cons_zero, List.set_cons_succ]
                refine wpG_take (i := 11) (v := ?_) rfl (by kernel_rfl) (by kernel_rfl) (by kernel_rfl) (by kernel_rfl) (fun _ _ _ h => h) (by decide) (Or.inl ⟨by rfl, ?_⟩) hC hS ?_
                rotate_left
                · (intro W ⟨hf, hc⟩; have hc := hc rfl; go_simp; first | done | with_reducible rfl)
                clear hS hC
                intro hS hC
                simp only [Act.put, List.setIfInBounds_toArray, List.set_cons_zero, List.set_cons_succ]
                refine wpG_take (i := 12) (v := ?_) rfl (by kernel_rfl) (by kernel_rfl) (by kernel_rfl) (by kernel_rfl) (fun _ _ _ h => h) (by decide) (Or.inl ⟨by rfl, ?_⟩) hC hS ?_
                rotate_left
                · (intro W ⟨hf, hc⟩; have hc := hc rfl; go_simp; first | done | with_reducible rfl)
                clear hS hC
                intro hS hC
                simp only [Act.put, List.setIfInBounds_toArray, List.set_cons_zero, List.set_cons_succ]
                refine wpG_take (i := 13) (v := ?_) rfl (by kernel_rfl) (by kernel_rfl) (by kernel_rfl) (by kernel_rfl) (fun _ _ _ h => h) (by decide) (Or.inl ⟨by rfl, ?_⟩) hC hS ?_
                rotate_left
                · (intro W ⟨hf, hc⟩; have hc := hc rfl; go_simp; first | done | with_reducible rfl)
                clear hS hC
                intro hS hC
                simp only [Act.put, List.setIfInBounds_toArray, List.set_cons_zero, List.set_cons_succ]
                refine wpG_take (i := 14) (v := ?_) rfl (by kernel_rfl) (by kernel_rfl) (by kernel_rfl) (by kernel_rfl) (fun _ _ _ h => h) (by decide) (Or.inl ⟨by rfl, ?_⟩) hC hS ?_
                rotate_left
                · (intro W ⟨hf, hc⟩; have hc := hc rfl; go_simp; first | done | with_reducible rfl)
                clear hS hC
                intro hS hC
                simp only [Act.put, List.setIfInBounds_toArray, List.set_cons_zero, List.set_cons_succ]
                refine wpG_take (i := 15) (v := ?_) rfl (by kernel_rfl) (by kernel_rfl) (by kernel_rfl) (by kernel_rfl) (fun _ _ _ h => h) (by decide) (Or.inl ⟨by rfl, ?_⟩) hC hS ?_
                rotate_left
                · (intro W ⟨hf, hc⟩; have hc := hc rfl; go_simp; first | done | with_reducible rfl)
                clear hS hC
                intro hS hC
                simp only [Act.put, List.setIfInBounds_toArray, List.set_cons_zero, List.set_cons_succ]
                refine wpG_one (i := 16) (by kernel_rfl) rfl hC (fun K hK => ?_)
                go_simp
                refine hK.out _ _ ⟨by first | exact (s0.alloc _).drew | exact s0.drew.alloc _, fun _ => by go_simp⟩ (fun hS' hC' => ?_)
                clear hK K hS hC
                have hS := hS'
                have hC := hC'
                clear hS' hC'
                try simp only [Act.put, List.setIfInBounds_toArray, List.set_cons_zero, List.set_cons_succ]
                refine wpG_one (i := 17) (by kernel_rfl) rfl hC (fun K hK => ?_)
                refine step_append_kept rfl (.tmp 63) (.tmp 66) 29 rfl w.heap.size 3 Try.underlying29 hif hz hs hb rfl (by decide) (.slice vo rl vc) rl (ints (bhL (ps.take j) (x : Int))) (by simp [Act.eval]) (HO.out _ (by repeat (first | exact Fx.refl _ _ | apply Fx.drew | apply Fx.drewN | apply Fx.alloc))) (Up ws) (.slice (some ⟨ws.heap.size, 0, none⟩) 1 1) 1 (ints [(y : Int)]) (by simp [Act.eval]) (by first | exact SlV.new ws 3 #[.int .i64 (y : Int)] 1 1 rfl (by unfold maxLen; omega) | exact (SlV.new ws 3 #[.int .i64 (y : Int)] 1 1 rfl (by unfold maxLen; omega)).keep ((Fx.refl No _).drew) No.disj) (ints_one _) (by omega) (by unfold maxLen; omega) (by omega) (by first | omega | (simp; omega)) ?_
                intro v' w2 ho hfx hk hb2
                obtain ⟨g, gcap, rfl, hg1, hg2⟩ := ownsRow_pos ho (by omega)
                obtain ⟨t1, t2, ⟨t3, t4⟩, t5, t6⟩ := HK2.out _ w2 (by repeat (first | exact Fx.refl _ _ | apply Fx.drew | apply Fx.drewN | apply Fx.alloc)) hfx
                have hS2 : Fx (fun b => (Value.slice vo rl vc).ownBlock = some b ∨ b = bB) ws w2 := Fx.trans (by repeat (first | exact Fx.refl _ _ | apply Fx.drew | apply Fx.drewN | apply Fx.alloc)) (hfx.mono fun _ _ e => .inl e)
                refine hK.out _ _ ⟨hS2, fun _ => t3⟩ (fun hS' hC' => ?_)
                clear hK K hS hC
                have hS := hS'
                have hC := hC'
                clear hS' hC'
                try simp only [Act.put, List.setIfInBounds_toArray, List.set_cons_zero, List.set_cons_succ]
                refine wpG_take (i := 18) (v := ?_) rfl (by kernel_rfl) (by kernel_rfl) (by kernel_rfl) (by kernel_rfl) (fun _ _ _ h => h) (by decide) (Or.inl ⟨by rfl, ?_⟩) hC hS ?_
                rotate_left
                · (intro W ⟨hf, hc⟩; have hc := hc rfl; go_simp; first | done | with_reducible rfl)
                clear hS hC
                intro hS hC
                try simp only [Act.put, List.setIfInBounds_toArray, List.set_cons_zero, List.set_cons_succ]
                refine wpG_one (i := 19) (by kernel_rfl) rfl hC (fun K hK => ?_)
                go_simp
                refine hK.out _ _ ⟨Fx.setCell hS2 (a := ⟨bB, x, none⟩) (.inr (.inr rfl)) _, fun h => absurd h (by decide +kernel)⟩ (fun _ _ => ?_)
                clear hK K hS hC
                refine wpG_done (by kernel_rfl) ?_ _
                have hR5 := RelP.app (W := (ws.alloc (.cells #[.int .i64 (y : Int)] 3)).drew) (y := (y : Int)) HRs.out hxn (by repeat (first | exact Fx.refl _ _ | apply Fx.drew | apply Fx.drewN | apply Fx.alloc)) (by rw [← HRl.out]; exact ho) (by rw [HV.out]; exact hfx) (by rw [HV.out]; exact hb2)
                have hb5 : (w2.setCell ⟨bB, x, none⟩ (.slice (some ⟨g, 0, none⟩) (rl + 1) gcap)).cell? ⟨bx, 1, none⟩ = some (.int .i64 (y : Int)) := by rw [cell_other_block (fun e => n6 e)]; exact t6
                have HR5 := Lib.hid hR5
                clear hR5 ho hfx hb2 hk t1 t2 t3 t4 t5 t6 hS2 q1 q2 q3 s0 v1 r2
                go_wp2
                refine wp_hold (fun W => RelP w W N r bB aB (fun i => if i = x then .slice (some ⟨g, 0, none⟩) (rl + 1) gcap else V i) (ps.take j ++ [((x : Int), (y : Int))]) (fun i => ((ahN (ps.take j) [] (i : Int) : Nat) : Int)) ∧ W.cell? ⟨bx, 1, none⟩ = some (.int .i64 (y : Int))) ⟨HR5.out, hb5⟩ ?_
                rintro w5 ⟨hR6, e1⟩
                have e2 := hR6.r2
                have e3 : w5.cell? ⟨aB, y, none⟩ = some (.int .i64 ((ahN (ps.take j) [] (y : Int) : Nat) : Int)) := (hR6.ah y hyn).1
                have e4 := (hR6.ah y hyn).2
                obtain ⟨a, ha⟩ : ∃ a, a = ahN (ps.take j) [] (y : Int) := ⟨_, rfl⟩
                rw [← ha] at e3
                have hal : a ≤ 100000 := by rw [ha]; exact Nat.le_trans (ahN_le _ _ _) (by rw [List.length_take]; omega)
                have HR7 : Hid (RelP w (w5.setCell ⟨aB, y, none⟩ (.int .i64 ((a : Int) + 1))) N r bB aB (fun i => if i = x then .slice (some ⟨g, 0, none⟩) (rl + 1) gcap else V i) (ps.take (j + 1)) (fun i => ((ahN (ps.take (j + 1)) [] (i : Int) : Nat) : Int))) := by
                  rw [HGp.out]
                  refine (hR6.inc hyn ((a : Int) + 1)).congr fun i hi => ?_
                  show (if i = y then ((a : Int) + 1) else ((ahN (ps.take j) [] (i : Int) : Nat) : Int)) = ((ahN (ps.take j ++ [((x : Int), (y : Int))]) [] (i : Int) : Nat) : Int)
                  rw [ahN_psnoc]
                  by_cases e : i = y
                  · subst e; rw [if_pos rfl, if_pos rfl, ha]; omega
                  · rw [if_neg e, if_neg (by omega), Nat.add_zero]
                clear hR6 ha HR5 hb5
                go_wp2
                go_region
                all_goals
                  go_wp2
                  go_roundw
                  case rel => first | exact ⟨j + 1, _, by go_num, by omega, HR7.out.no ((Fx.refl No _).drew)⟩ | exact ⟨j + 1, _, by go_num, by omega, HR7.out⟩ | ((repeat apply Exists.intro); exact ⟨⟨j + 1, _, by go_num, by omega, HR7.out.no ((Fx.refl No _).drew)⟩, rfl⟩)
                  case measure => simp [intOf]; omega
              · obtain rfl : j = k := by omega
                have ht : ps.take j = ps := by rw [HUl.out, List.take_length]
                rw [ht] at HRj
                go_wp2
                go_ret2
                exact .inr ⟨HE2.out, r, bB, aB, V, rfl, HRj.out⟩
#print axioms related_any
end Go.Proofs.Ytddpdjbgidmdlaa
