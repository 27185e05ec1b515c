/- The laws of graphs: the reference's New; what the law's loop keeps. -/
import Derived.Test.YtcfajeldkioomaaRgH
namespace Go.Proofs.Ytcfajeldkioomaa
open Go.RowKit
set_option linter.unusedVariables false

theorem wpAnyH_hold {P : Program} {md : Region.Mode} {ops : Array Oper} {Q : Exit → Act → World → Prop} {S : World → Prop} {f : Nat} {L : Array Bool} {a : Act} {W : World} (R : World → Prop) (hR : R W) (h : ∀ W', R W' → wpAnyH P md ops Q S f L a W') : wpAnyH P md ops Q S f L a W := h W hR
section
variable {w w' : World}
set_option maxRecDepth 100000 in
theorem refNew_any (n : Nat) (w : World) (hn : n ≤ 65536) : Calls Try.prog 22 #[.int .i64 (n : Nat)] w fun e w' => e = .returned (.tuple #[.agg #[.int .i64 (n : Nat), .slice none 0 0], .int .i64 0]) ∧ Fx No w w' := by
  have d1 : decide ((n : Int) < 0) = false := decide_eq_false (by omega)
  have d2 : decide ((65536 : Int) < (n : Int)) = false := decide_eq_false (by omega)
  have q0 : (w.alloc (.cells #[.int .i64 0, .slice none 0 0] 30)).cell? ⟨w.heap.size, 0, none⟩ = some (.int .i64 0) := by simp
  have q1 : (w.alloc (.cells #[.int .i64 0, .slice none 0 0] 30)).cell? ⟨w.heap.size, 1, none⟩ = some (.slice none 0 0) := by simp
  obtain ⟨g1, g2, g3, g4⟩ := put_two _ (qb := w.heap.size) (.int .i64 (n : Nat)) (.slice none 0 0) q0 q1
  have HG1 := Lib.hid g1
  have HG2 := Lib.hid g2
  have HF : Hid (Fx No w (((w.alloc (.cells #[.int .i64 0, .slice none 0 0] 30)).setCell ⟨w.heap.size, 0, none⟩ (.int .i64 (n : Nat))).setCell ⟨w.heap.size, 1, none⟩ (.slice none 0 0))) := Lib.hid ((((Fx.refl No w).alloc _).setCell (.inl (Nat.le_refl _)) _).setCell (.inl (Nat.le_refl _)) _)
  clear q0 q1 g1 g2 g3 g4
  go_enter Try.func22, Try.ntmps22
  go_wp2
  exact bodyPost_ret (v := .tuple #[.agg #[.int .i64 (n : Nat), .slice none 0 0], .int .i64 0]) (by have g1 := HG1.out; have g2 := HG2.out; simp [results, Try.results22, go_sem, g1, g2]) rfl ⟨rfl, (Fx.refl No w).alloc _⟩
set_option maxRecDepth 100000 in
theorem refNew_no (n : Int) (w : World) (hn : n < 0 ∨ 65536 < n) : Calls Try.prog 22 #[.int .i64 n] w fun e w' => e = .returned (.tuple #[.agg #[.int .i64 0, .slice none 0 0], .int .i64 2]) ∧ Fx No w w' := by
  have q0 : (w.alloc (.cells #[.int .i64 0, .slice none 0 0] 30)).cell? ⟨w.heap.size, 0, none⟩ = some (.int .i64 0) := by simp
  have q1 : (w.alloc (.cells #[.int .i64 0, .slice none 0 0] 30)).cell? ⟨w.heap.size, 1, none⟩ = some (.slice none 0 0) := by simp
  obtain ⟨g1, g2, g3, g4⟩ := put_two _ (qb := w.heap.size) (.int .i64 0) (.slice none 0 0) q0 q1
  have HG1 := Lib.hid g1
  have HG2 := Lib.hid g2
  have HF : Hid (Fx No w (((w.alloc (.cells #[.int .i64 0, .slice none 0 0] 30)).setCell ⟨w.heap.size, 0, none⟩ (.int .i64 0)).setCell ⟨w.heap.size, 1, none⟩ (.slice none 0 0))) := Lib.hid ((((Fx.refl No w).alloc _).setCell (.inl (Nat.le_refl _)) _).setCell (.inl (Nat.le_refl _)) _)
  clear q0 q1 g1 g2 g3 g4
  by_cases h : n < 0
  · have d1 : decide (n < 0) = true := decide_eq_true h
    clear hn
    go_enter Try.func22, Try.ntmps22
    go_wp2
    exact bodyPost_ret (v := .tuple #[.agg #[.int .i64 0, .slice none 0 0], .int .i64 2]) (by have g1 := HG1.out; have g2 := HG2.out; simp [results, Try.results22, go_sem, g1, g2]) rfl ⟨rfl, (Fx.refl No w).alloc _⟩
  · have d1 : decide (n < 0) = false := decide_eq_false h
    have d2 : decide (65536 < n) = true := decide_eq_true (by omega)
    clear hn
    go_enter Try.func22, Try.ntmps22
    go_wp2
    exact bodyPost_ret (v := .tuple #[.agg #[.int .i64 0, .slice none 0 0], .int .i64 2]) (by have g1 := HG1.out; have g2 := HG2.out; simp [results, Try.results22, go_sem, g1, g2]) rfl ⟨rfl, (Fx.refl No w).alloc _⟩
end
/-- a graph and its reference in the variable rb -/
structure PG (w0 ws : World) (b rb N : Nat) (L : List Ed) (rv : Value) (D E : Nat → Prop) : Prop where
  fx : Fx No w0 ws
  g : GraphV ws D b N L
  lo : ∀ j, D j → w0.heap.size ≤ j
  r0 : ws.cell? ⟨rb, 0, none⟩ = some (.int .i64 (N : Nat)) ∧ ws.frozen? ⟨rb, 0, none⟩ = false
  r1 : ws.cell? ⟨rb, 1, none⟩ = some rv ∧ ws.frozen? ⟨rb, 1, none⟩ = false
  row : EdsV ws E rv L
  ap : ∀ j, E j → ¬ D j ∧ j ≠ rb
  eb : ∀ j, E j → j < ws.heap.size
  rD : ¬ D rb ∧ w0.heap.size ≤ rb
section
variable {w0 ws w' : World} {b rb N : Nat} {L L' : List Ed} {rv rv' : Value} {D E E' : Nat → Prop}
theorem PG.no (h : PG w0 ws b rb N L rv D E) (hf : Fx No ws w') : PG w0 w' b rb N L rv D E :=
  ⟨h.fx.trans hf, h.g.no hf, h.lo, hf.cellF h.r0.1 h.r0.2 (fun h => h), hf.cellF h.r1.1 h.r1.2 (fun h => h), h.row.no hf, h.ap, fun j hj => Nat.lt_of_lt_of_le (h.eb j hj) hf.size, h.rD⟩
/-- the graph has been written; the reference has another row -/
theorem PG.step (h : PG w0 ws b rb N L rv D E) {wx : World} (hf : Fx No ws wx) (hrow : EdsV wx E' rv' L') (hap : ∀ j, E' j → ¬ D j ∧ j ≠ rb) (heb : ∀ j, E' j → j < wx.heap.size)
    {wy : World} (hwy : wy = (wx.setCell ⟨rb, 0, none⟩ (.int .i64 (N : Nat))).setCell ⟨rb, 1, none⟩ rv') {wz : World} (hD : Fx D wy wz) (hg : GraphV wz (DU D wy wz) b N L') : PG w0 wz b rb N L' rv' (DU D wy wz) E' := by
  have hx := h.no hf
  obtain ⟨g1, g2, g3, g4⟩ := put_two wx (qb := rb) (.int .i64 (N : Nat)) rv' hx.r0.1 hx.r1.1
  rw [← hwy] at g1 g2 g3 g4
  have f0 : wy.frozen? ⟨rb, 0, none⟩ = false := by rw [hwy]; simpa using hx.r0.2
  have f1 : wy.frozen? ⟨rb, 1, none⟩ = false := by rw [hwy]; simpa using hx.r1.2
  have hsz := hx.fx.size
  have hrb : rb < wx.heap.size := World.block_lt_of_cell? wx _ hx.r0.1
  refine ⟨?_, hg, ?_, hD.cellF g1 f0 hx.rD.1, hD.cellF g2 f1 hx.rD.1, ?_, ?_, ?_, ?_, hx.rD.2⟩
  · refine Fx.trans' (hx.fx.trans' g3 fun j e hl => ?_) hD fun j hj hl => ?_
    · have e : j = rb := e; have := hx.rD.2; omega
    · have := hx.lo j hj; omega
  · rintro j (hj | hj)
    · exact hx.lo j hj
    · have := hj.1; omega
  · exact (hrow.keep g3 fun j hj e => (hap j hj).2 e).keep hD fun j hj => (hap j hj).1
  · intro j hj
    refine ⟨?_, (hap j hj).2⟩
    rintro (h1 | h1)
    · exact (hap j hj).1 h1
    · have := heb j hj; have := h1.1; omega
  · intro j hj; have := heb j hj; have := hD.size; omega
  · rintro (h1 | h1)
    · exact hx.rD.1 h1
    · have := h1.1; omega
end
#print axioms refNew_any
#print axioms PG.step
end Go.Proofs.Ytcfajeldkioomaa
