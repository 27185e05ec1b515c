/- The law BitsPlays: does, at an act of two sets. -/
import Derived.Test.YthbfpcheljaeaaaDoorPlaysB
import Derived.Deep.DeepCutAuto
import Derived.Deep.Light
namespace Go.Proofs.YthbfpcheljaeaaaDoor
open Go.RowKit
set_option linter.unusedVariables false

/-- behind the two bits.Of -/
def R12 (w : World) (rv lv mv : Value) (a : ActM) (N1 X1 N2 X2 : Nat) (s12 s13 : Value) (wx : World) : Prop :=
  ∃ x y, s12 = .pointer (some ⟨x, 0, none⟩) ∧ s13 = .pointer (some ⟨y, 0, none⟩) ∧ Fx No w wx ∧ SetIn wx (fun k => w.heap.size + 3 ≤ k) x N1 X1 ∧ SetIn wx (fun k => w.heap.size + 3 ≤ k) y N2 X2 ∧ BoxOk w.heap.size rv lv mv a wx ∧ w.heap.size + 3 ≤ wx.heap.size
/-- the acts' own blocks -/
def DX (w : World) (A B : Nat) : Nat → Prop := fun k => w.heap.size + 3 ≤ k ∧ k ≠ A ∧ k ≠ B
/-- behind the reference's two -/
def R13 (w : World) (rv lv mv : Value) (a : ActM) (x y N1 X1 N2 X2 : Nat) (s14 s15 : Value) (wx : World) : Prop :=
  ∃ A B po pc qo qc, s14 = .pointer (some ⟨A, 0, none⟩) ∧ s15 = .pointer (some ⟨B, 0, none⟩) ∧ Fx No w wx ∧ SetIn wx (DX w A B) x N1 X1 ∧ SetIn wx (DX w A B) y N2 X2 ∧ BoxOk w.heap.size rv lv mv a wx ∧
    w.heap.size + 3 ≤ A ∧ w.heap.size + 3 ≤ B ∧ A ≠ B ∧ A < wx.heap.size ∧ B < wx.heap.size ∧
    wx.cell? ⟨A, 0, none⟩ = some (.slice po N1 pc) ∧ wx.cell? ⟨B, 0, none⟩ = some (.slice qo N2 qc) ∧ wx.frozen? ⟨B, 0, none⟩ = false ∧
    IsR wx (DX w A B) (.slice po N1 pc) N1 X1 ∧ IsR wx (DX w A B) (.slice qo N2 qc) N2 X2

theorem Fx.cells {w w1 : World} (h : Fx No w w1) : ∀ b o, b < w.heap.size → w1.cell? ⟨b, o, none⟩ = w.cell? ⟨b, o, none⟩ ∧ w1.frozen? ⟨b, o, none⟩ = w.frozen? ⟨b, o, none⟩ :=
  fun b o hb => ⟨h.cell (a := ⟨b, o, none⟩) hb (fun h => h), h.frozen (a := ⟨b, o, none⟩) hb (fun h => h)⟩
theorem IsR.r13 {w0 w1 W : World} {A B a b : Nat} {v : Value} {n X : Nat} (h : IsR w1 (Iv a b) v n X) (hf : Fx (fun k => k = A ∨ k = B) w1 W) (ha : w0.heap.size + 3 ≤ a) (hA : A < a ∨ b ≤ A) (hB : B < a ∨ b ≤ B) :
    IsR W (DX w0 A B) v n X := by
  refine (h.keep hf ?_).mono ?_
  · rintro k ⟨h1, h2⟩ (rfl | rfl) <;> omega
  · rintro k ⟨h1, h2⟩; exact ⟨by omega, by omega, by omega⟩
theorem SetIn.dx {w0 wc W : World} {A B x n X : Nat} (h : SetIn wc (fun k => w0.heap.size + 3 ≤ k) x n X) (hf : Fx No wc W) (hA : wc.heap.size ≤ A) (hB : wc.heap.size ≤ B) : SetIn W (DX w0 A B) x n X :=
  (h.bound.no hf).mono fun k hk => by have h1 := hk.1; have h2 := hk.2; exact ⟨h1, by omega, by omega⟩
/-- a cell's value, whatever it is -/
def cellD (w : World) (a : Addr) : Value := (w.cell? a).getD undef
theorem cellD_of {w : World} {a : Addr} {v : Value} (h : w.cell? a = some v) : w.cell? a = some (cellD w a) := by unfold cellD; rw [h]; rfl
theorem cellD_keep {S : Nat → Prop} {w w1 : World} {a : Addr} (h : w.cell? a = some (cellD w a)) (hf : Fx S w w1) (hn : ¬ S a.block) : w1.cell? a = some (cellD w1 a) := cellD_of (hf.cell' h hn)
theorem cellD_set {w : World} {a : Addr} {v : Value} (h : w.cell? a = some (cellD w a)) : (w.setCell a v).cell? a = some (cellD (w.setCell a v) a) := cellD_of (World.cell?_setCell_same _ _ _ h)
theorem sets2 {w : World} {E : Nat → Prop} {p q : Value} {N1 X1 N2 X2 : Nat} (hp : IsR w E p N1 X1) (hq : IsR w E q N2 X2) (hE : E w.heap.size) :
    SetsV (w.alloc (.cells #[p, q] 28)) E (.slice (some ⟨w.heap.size, 0, none⟩) 2 2) [(N1, X1), (N2, X2)] := by
  have hf : Fx No w (w.alloc (.cells #[p, q] 28)) := (Fx.refl No w).alloc _
  refine ⟨[p, q], rfl, ?_, ?_⟩
  · refine ⟨_, 2, rfl, Nat.le_refl _, by decide, rfl, by simp, .inr ⟨w.heap.size, 0, rfl, hE, fun i hi => ?_⟩⟩
    have : i < 2 := hi
    match i, this with
    | 0, _ => simp
    | 1, _ => simp
  · intro k hk
    have : k < 2 := hk
    match k, this with
    | 0, _ => exact hp.no hf
    | 1, _ => exact hq.no hf
theorem join2 {w : World} {D E : Nat → Prop} {q1 q2 : Option Addr} {b n X N1 X1 N2 X2 Z : Nat} {z : Int} (h : SetIn w D b n X) (hD : ∀ k, D k → k < w.heap.size) (hDE : ∀ k, E k → ¬ D k)
    (h1 : (q1 = some ⟨b, 0, none⟩ ∧ X1 = X) ∨ ∃ m, SetP w E q1 m X1) (h2 : (q2 = some ⟨b, 0, none⟩ ∧ X2 = X) ∨ ∃ m, SetP w E q2 m X2) (hZ : doX 0 n X [(N1, X1), (N2, X2)] = Z) (hz : (turnN n X Z : Int) = z) :
    Calls Tryd.prog 23 #[.pointer (some ⟨b, 0, none⟩), .slice (some ⟨w.heap.size, 0, none⟩) 2 2] (w.alloc (.cells #[.pointer q1, .pointer q2] 24)) fun e w' =>
      e = .returned (.int .i64 z) ∧ Fx D w w' ∧ SetIn w' D b n Z :=
  joinOwn (m := 0) (Y := 0) [(q1, X1), (q2, X2)] _ rfl E h hD hDE (by
    intro q hq
    simp only [List.mem_cons, List.not_mem_nil, or_false] at hq
    rcases hq with rfl | rfl
    · exact h1
    · exact h2) (by simp) (by rw [← hZ]; exact (doX_raw (L := [(N1, X1), (N2, X2)]) 0 h.lt).symm) hz
theorem meet2 {w : World} {D E : Nat → Prop} {q1 q2 : Option Addr} {b n X N1 X1 N2 X2 Z : Nat} {z : Int} (h : SetIn w D b n X) (hD : ∀ k, D k → k < w.heap.size) (hDE : ∀ k, E k → ¬ D k)
    (h1 : (q1 = some ⟨b, 0, none⟩ ∧ X1 = X) ∨ ∃ m, SetP w E q1 m X1) (h2 : (q2 = some ⟨b, 0, none⟩ ∧ X2 = X) ∨ ∃ m, SetP w E q2 m X2) (hZ : doX 1 n X [(N1, X1), (N2, X2)] = Z) (hz : (turnN n X Z : Int) = z) :
    Calls Tryd.prog 24 #[.pointer (some ⟨b, 0, none⟩), .slice (some ⟨w.heap.size, 0, none⟩) 2 2] (w.alloc (.cells #[.pointer q1, .pointer q2] 24)) fun e w' =>
      e = .returned (.int .i64 z) ∧ Fx D w w' ∧ SetIn w' D b n Z :=
  meetOwn (m := 0) (Y := 0) [(q1, X1), (q2, X2)] _ rfl E h hD hDE (by
    intro q hq
    simp only [List.mem_cons, List.not_mem_nil, or_false] at hq
    rcases hq with rfl | rfl
    · exact h1
    · exact h2) (by simp) (by rw [← hZ]; exact (doX_raw (L := [(N1, X1), (N2, X2)]) 1 h.lt).symm) hz
theorem less2 {w : World} {D E : Nat → Prop} {q1 q2 : Option Addr} {b n X N1 X1 N2 X2 Z : Nat} {z : Int} (h : SetIn w D b n X) (hD : ∀ k, D k → k < w.heap.size) (hDE : ∀ k, E k → ¬ D k)
    (h1 : (q1 = some ⟨b, 0, none⟩ ∧ X1 = X) ∨ ∃ m, SetP w E q1 m X1) (h2 : (q2 = some ⟨b, 0, none⟩ ∧ X2 = X) ∨ ∃ m, SetP w E q2 m X2) (hZ : doX 2 n X [(N1, X1), (N2, X2)] = Z) (hz : (turnN n X Z : Int) = z) :
    Calls Tryd.prog 25 #[.pointer (some ⟨b, 0, none⟩), .slice (some ⟨w.heap.size, 0, none⟩) 2 2] (w.alloc (.cells #[.pointer q1, .pointer q2] 24)) fun e w' =>
      e = .returned (.int .i64 z) ∧ Fx D w w' ∧ SetIn w' D b n Z :=
  lessOwn (m := 0) (Y := 0) [(q1, X1), (q2, X2)] _ rfl E h hD hDE (by
    intro q hq
    simp only [List.mem_cons, List.not_mem_nil, or_false] at hq
    rcases hq with rfl | rfl
    · exact h1
    · exact h2) (by simp) (by rw [← hZ]; exact (doX_raw (L := [(N1, X1), (N2, X2)]) 2 h.lt).symm) hz
theorem Fx.lts {w w1 : World} (h : Fx No w w1) : ∀ b, b < w.heap.size → b < w1.heap.size := fun b hb => Nat.lt_of_lt_of_le hb h.size
theorem frozen_keep {S : Nat → Prop} {w w1 : World} {a : Addr} (h : w.cell? a = some (cellD w a)) (hz : w.frozen? a = false) (hf : Fx S w w1) (hn : ¬ S a.block) : w1.frozen? a = false := (hf.cellF h hz hn).2
theorem held_set {wj w1 : World} {g : Nat} {v : Value} (h1 : Fx (fun k => k = g + 2) wj w1) (h2 : w1.cell? ⟨g + 2, 0, none⟩ = some (cellD w1 ⟨g + 2, 0, none⟩)) (h3 : w1.frozen? ⟨g + 2, 0, none⟩ = false) :
    Fx (fun k => k = g + 2) wj (w1.setCell ⟨g + 1 + 1, 0, none⟩ v) ∧ (w1.setCell ⟨g + 1 + 1, 0, none⟩ v).cell? ⟨g + 2, 0, none⟩ = some (cellD (w1.setCell ⟨g + 1 + 1, 0, none⟩ v) ⟨g + 2, 0, none⟩) ∧ (w1.setCell ⟨g + 1 + 1, 0, none⟩ v).frozen? ⟨g + 2, 0, none⟩ = false :=
  ⟨h1.setCell (.inr rfl) v, cellD_set h2, by rw [World.frozen?_setCell]; exact h3⟩
theorem cell_set_any {w : World} {a : Addr} {v u : Value} (h : (w.setCell a v).cell? a = some u) : (w.setCell a v).cell? a = some v := by
  cases hc : w.cell? a with
  | some x => exact World.cell?_setCell_same _ _ _ hc
  | none =>
    exfalso
    simp only [World.setCell, World.cell?, Array.getElem?_modify] at h hc
    revert h hc
    cases hb : w.heap[a.block]? with
    | none => simp
    | some o =>
      cases o <;> simp
      all_goals (intro h1 h2; first | omega | simp_all)
theorem gset {wj w1 : World} {g : Nat} {v : Value} (h : Fx No wj w1) : Fx (fun k => k = g + 2) wj (w1.setCell ⟨g + 1 + 1, 0, none⟩ v) :=
  Fx.setCell (S := fun k => k = g + 2) (a := ⟨g + 1 + 1, 0, none⟩) h.no (.inr rfl) v
theorem doesFin {w wc wj W : World} {D E : Nat → Prop} {vo : Option Addr} {vc n Z b hi : Nat} (hf : Fx No w wc) (hJ : Fx D wc wj) (hG : Fx (fun k => k = w.heap.size + 2) wj W) (hD : ∀ k, D k → k < w.heap.size)
    (hS : SetIn wj D b n Z) (hR : IsR wj (Iv (w.heap.size + 3) hi) (.slice vo n vc) n Z) (hhi : hi ≤ wj.heap.size) : DoesR D E w b n Z (.returned (.tuple #[.agg #[.slice vo n vc], .bool true])) W := by
  refine ⟨_, rfl, (hf.no.trans hJ).trans' hG (by rintro j rfl hj; omega), hS.keep hG (by rintro k hk rfl; have := hD _ hk; omega), ?_⟩
  refine (hR.keep hG (by rintro k ⟨h1, h2⟩ rfl; omega)).mono ?_
  rintro k ⟨h1, h2⟩
  have := hG.size
  exact .inr ⟨by omega, by omega⟩
#print axioms cell_set_any
end Go.Proofs.YthbfpcheljaeaaaDoor
