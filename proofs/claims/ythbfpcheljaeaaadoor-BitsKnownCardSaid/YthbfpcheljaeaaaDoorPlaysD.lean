/- The law BitsPlays: does, at any act. -/
import Derived.Test.YthbfpcheljaeaaaDoorPlaysM3
import Derived.Test.YthbfpcheljaeaaaDoorPlaysM4
import Derived.Test.YthbfpcheljaeaaaDoorPlaysM5
namespace Go.Proofs.YthbfpcheljaeaaaDoor
open Go.RowKit
set_option linter.unusedVariables false

theorem does1_any {w : World} {D E F : Nat → Prop} {rv lv mv : Value} {b n X : Nat} (a : ActM) (h : SetIn w D b n X) (hD : ∀ k, D k → k < w.heap.size) (hr : IsR w E rv n X) (hE : ∀ k, E k → ¬ D k) (hEb : ∀ k, E k → k < w.heap.size)
    (hl : IntsV w F lv a.l) (hm : IntsV w F mv a.m) (hT : TabOk w) (hTD : ¬ D 0) (hs : a.s ≤ 400) (hlo : -9223372036854775808 ≤ a.s) :
    Calls Tryd.prog 28 #[.pointer (some ⟨b, 0, none⟩), .agg #[rv], .agg #[.int .i64 a.d, .int .i64 a.i, .int .i64 a.s, lv, mv, .bool a.own]] w (DoesR D E w b n (actX n X a)) := by
  by_cases h0 : a.d = 0 ∨ a.d = 1
  · have e : actX n X a = addX n X a.i := by unfold actX; rw [if_pos h0]
    rw [e]; exact doesAdd_any a h hD hr hE hEb h0
  · by_cases h2 : a.d = 2
    · have e : actX n X a = remX X a.i := by unfold actX; rw [if_neg h0, if_pos h2]
      rw [e]; exact doesRem_any a h hD hr hE hEb h2
    · by_cases h3 : a.d = 3
      · exact doesMany3_any a h hD hr hE hEb hl hm hT hTD hs hlo h3
      · by_cases h4 : a.d = 4
        · exact doesMany4_any a h hD hr hE hEb hl hm hT hTD hs hlo h4
        · by_cases h5 : a.d = 5
          · exact doesMany5_any a h hD hr hE hEb hl hm hT hTD hs hlo h5
          · have e : actX n X a = X := by unfold actX; rw [if_neg h0, if_neg h2, if_neg (by omega)]
            rw [e]; exact doesNo_any a h hD hr hE hEb (by simp only [beq_eq_false_iff_ne]; omega)
theorem cnt_ins0 (k : Nat) : ∀ n, cntX n (ins 0 k) = if k < n then 1 else 0
  | 0 => rfl
  | n + 1 => by
    rw [cntX_succ, cnt_ins0 k n]
    have : (ins 0 k).testBit n = decide (k = n) := by rw [ins_testBit]; simp
    rw [this]
    by_cases h1 : k = n
    · subst h1; simp
    · by_cases h2 : k < n
      · simp [h1, h2, show k < n + 1 by omega]
      · simp [h1, h2, show ¬ k < n + 1 by omega]
theorem grt (j : Nat) : addB (j + 1) 0 j = true ∧ addX (j + 1) 0 j = ins 0 j ∧ addB (j + 1) (ins 0 j) ((j + 1 : Nat) : Int) = false ∧ addX (j + 1) (ins 0 j) ((j + 1 : Nat) : Int) = ins 0 j ∧ cntX (j + 1) (ins 0 j) = 1 := by
  have m1 : mayB (j + 1) (j : Int) = true := by unfold mayB; rw [decide_eq_true_iff]; omega
  have m2 : mayB (j + 1) ((j + 1 : Nat) : Int) = false := by unfold mayB; rw [decide_eq_false_iff_not]; omega
  refine ⟨?_, ?_, ?_, ?_, ?_⟩
  · unfold addB; rw [m1]; simp [hasB]
  · unfold addX; rw [m1]; simp
  · unfold addB; rw [m2]; rfl
  · unfold addX; rw [m2]; simp
  · rw [cnt_ins0]; simp
theorem grt2 (n j : Nat) (i k : Int) (h : n = j + 1) (hi : i = (j : Int)) (hk : k = ((j + 1 : Nat) : Int)) : ∃ X, addB n 0 i = true ∧ addX n 0 i = X ∧ addB n X k = false ∧ addX n X k = X ∧ (cntX n X : Int) = 1 := by
  subst h hi hk
  obtain ⟨a, b, c, d, e⟩ := grt j
  exact ⟨ins 0 j, a, b, c, d, by rw [e]; rfl⟩
theorem Fx.cellsS {S : Nat → Prop} {w w1 : World} (h : Fx S w w1) (b : Nat) (hn : ¬ S b) : b < w.heap.size → ∀ o, w1.cell? ⟨b, o, none⟩ = w.cell? ⟨b, o, none⟩ ∧ w1.frozen? ⟨b, o, none⟩ = w.frozen? ⟨b, o, none⟩ :=
  fun hb o => ⟨h.cell (a := ⟨b, o, none⟩) hb hn, h.frozen (a := ⟨b, o, none⟩) hb hn⟩
/-- behind the copy -/
def P10 (wr : World) (ro : Option Addr) (rcap N X : Nat) (s11 s12 : Value) (wx : World) : Prop :=
  ∃ c A, s11 = .pointer (some ⟨c, 0, none⟩) ∧ s12 = .pointer (some ⟨A, 0, none⟩) ∧ Fx No wr wx ∧ SetIn wx (Up wr) c N X ∧ wx.cell? ⟨A, 0, none⟩ = some (.slice ro N rcap) ∧ wr.heap.size ≤ A
/-- behind the act -/
def P11 (wc : World) (g0 g1 b N Y A9 : Nat) (s13 s14 : Value) (wx : World) : Prop :=
  ∃ A yo yc, s13 = .pointer (some ⟨A, 0, none⟩) ∧ s14 = .bool true ∧ Fx (Iv g0 g1) wc wx ∧ SetIn wx (Iv g0 g1) b N Y ∧ wx.cell? ⟨A, 0, none⟩ = some (.slice yo N yc) ∧ A ≠ A9 ∧ IsR wx (fun k => g1 ≤ k ∧ k ≠ A9) (.slice yo N yc) N Y
#print axioms cnt_ins0
end Go.Proofs.YthbfpcheljaeaaaDoor
