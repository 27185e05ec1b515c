/- The law InternPlays. -/
import Derived.Test.YtpegloapdkfgiaaNM
namespace Go.Proofs.Ytpegloapdkfgiaa
open Go.RowKit
set_option linter.unusedVariables false

set_option maxRecDepth 100000 in
set_option maxHeartbeats 2000000 in
theorem same_any {w : World} {D E : Nat → Prop} {v u : Value} {ks : List Int} (h : NumV w D v ks) (h' : PaV w E u (up ks)) : Calls Try.prog 19 #[v, u] w fun e w' => e = .returned (.bool true) ∧ Fx No w w' := by
  obtain ⟨ao, cap, rfl, _, hcm, hc⟩ := NumV.facts h
  obtain ⟨bo, bcap, hu, _, hbm, hc'⟩ := PaV.facts h'
  rw [up_length] at hu hc'
  subst hu
  have HC := Lib.hid hc
  have HC' := Lib.hid hc'
  clear h h' hc hc'
  have hnq : ((ks.length : Int) != (ks.length : Int)) = false := by simp
  go_enter Try.func19, Try.ntmps19
  go_wp2
  go_loopw [5] (fun kk ws => ∃ k : Nat, kk = .int .i64 k ∧ k ≤ ks.length ∧ Fx No w ws) (fun kk _ => ks.length - (intOf kk).toNat)
  case atStart => exact ⟨0, rfl, by omega, Fx.refl _ _⟩
  case round =>
    obtain ⟨k, rfl, hk, hf⟩ := hrel
    have HF := Lib.hid hf
    clear hf
    by_cases hkl : k < ks.length
    · have d1 : decide ((k : Int) < (ks.length : Int)) = true := decide_eq_true (by omega)
      have d1' : decide (k < ks.length) = true := decide_eq_true hkl
      have k0 : (0 : Int) ≤ (k : Int) := by omega
      have k1 : (k : Int) < (ks.length : Int) := by omega
      obtain ⟨g, o, rfl, _, hca⟩ := HC.out k hkl
      obtain ⟨g2, o2, rfl, _, hcb, hcc⟩ := HC'.out k hkl
      rw [gp_up hkl] at hcb hcc
      have hca' := HF.out.cell' hca (fun h => h)
      have hcb' := HF.out.cell' hcb (fun h => h)
      have hcc' := HF.out.cell' hcc (fun h => h)
      clear hca hcb hcc
      obtain ⟨x, hx⟩ : ∃ x, x = gi ks k := ⟨_, rfl⟩
      rw [← hx] at hca' hcb'
      simp only at hcb' hcc'
      clear hx
      have hxx : (x != x) = false := by simp
      go_wp2
      go_quiet (fail)
      go_wp2
      go_roundw
      case rel => exact ⟨k + 1, by first | rfl | go_num, by omega, HF.out.drewN _⟩
      case measure => simp [intOf]; omega
    · obtain rfl : k = ks.length := by omega
      have d1 : decide ((ks.length : Int) < (ks.length : Int)) = false := decide_eq_false (by omega)
      have d1' : decide (ks.length < ks.length) = false := decide_eq_false (by omega)
      go_wp2
      go_ret
      exact ⟨rfl, HF.out⟩
/-- the state of InternPlays: a table, the document's row -/
structure PlayS (w ws : World) (tb : Nat) (L : List Int) (rv : Value) (Dt Er : Nat → Prop) : Prop where
  fx : Fx No w ws
  t : TabU ws Dt tb L
  tl : ∀ j, Dt j → w.heap.size ≤ j
  r : PaV ws Er rv (up L)
  el : ∀ j, Er j → w.heap.size ≤ j ∧ j < ws.heap.size ∧ ¬ Dt j
theorem PlayS.no {w ws w' : World} {tb : Nat} {L : List Int} {rv : Value} {Dt Er : Nat → Prop} (h : PlayS w ws tb L rv Dt Er) (hf : Fx No ws w') : PlayS w w' tb L rv Dt Er :=
  ⟨h.fx.trans hf, h.t.no hf, h.tl, NamV.no h.r hf, fun j e => ⟨(h.el j e).1, Nat.lt_of_lt_of_le (h.el j e).2.1 hf.size, (h.el j e).2.2⟩⟩
theorem cell_put {w : World} {p q : Addr} {x : Value} {y : Value} (h : w.cell? q = some y) : ∃ y', (w.setCell p x).cell? q = some y' := by
  by_cases e : p = q
  · subst e; exact ⟨x, World.cell?_setCell_same _ _ _ h⟩
  · exact ⟨y, by rw [World.cell?_setCell_other _ _ _ _ e]; exact h⟩
/-- cells that may be written over -/
def Wr (w : World) (ao : Option Addr) (n base : Nat) : Prop := ∀ p, p < n → ∃ g o y, ao = some ⟨g, o, none⟩ ∧ base ≤ g ∧ w.cell? ⟨g, o + p, none⟩ = some y ∧ w.frozen? ⟨g, o + p, none⟩ = false
theorem Wr.put {w : World} {ao : Option Addr} {n base : Nat} (h : Wr w ao n base) (a : Addr) (x : Value) : Wr (w.setCell a x) ao n base := fun p hp => by
  obtain ⟨g, o, y, h1, h2, h3, h4⟩ := h p hp
  obtain ⟨y', h5⟩ := cell_put (p := a) (x := x) h3
  exact ⟨g, o, y', h1, h2, h5, by simpa using h4⟩
theorem Wr.no {w w' : World} {ao : Option Addr} {n base : Nat} (h : Wr w ao n base) (hf : Fx No w w') : Wr w' ao n base := fun p hp => by
  obtain ⟨g, o, y, h1, h2, h3, h4⟩ := h p hp
  have := hf.cellF h3 h4 (fun h => h)
  exact ⟨g, o, y, h1, h2, this.1, this.2⟩
theorem Wr.own {w : World} {base : Nat} {t : TypeId} {ao : Option Addr} {n cap : Nat} {cs : List Value} (h : w.ownsRow base t 1 (.slice ao n cap) n cs) (hl : cs.length = n) : Wr w ao n base := fun p hp => by
  have h' := h
  obtain ⟨g, c, e, h1, h2⟩ := ownsRow_pos h (by omega)
  simp only [Value.slice.injEq] at e
  obtain ⟨rfl, _, rfl⟩ := e
  have hc := h.cells (g := g) rfl p _ (List.getElem?_eq_getElem (by omega : p < cs.length))
  rw [Addr.add_lit] at hc
  exact ⟨g, 0, _, rfl, h1, hc, by have := World.ownsRow.frozenAt h (0 + p); exact this⟩
theorem Wr.row {w w' : World} {ao : Option Addr} {n cap : Nat} {R : List Nat} (h : RowR w w' (.slice ao n cap) R) (hl : R.length = n) : Wr w' ao n w.heap.size := fun p hp => by
  obtain ⟨ao', cap', e, _, hc⟩ := IntsV.facts h.1
  simp only [Value.slice.injEq] at e
  obtain ⟨rfl, _, rfl⟩ := e
  obtain ⟨g, o, rfl, h2, h3⟩ := hc p (by rw [natsI_length]; omega)
  exact ⟨g, o, _, rfl, h2, h3, (h.2 g rfl).2 _⟩
theorem up_nodup {L : List Int} (h : L.Nodup) : (up L).Nodup := by
  unfold up List.Nodup
  rw [List.pairwise_map]
  exact h.imp fun hne e => hne (by simpa using e)
#print axioms same_any
#print axioms Wr.row
end Go.Proofs.Ytpegloapdkfgiaa
