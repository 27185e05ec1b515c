/- Contracts: (*Walk).Next where it has not begun, or there is no order, or no walk; Any; the law's ahead. -/
import Derived.Test.YtddpdjbgidmdlaaWalkE
namespace Go.Proofs.Ytddpdjbgidmdlaa
open Go.RowKit
set_option linter.unusedVariables false

theorem cloneI_gen {w : World} {D : Nat → Prop} {l : List Int} {v : Value} (h : IntsV w D v l) (hm : l.length ≤ 1000000) :
    Calls Try.prog 34 #[v] w fun e w' => ∃ v', e = .returned v' ∧ Fx No w w' ∧ OwnI w' w.heap.size v' l := by
  have h' := h
  obtain ⟨ao, cap, rfl, h2, h3, h4, h5, h6⟩ := h
  cases ao with
  | some a => exact cloneI_any h' hm
  | none =>
    obtain rfl := h5 rfl
    have h0 : l = [] := List.eq_nil_of_length_eq_zero (by omega)
    subst h0
    have heq := fun w : World => Lib.run_eql_slice_nil (P := Try.prog) w 29 3 none 0 0 0 0 Try.underlying29
    clear h' h2 h3 h4 h5 h6
    go_enter Try.func34, Try.ntmps34
    go_wp2
    go_ret
    exact ⟨_, rfl, Fx.refl _ _, OwnI.nil _ _⟩
theorem WalkP.begin {w : World} {k : WK} {v : Value} {row : List Int} {any begun : Bool} {A : Nat → Int} (h : WalkP w k v row any begun A) :
    Fx (Sx k v) w (w.setCell ⟨k.wk, 4, none⟩ (.bool true)) ∧ WalkP (w.setCell ⟨k.wk, 4, none⟩ (.bool true)) k v row any true A := by
  have hf : Fx (fun b => b = k.wk) w (w.setCell ⟨k.wk, 4, none⟩ (.bool true)) := Fx.put _ _ _ _
  have hz := hf.size
  refine ⟨hf.mono fun b _ e => .inl e, ?_⟩
  exact ⟨h.rel.keep hf (fun b hb e => h.dwk (by rw [← e]; exact hb)), by rw [cell_other_off (by omega)]; exact h.c0, ⟨by rw [cell_other_off (by omega)]; exact h.c1.1, by simpa using h.c1.2⟩, by rw [cell_other_off (by omega)]; exact h.c2,
    ⟨by rw [cell_other_off (by omega)]; exact h.c3.1, by simpa using h.c3.2⟩, ⟨World.cell?_setCell_same _ _ _ h.c4.1, by simpa using h.c4.2⟩, OwnI.fx h.own hf (fun b hb e => (h.sep b hb).1 e), h.ah.fx hf (fun e => h.ne1 e.symm), h.ins.fx hf (fun e => h.ne2 e.symm), h.nd, h.rg, h.dwk, h.diB, h.ne1, h.ne2, h.ne3, h.sep,
    fun b hb => Nat.lt_of_lt_of_le (h.dlt b hb) hz, ⟨Nat.lt_of_lt_of_le h.blt.1 hz, Nat.lt_of_lt_of_le h.blt.2.1 hz, Nat.lt_of_lt_of_le h.blt.2.2 hz⟩⟩
theorem WalkP.setAny {w : World} {k : WK} {v : Value} {row : List Int} {any begun : Bool} {A : Nat → Int} (h : WalkP w k v row any begun A) (b : Bool) :
    Fx (Sx k v) w (w.setCell ⟨k.wk, 3, none⟩ (.bool b)) ∧ WalkP (w.setCell ⟨k.wk, 3, none⟩ (.bool b)) k v row b begun A := by
  have hf : Fx (fun b => b = k.wk) w (w.setCell ⟨k.wk, 3, none⟩ (.bool b)) := Fx.put _ _ _ _
  have hz := hf.size
  refine ⟨hf.mono fun b _ e => .inl e, ?_⟩
  exact ⟨h.rel.keep hf (fun b hb e => h.dwk (by rw [← e]; exact hb)), by rw [cell_other_off (by omega)]; exact h.c0, ⟨by rw [cell_other_off (by omega)]; exact h.c1.1, by simpa using h.c1.2⟩, by rw [cell_other_off (by omega)]; exact h.c2,
    ⟨World.cell?_setCell_same _ _ _ h.c3.1, by simpa using h.c3.2⟩, ⟨by rw [cell_other_off (by omega)]; exact h.c4.1, by simpa using h.c4.2⟩, OwnI.fx h.own hf (fun b hb e => (h.sep b hb).1 e), h.ah.fx hf (fun e => h.ne1 e.symm), h.ins.fx hf (fun e => h.ne2 e.symm), h.nd, h.rg, h.dwk, h.diB, h.ne1, h.ne2, h.ne3, h.sep,
    fun b hb => Nat.lt_of_lt_of_le (h.dlt b hb) hz, ⟨Nat.lt_of_lt_of_le h.blt.1 hz, Nat.lt_of_lt_of_le h.blt.2.1 hz, Nat.lt_of_lt_of_le h.blt.2.2 hz⟩⟩
theorem any_any {w : World} {k : WK} {v : Value} {row : List Int} {any begun : Bool} {A : Nat → Int} (h : WalkP w k v row any begun A) :
    Calls Try.prog 13 #[.pointer (some ⟨k.wk, 0, none⟩)] w fun e w' => e = .returned (.bool any) ∧ w = w' := by
  have c3 := h.c3.1
  clear h
  go_enter Try.func13, Try.ntmps13
  go_wp2
  go_ret
  exact ⟨rfl, rfl⟩
theorem any_nil (w : World) : Calls Try.prog 13 #[.pointer none] w fun e w' => e = .returned (.bool false) ∧ w = w' := by
  go_enter Try.func13, Try.ntmps13
  go_wp2
  go_ret
  exact ⟨rfl, rfl⟩
theorem next_nil (w : World) : Calls Try.prog 11 #[.pointer none] w fun e w' => e = .returned (.tuple #[.slice none 0 0, .bool false]) ∧ Fx No w w' := by
  go_enter Try.func11, Try.ntmps11
  go_wp2
  exact bodyPost_ret (v := .tuple #[.slice none 0 0, .bool false]) (by simp [results, Try.results11, go_sem]) rfl ⟨rfl, (((Fx.refl No w).alloc _).alloc _).alloc _⟩
theorem next_no {w : World} {k : WK} {v : Value} {row : List Int} {begun : Bool} {A : Nat → Int} (h : WalkP w k v row false begun A) :
    Calls Try.prog 11 #[.pointer (some ⟨k.wk, 0, none⟩)] w fun e w' => e = .returned (.tuple #[.slice none 0 0, .bool false]) ∧ Fx No w w' := by
  have hf3 : Fx No w (((w.alloc (.cells #[.pointer (some ⟨k.wk, 0, none⟩)] 24)).alloc (.cells #[.slice none 0 0] 29)).alloc (.cells #[.bool false] 4)) := (((Fx.refl No w).alloc _).alloc _).alloc _
  have q3 := (h.no hf3).c3.1
  clear h hf3
  go_enter Try.func11, Try.ntmps11
  go_wp2
  exact bodyPost_ret (v := .tuple #[.slice none 0 0, .bool false]) (by simp [results, Try.results11, go_sem]) rfl ⟨rfl, (((Fx.refl No w).alloc _).alloc _).alloc _⟩
set_option maxHeartbeats 2000000 in
theorem next_first {w : World} {k : WK} {v : Value} {row : List Int} (h : WalkS w k v row true false) :
    Calls Try.prog 11 #[.pointer (some ⟨k.wk, 0, none⟩)] w fun e w' => ∃ u, e = .returned (.tuple #[u, .bool true]) ∧ Fx (Sx k v) w w' ∧ WalkS w' k v row true true ∧ OwnI w' 0 u row ∧ (∀ g, u.ownBlock = some g → w.heap.size ≤ g ∧ v.ownBlock ≠ some g) := by
  have H := Lib.hid h
  have hle := h.le
  have hnl := h.rel.nle
  have hlt := h.lt
  have HLt := Lib.hid hlt
  have hf3 : Fx No w (((w.alloc (.cells #[.pointer (some ⟨k.wk, 0, none⟩)] 24)).alloc (.cells #[.slice none 0 0] 29)).alloc (.cells #[.bool false] 4)) := (((Fx.refl No w).alloc _).alloc _).alloc _
  have hwk := h.blt.1
  obtain ⟨ao, rc, hv, _⟩ := h.own.ints.facts
  have c1 := h.c1.1
  rw [hv] at c1
  have h3 := h.no hf3
  have q3 := h3.c3.1
  obtain ⟨q4, q5⟩ := h3.c4
  obtain ⟨hb1, hb2⟩ := h3.begin
  have HB1 := Lib.hid hb1
  have HB2 := Lib.hid hb2
  have HV := Lib.hid hv
  have q6 := hb2.c1.1
  rw [hv] at q6
  clear h hf3 h3 hb1 hb2 hv hlt
  go_enter Try.func11, Try.ntmps11
  go_wp2_with fail
  obtain ⟨W4, hW4⟩ : ∃ W4, (((w.alloc (.cells #[.pointer (some ⟨k.wk, 0, none⟩)] 24)).alloc (.cells #[.slice none 0 0] 29)).alloc (.cells #[.bool false] 4)).setCell ⟨k.wk, 4, none⟩ (.bool true) = W4 := ⟨_, rfl⟩
  have hs4 : W4.heap.size = w.heap.size + 3 := by rw [← hW4]; simp
  have e1 : W4.cell? ⟨w.heap.size + 1, 0, none⟩ = some (.slice none 0 0) ∧ W4.frozen? ⟨w.heap.size + 1, 0, none⟩ = false := by
    rw [← hW4]
    have hne : ¬ k.wk = w.heap.size + 1 := by omega
    clear hW4 hs4 HB1 HB2 q3 q4 q5 q6
    constructor <;> go_simp
  have e2 : W4.cell? ⟨w.heap.size + 2, 0, none⟩ = some (.bool false) ∧ W4.frozen? ⟨w.heap.size + 2, 0, none⟩ = false := by
    rw [← hW4]
    have hne : ¬ k.wk = w.heap.size + 2 := by omega
    clear hW4 hs4 HB1 HB2 q3 q4 q5 q6
    constructor <;> go_simp
  have HB1 : Hid (Fx (Sx k v) w W4) := by rw [← hW4]; exact (((((Fx.refl _ w).alloc _).alloc _).alloc _).trans HB1.out)
  have HB2 : Hid (WalkS W4 k v row true true) := by rw [← hW4]; exact HB2
  rw [hW4]
  clear hW4 q3 q4 q5 q6
  refine (cloneI_gen (l := row) (D := fun _ => True) (by have := HB2.out.own.ints; rw [HV.out] at this; exact this.mono fun _ _ => trivial) (by omega)).mono ?_
  rintro e w5 ⟨u, rfl, hf5, ho5⟩
  obtain ⟨uo, uc, rfl, _⟩ := ho5.ints.facts
  have e1 := hf5.cellF e1.1 e1.2 (fun h => h)
  have e2 := hf5.cellF e2.1 e2.2 (fun h => h)
  obtain ⟨e1a, e1b⟩ := e1
  obtain ⟨e2a, e2b⟩ := e2
  have hz5 := hf5.size
  have HF5 := Lib.hid hf5
  have HO5 := Lib.hid ho5
  clear hf5 ho5
  go_wp2
  have f6 : Fx (fun b => b = w.heap.size + 1 ∨ b = w.heap.size + 2) w5 ((w5.setCell ⟨w.heap.size + 1, 0, none⟩ (.slice uo row.length uc)).setCell ⟨w.heap.size + 2, 0, none⟩ (.bool true)) := ((Fx.refl _ w5).setCell (.inr (.inl rfl)) _).setCell (.inr (.inr rfl)) _
  have r1 : ((w5.setCell ⟨w.heap.size + 1, 0, none⟩ (.slice uo row.length uc)).setCell ⟨w.heap.size + 2, 0, none⟩ (.bool true)).cell? ⟨w.heap.size + 1, 0, none⟩ = some (.slice uo row.length uc) := by
    rw [cell_other_block (by omega)]; exact World.cell?_setCell_same _ _ _ e1a
  have r2 : ((w5.setCell ⟨w.heap.size + 1, 0, none⟩ (.slice uo row.length uc)).setCell ⟨w.heap.size + 2, 0, none⟩ (.bool true)).cell? ⟨w.heap.size + 2, 0, none⟩ = some (.bool true) :=
    World.cell?_setCell_same _ _ _ (by rw [cell_other_block (by omega)]; exact e2a)
  have hlb := HLt.out
  refine bodyPost_ret (v := .tuple #[.slice uo row.length uc, .bool true]) (by simp [results, Try.results11, go_sem, r1, r2]) rfl ⟨_, rfl, (HB1.out.trans HF5.out.no).trans' f6 fun j hj hl => by omega, (HB2.out.no HF5.out).fx f6 fun b hb e => ?_, OwnI.fx (ownsRow_base HO5.out (Nat.zero_le _)) f6 fun b hb e => ?_, fun g e => ?_⟩
  · have := hlb b hb; omega
  · have := (OwnI.lt HO5.out hb).1; omega
  · have := (OwnI.lt HO5.out e).1
    refine ⟨by omega, fun e2 => ?_⟩
    have := hlb g (.inl (.inr (.inr (.inr e2)))); omega
#print axioms next_first
end Go.Proofs.Ytddpdjbgidmdlaa
