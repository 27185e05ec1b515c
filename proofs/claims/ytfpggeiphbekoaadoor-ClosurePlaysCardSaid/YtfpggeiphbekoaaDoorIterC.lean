/- Contracts: slices.Collect of a set's iterator; (*Set).All. -/
import Derived.Test.YtfpggeiphbekoaaDoorIterB
namespace Go.Proofs.YtfpggeiphbekoaaDoor
open Go.RowKit Go.Shelf
set_option linter.unusedVariables false

theorem collect_any {w : World} {D : Nat → Prop} {p : Option Addr} {N X bi bs : Nat} {i : Int} (hi : i ≤ 9223372036854775807) (h : SetP w D p N X) (hT : TabOk w)
    (ci : w.cell? ⟨bi, 0, none⟩ = some (.int .i64 i)) (zi : w.frozen? ⟨bi, 0, none⟩ = false) (cs : w.cell? ⟨bs, 0, none⟩ = some (.pointer p)) (hne : bi ≠ bs) (hDi : ¬ D bi) (hti : bi ≠ 0) :
    Calls Tryd.prog 68 #[.func (.func 88) #[] #[.pointer (some ⟨bi, 0, none⟩), .pointer (some ⟨bs, 0, none⟩)]] w fun e w' =>
      ∃ v, e = .returned v ∧ Fx (fun k => k = bi) w w' ∧ w'.ownsRow w.heap.size 3 1 v (preX i X N).length (ints (natI (preX i X N))) := by
  have HA := Lib.hid (appendSeq_any hi h hT ci zi cs hne hDi hti)
  clear h hT ci zi cs hne hDi hti hi
  go_enter Tryd.func68, Tryd.ntmps68
  go_wp2_with fail
  refine HA.out.mono ?_
  rintro e w1 ⟨v, rfl, hf, ho⟩
  have HF := Lib.hid hf
  have HO := Lib.hid ho
  clear hf ho
  go_wp2
  go_ret
  exact ⟨v, rfl, HF.out, HO.out⟩

/-- A row of ints of the call's own. -/
def OwnI (w : World) (base : Nat) (v : Value) (l : List Int) : Prop := w.ownsRow base 3 1 v l.length (ints l)
theorem OwnI.ints {w : World} {base : Nat} {v : Value} {l : List Int} (h : OwnI w base v l) : IntsV w (Iv base w.heap.size) v l := SlV.ofOwns h

theorem all_any {w : World} {D : Nat → Prop} {p : Option Addr} {N X : Nat} (h : SetP w D p N X) (hT : TabOk w) :
    Calls Tryd.prog 48 #[.pointer p] w fun e w' => ∃ v, e = .returned v ∧ Fx No w w' ∧ OwnI w' w.heap.size v (allX N X) := by
  have H := Lib.hid h.bound
  have HT := Lib.hid hT
  have hl := hT.lt
  clear h hT
  go_enter Tryd.func48, Tryd.ntmps48
  go_wp2_with fail
  refine (from_any p 0 w).mono ?_
  rintro e w' ⟨rfl, rfl⟩
  have hf := ((Fx.refl No w).alloc (.cells #[.pointer p] 82)).alloc (.cells #[.int .i64 0] 3)
  obtain ⟨w2, hw2⟩ : ∃ w2, (w.alloc (.cells #[.pointer p] 82)).alloc (.cells #[.int .i64 0] 3) = w2 := ⟨_, rfl⟩
  have c1 : w2.cell? ⟨w.heap.size, 0, none⟩ = some (.pointer p) := by rw [← hw2]; clear hw2 hf; go_simp
  have c2 : w2.cell? ⟨w.heap.size + 1, 0, none⟩ = some (.int .i64 0) ∧ w2.frozen? ⟨w.heap.size + 1, 0, none⟩ = false := by rw [← hw2]; clear hw2 hf; constructor <;> go_simp
  have hs : w2.heap.size = w.heap.size + 2 := by rw [← hw2]; simp
  rw [hw2] at hf ⊢
  have HC := Lib.hid (collect_any (by omega) (H.out.no' hf) (HT.out.keep hf (fun h => h)) c2.1 c2.2 c1 (by omega) (by rintro ⟨_, h⟩; omega) (by omega))
  have HF := Lib.hid hf
  clear hf c1 c2 hw2
  go_wp2_with fail
  refine HC.out.mono ?_
  rintro e w3 ⟨v, rfl, hf, ho⟩
  have HF2 := Lib.hid hf
  have HO := Lib.hid ho
  clear hf ho
  go_wp2
  go_ret
  refine ⟨v, rfl, HF.out.trans' HF2.out (by rintro j rfl hj; omega), ?_⟩
  have h1 := ownsRow_base (base' := w.heap.size) HO.out (by omega)
  unfold OwnI
  rw [← preX_zero_int, List.length_map]
  exact h1
#print axioms all_any
end Go.Proofs.YtfpggeiphbekoaaDoor
