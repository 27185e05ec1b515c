/- Contracts of package bits: Remove, Of, Within, Same, Copy. -/
import Derived.Test.YtfpggeiphbekoaaDoorBitsB
namespace Go.Proofs.YtfpggeiphbekoaaDoor
open Go.RowKit
set_option linter.unusedVariables false

/-- X, having been asked to take i out -/
def remX (X : Nat) (i : Int) : Nat := if hasB X i then del X i.toNat else X
theorem remX_lt {n X : Nat} (h : X < 2 ^ n) (i : Int) : remX X i < 2 ^ n := by
  unfold remX; split
  · exact del_lt h
  · exact h

/-- all of l taken in -/
def ofX (n : Nat) (l : List Int) : Nat := l.foldl (addX n) 0
theorem ofX_take {n : Nat} {l : List Int} {k : Nat} (h : k < l.length) : ofX n (l.take (k + 1)) = addX n (ofX n (l.take k)) (gi l k) := by
  unfold ofX; rw [take_gi h, List.foldl_append]; rfl
theorem ofX_lt (n : Nat) (l : List Int) : ofX n l < 2 ^ n := by
  unfold ofX
  have : ∀ (l : List Int) (X : Nat), X < 2 ^ n → l.foldl (addX n) X < 2 ^ n := by
    intro l
    induction l with
    | nil => exact fun X h => h
    | cons i l ih => exact fun X h => ih _ (addX_lt h i)
  exact this l 0 (Nat.two_pow_pos n)

theorem of_any {w : World} {D : Nat → Prop} {v : Value} {l : List Int} (n : Int) (h : IntsV w D v l) :
    Calls Tryd.prog 41 #[.int .i64 n, v] w fun e w' => ∃ b, e = .returned (.pointer (some ⟨b, 0, none⟩)) ∧ Fx No w w' ∧ SetIn w' (Iv w.heap.size w'.heap.size) b (newN n) (ofX (newN n) l) := by
  obtain ⟨ao, cap, rfl, hlen, hc⟩ := h.facts
  have HC := Lib.hid hc
  clear hc h
  go_enter Tryd.func41, Tryd.ntmps41
  go_wp2_with fail
  refine (new_any n w).mono ?_
  rintro e w1 ⟨b, rfl, hf1, hs1⟩
  have HF1 := Lib.hid hf1
  have HS1 := Lib.hid hs1
  clear hf1 hs1
  go_wp2
  go_loopw [7, 12] (fun _ i wr => ∃ k : Nat, k ≤ l.length ∧ i = .int .i64 k ∧ Fx No w wr ∧ w1.heap.size ≤ wr.heap.size ∧ SetIn wr (Iv w.heap.size w1.heap.size) b (newN n) (ofX (newN n) (l.take k))) (fun _ i _ => l.length - (intOf i).toNat)
  case atStart => exact ⟨0, Nat.zero_le _, rfl, HF1.out, Nat.le_refl _, HS1.out⟩
  case round =>
    obtain ⟨k, hk, rfl, hf, hsz, hs⟩ := hrel
    have HF := Lib.hid hf
    have HS := Lib.hid hs
    clear hf hs
    by_cases hlt : k < l.length
    · obtain ⟨bl, o, rfl, _, hcell⟩ := HC.out k hlt
      have hcell' := HF.out.cell' hcell (fun h => h)
      clear hcell
      go_wp2_with fail
      refine (add_any HS.out.p _).mono ?_
      rintro e w2 ⟨rfl, hf2, hs2⟩
      have hs3 : SetIn w2 (Iv w.heap.size w1.heap.size) b (newN n) (ofX (newN n) (l.take (k + 1))) := by
        rw [ofX_take hlt]
        rcases hs2 with ⟨h, _⟩ | ⟨b', h, h'⟩
        · cases h
        · obtain rfl : b = b' := by simpa using h
          exact h'
      have HS3 := Lib.hid hs3
      have HF3 := Lib.hid (HF.out.trans' hf2 (fun j hj hlt => by unfold Iv at hj; omega))
      have hsz2 := hf2.size
      clear hs2 hs3 hf2
      go_wp2
      go_roundw
      case rel => exact ⟨k + 1, by omega, by go_num, HF3.out, by omega, HS3.out⟩
      case measure => simp [intOf]; omega
    · obtain rfl : k = l.length := by omega
      go_wp2
      go_ret
      exact ⟨b, rfl, HF.out, by have := HS.out; rw [List.take_length] at this; exact this.mono fun j ⟨h1, h2⟩ => ⟨h1, by omega⟩⟩

/-- are both the same? -/
def sameB (n X m Y : Nat) : Bool := n == m && (withinB X Y && withinB Y X)
theorem sameB_iff (n X m Y : Nat) : sameB n X m Y = true ↔ n = m ∧ X = Y := by
  unfold sameB
  simp only [Bool.and_eq_true, beq_iff_eq, withinB_iff]
  constructor
  · rintro ⟨rfl, h1, h2⟩
    refine ⟨rfl, Nat.eq_of_testBit_eq fun i => ?_⟩
    have a := h1 i
    have b := h2 i
    cases hx : X.testBit i <;> cases hy : Y.testBit i <;> simp_all
  · rintro ⟨rfl, rfl⟩
    exact ⟨rfl, fun _ h => h, fun _ h => h⟩
#print axioms of_any
end Go.Proofs.YtfpggeiphbekoaaDoor
