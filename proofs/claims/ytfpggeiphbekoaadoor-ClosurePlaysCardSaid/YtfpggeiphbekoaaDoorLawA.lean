/- Contracts of package bits: Join, Meet, Less. -/
import Derived.Test.YtfpggeiphbekoaaDoorBitsE
namespace Go.Proofs.YtfpggeiphbekoaaDoor
open Go.RowKit
set_option linter.unusedVariables false

theorem joinNil_any (w : World) (v : Value) : Calls Tryd.prog 42 #[.pointer none, v] w fun e w' => e = .returned (.int .i64 0) ∧ w = w' := by
  go_enter Tryd.func42, Tryd.ntmps42
  go_wp2_with fail
  refine (doesNil_any _ _ _).mono ?_
  rintro e w' ⟨rfl, rfl⟩
  go_wp2
  go_ret
  exact ⟨rfl, rfl⟩
theorem join_any {w : World} {D E : Nat → Prop} {v : Value} {b n X : Nat} {L : List (Option Addr × Nat)} (h : SetIn w D b n X) (hv : SlV w E v 1 L.length (ptrs L)) (hL : ∀ q ∈ L, itemOk w E b 0 X q)
    (hDE : ∀ k, E k → ¬ D k) (hlen : L.length ≤ 100000) :
    Calls Tryd.prog 42 #[.pointer (some ⟨b, 0, none⟩), v] w fun e w' =>
      e = .returned (.int .i64 (turnN n X (rawX 0 X (L.map (·.2)) % 2 ^ n))) ∧ Fx D w w' ∧ SetIn w' D b n (rawX 0 X (L.map (·.2)) % 2 ^ n) := by
  have H := Lib.hid (does_any 0 (by omega) h hv hL hDE hlen)
  clear h hv hL hDE
  go_enter Tryd.func42, Tryd.ntmps42
  go_wp2_with fail
  refine H.out.mono ?_
  rintro e w' ⟨rfl, hf, hs⟩
  go_wp2
  go_ret
  exact ⟨rfl, hf, hs⟩
/-- a literal slice of integers -/
theorem ints_lit (w : World) (l : List Int) (h : l.length ≤ maxLen) :
    IntsV (w.alloc (.cells (ints l).toArray 3)) (Iv w.heap.size (w.heap.size + 1)) (.slice (some ⟨w.heap.size, 0, none⟩) l.length l.length) l := by
  have h1 := SlV.bound (SlV.lit w 3 (ints l).toArray 1 l.length (by simp [ints]) h)
  obtain ⟨ao, cap, e1, e2, e3, e4, e5, e6⟩ := SlV.lit w 3 (ints l).toArray 1 l.length (by simp [ints]) h
  simp only [Value.slice.injEq] at e1
  obtain ⟨rfl, _, rfl⟩ := e1
  refine ⟨_, _, rfl, e2, e3, by simp [ints], e5, .inr ⟨w.heap.size, 0, rfl, ⟨Nat.le_refl _, Nat.lt_succ_self _⟩, fun i hi => ?_⟩⟩
  have hi' : i < l.length := by simpa [ints] using hi
  simp [ints, hi']
#print axioms join_any
end Go.Proofs.YtfpggeiphbekoaaDoor
