/- intern: the numbers, in an order of their names (names that are numbers). -/
import Derived.Test.YtpegloapdkfgiaaNE
import Derived.Test.YtpegloapdkfgiaaNSort
import Derived.Deep.QuietTactic
import Derived.BigQuiet
namespace Go.Proofs.Ytpegloapdkfgiaa
open Go.RowKit Go.Sort Go.Shelf Go.Lib
set_option linter.unusedVariables false

/-- how two numbers compare -/
def cmpU (x y : Int) : Int := if x < y then -1 else if y < x then 1 else 0
theorem isNaN_any (x : Int) (w : World) : Calls Try.prog 46 #[.int .u64 x] w fun e w' => e = .returned (.bool false) ∧ w = w' := by
  go_enter Try.func46, Try.ntmps46
  go_wp2
  go_ret
  exact ⟨rfl, rfl⟩
theorem compareU_any (x y : Int) (w : World) : Calls Try.prog 36 #[.int .u64 x, .int .u64 y] w fun e w' => e = .returned (.int .i64 (cmpU x y)) ∧ w' = w := by
  have H1 := Lib.hid (isNaN_any x w)
  have H2 := Lib.hid (isNaN_any y w)
  have HC : Hid (cmpU x y = if x < y then -1 else if y < x then 1 else 0) := Lib.hid rfl
  by_cases h1 : x < y
  · have d1 : decide (x < y) = true := decide_eq_true h1
    rw [HC.out, if_pos h1]
    go_enter Try.func36, Try.ntmps36
    go_wp2_with fail
    refine H1.out.mono ?_
    rintro e w1 ⟨rfl, rfl⟩
    go_wp2_with fail
    refine H2.out.mono ?_
    rintro e w1 ⟨rfl, rfl⟩
    go_wp2
    go_ret
    exact ⟨rfl, rfl⟩
  · have d1 : decide (x < y) = false := decide_eq_false h1
    rw [HC.out, if_neg h1]
    by_cases h2 : y < x
    · have d2 : decide (y < x) = true := decide_eq_true h2
      rw [if_pos h2]
      go_enter Try.func36, Try.ntmps36
      go_wp2_with fail
      refine H1.out.mono ?_
      rintro e w1 ⟨rfl, rfl⟩
      go_wp2_with fail
      refine H2.out.mono ?_
      rintro e w1 ⟨rfl, rfl⟩
      go_wp2
      go_ret
      exact ⟨rfl, rfl⟩
    · have d2 : decide (y < x) = false := decide_eq_false h2
      rw [if_neg h2]
      go_enter Try.func36, Try.ntmps36
      go_wp2_with fail
      refine H1.out.mono ?_
      rintro e w1 ⟨rfl, rfl⟩
      go_wp2_with fail
      refine H2.out.mono ?_
      rintro e w1 ⟨rfl, rfl⟩
      go_wp2
      go_ret
      exact ⟨rfl, rfl⟩
/-- the closure that compares two numbers' names -/
theorem closU_any {W : World} {bb cb b : Nat} {nao : Option Addr} {n ncap x y : Nat} {a c : Int} (h1 : W.cell? ⟨bb, 0, none⟩ = some (.func (.func 36) #[] #[])) (h2 : W.cell? ⟨cb, 0, none⟩ = some (.pointer (some ⟨b, 0, none⟩)))
    (h3 : W.cell? ⟨b, 1, none⟩ = some (.slice nao n ncap)) (hx : x < n) (hy : y < n) (hxc : ∃ g o, nao = some ⟨g, o, none⟩ ∧ W.cell? ⟨g, o + x, none⟩ = some (.int .u64 a) ∧ W.cell? ⟨g, o + y, none⟩ = some (.int .u64 c)) :
    Calls Try.prog 45 #[.int .i64 (x : Nat), .int .i64 (y : Nat), .pointer (some ⟨bb, 0, none⟩), .pointer (some ⟨cb, 0, none⟩)] W fun e w' => e = .returned (.int .i64 (cmpU a c)) ∧ ∃ q, w' = W.drewN q := by
  obtain ⟨g, o, rfl, h4, h5⟩ := hxc
  have x0 : (0 : Int) ≤ (x : Int) := by omega
  have x1 : (x : Int) < (n : Int) := by omega
  have y0 : (0 : Int) ≤ (y : Int) := by omega
  have y1 : (y : Int) < (n : Int) := by omega
  have K1 : Hid (∀ W, Calls Try.prog 36 #[.int .u64 a, .int .u64 c] W fun e w' => e = .returned (.int .i64 (cmpU a c)) ∧ w' = W) := Lib.hid fun W => compareU_any a c W
  go_enter Try.func45, Try.ntmps45
  go_wp2
  go_quiet ((go_at_call 36; exact Calls.quiet_of_same (K1.out _)))
  go_wp2
  go_ret
  exact ⟨rfl, _, rfl⟩
#print axioms closU_any
end Go.Proofs.Ytpegloapdkfgiaa
