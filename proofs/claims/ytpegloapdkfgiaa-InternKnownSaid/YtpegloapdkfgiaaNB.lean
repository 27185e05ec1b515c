/- intern: how names lie, numbers and pairs; a name is found, a number's name is told. -/
import Derived.Test.YtpegloapdkfgiaaNA
import Derived.Test.YtpegloapdkfgiaaRegG
import Derived.Test.YtpegloapdkfgiaaRegH
import Derived.Test.YtpegloapdkfgiaaRegK
import Derived.Test.YtpegloapdkfgiaaStepApp
import Derived.KernelRfl
namespace Go.Proofs.Ytpegloapdkfgiaa
open Go.RowKit
open Go.Maps (Keyed)
set_option linter.unusedVariables false

theorem info_parts {T : TypeId} {z : Value} {s b : Nat} (h : (Try.prog.info? T).map (fun i => (i.zero, i.size, i.bytes)) = some (some z, s, b)) : ∃ i, Try.prog.info? T = some i ∧ i.zero = some z ∧ i.size = s ∧ i.bytes = b := by
  cases hi : Try.prog.info? T with
  | none => rw [hi] at h; cases h
  | some i => rw [hi] at h; simp at h; exact ⟨i, rfl, h.1, h.2.1, h.2.2⟩
theorem info_int' : (Try.prog.info? 3).map (fun i => (i.zero, i.size, i.bytes)) = some (some (.int .i64 0), 1, 8) := by kernel_rfl
theorem info_u64 : (Try.prog.info? 23).map (fun i => (i.zero, i.size, i.bytes)) = some (some (.int .u64 0), 1, 8) := by kernel_rfl
theorem info_pair : (Try.prog.info? 60).map (fun i => (i.zero, i.size, i.bytes)) = some (some (.agg #[.int .u64 0, .int .u64 0]), 2, 16) := by kernel_rfl
theorem wp_hold {P : Program} {c : Code} {Q : Exit → Act → World → Prop} {a : Act} {W : World} (R : World → Prop) (hR : R W) (h : ∀ W', R W' → c.wp P Q a W') : c.wp P Q a W := h W hR
def OkU (x : Int) : Prop := 0 ≤ x ∧ x < 18446744073709551616
/-- names that are numbers -/
def kU : NameK Int where
  kt := 23
  mt := 26
  val := fun x => .int .u64 x
  cells := fun x => [.int .u64 x]
  s := 1
  key := fun x => .int .u64 x
  ok := OkU
theorem wfU {x : Int} (h : OkU x) : (Lit.int .u64 x).wf = true := by
  unfold OkU at h
  simp [Lit.wf, IntKind.min, IntKind.max, IntKind.bits, IntKind.signed]
  omega
theorem fitU : kU.Fit where
  keyed := Maps.int_keyed Try.underlying23
  und := Try.underlying26
  keyOf := fun x h => Maps.keyOf_int_mk Try.underlying23 (wfU h)
  inj := fun a b _ _ h => by simpa [kU] using h
  len := fun _ => rfl
  pos := by decide
  one := fun x u hu => by simp [kU] at hu; rw [hu]; rfl
def pkey (x : Int × Int) : Lit := .string (keyBytes [.int .u64 x.1, .int .u64 x.2])
/-- names that are pairs -/
def kP : NameK (Int × Int) where
  kt := 60
  mt := 61
  val := fun x => .agg #[.int .u64 x.1, .int .u64 x.2]
  cells := fun x => [.int .u64 x.1, .int .u64 x.2]
  s := 2
  key := pkey
  ok := fun x => OkU x.1 ∧ OkU x.2
theorem laidOutP : laidOutB Try.prog = true := by kernel_rfl
theorem rowP : (60 : TypeId) < Try.prog.types.size := of_decide_eq_true (by kernel_rfl)
theorem law_pair : Keyed Try.prog 60 := Keyed.of_law (deep_law_laid laidOutP (m := 2) (by omega) rowP (by kernel_rfl) (by kernel_rfl))
theorem typesPosP : ∃ m, Try.prog.types.size = m + 1 := by
  have h := rowP
  revert h
  generalize Try.prog.types.size = s
  intro h
  cases s with
  | zero => exact absurd h (Nat.not_lt_zero _)
  | succ m => exact ⟨m, rfl⟩
theorem key_pair {x : Int × Int} (h : kP.ok x) : keyOf Try.prog 60 (.agg #[.int .u64 x.1, .int .u64 x.2]) = some (pkey x) := by
  obtain ⟨m, hm⟩ := typesPosP
  obtain ⟨j, hj, _, hjs, _⟩ := info_parts info_u64
  have hc : Try.prog.cellsOf 23 = 1 := by simp [Program.cellsOf, hj, hjs]
  obtain ⟨ii, hi, _, hs, _⟩ := info_parts info_pair
  have hce : Try.prog.cellsOf 60 = 2 := by simp [Program.cellsOf, hi, hs]
  have hk : Try.prog.keyType 60 = true := by kernel_rfl
  have hv : (Value.agg #[.int .u64 x.1, .int .u64 x.2]).formed Try.prog 60 = true := by simp [Value.formed, Try.underlying60, hce]
  have hcells : (Value.agg #[.int .u64 x.1, .int .u64 x.2]).cells.toList = [.int .u64 x.1, .int .u64 x.2] := rfl
  have w1 := wfU h.1
  have w2 := wfU h.2
  unfold keyOf
  rw [Try.underlying60]
  simp only [hk, hv, Bool.and_self, if_true, hcells, hm]
  simp [Program.keyLits, Try.underlying60, Try.underlying23, hc, hce, w1, w2, pkey]
theorem fitP : kP.Fit where
  keyed := law_pair
  und := Try.underlying61
  keyOf := fun x h => key_pair h
  inj := fun a b ha hb h => by
    have h1 := key_pair ha
    rw [show pkey a = pkey b from h] at h1
    have h2 := law_pair.inj h1 (key_pair hb)
    simp at h2
    exact Prod.ext h2.1 h2.2
  len := fun _ => rfl
  pos := by decide
  one := fun x u hu => by simp [kP] at hu; rcases hu with rfl | rfl <;> rfl
theorem eqMapU (mb : Option Nat) (W : World) : (binOp .eql 26 (.map mb) (.map none)).run Try.prog W = .ok (.bool mb.isNone) W := by
  cases mb <;> kernel_rfl
theorem eqMapP (mb : Option Nat) (W : World) : (binOp .eql 61 (.map mb) (.map none)).run Try.prog W = .ok (.bool mb.isNone) W := by
  cases mb <;> kernel_rfl
#print axioms fitP
end Go.Proofs.Ytpegloapdkfgiaa
