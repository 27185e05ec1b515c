/- What the statements' rows give to the laws' walks: a slice of integers that came in, the table. -/
import Derived.Test.YtfpggeiphbekoaaDoorLwB
import Derived.Test.YtfpggeiphbekoaaDoorCards
import Derived.Test.YtfpggeiphbekoaaDoorTie
import Derived.WalkKit
import Derived.ProofKit
import Derived.OpenShut
import Derived.ChangeOld
import Derived.Below
import Derived.Deep.DeepHandedRow
import Derived.Lib.LaidTab
namespace Go.Proofs.YtfpggeiphbekoaaDoor
open Go.ChangeShapes Go.WideShapes Go.ChangeAt Go.RowKit

theorem own : ownKnob Tryd.prog.godebug = none := by kernel_rfl
theorem laidOut : laidOutB Tryd.prog = true := by kernel_rfl
theorem gTab : Tryd.prog.globalNamed "math/bits.deBruijn64tab" = some 0 := by kernel_rfl
/-- the table is an array of bytes, of 64 -/
theorem gTabShape : ((Tryd.prog.globals[0]?).map (·.type)).bind Tryd.prog.underlying = some (.array 64 5) := by kernel_rfl

/-- a slice of integers that came in -/
theorem ints_in {W : World} {x : Addr} {len cap : Nat} {zs : List Int} (hl : len ≤ cap) (hm : cap ≤ maxLen) (hz : zs.length = cap)
    (hcell : ∀ i, i < zs.length → W.cell? (x.add i) = some (.int .i64 (zs.getD i 0))) : IntsV W (fun k => k < W.heap.size) (.slice (some x) len cap) (zs.take len) := by
  have hln : (zs.take len).length = len := by simp; omega
  unfold IntsV
  rw [hln]
  refine ⟨some x, cap, rfl, hl, hm, by simp [ints]; omega, by simp, ?_⟩
  by_cases h0 : len = 0
  · subst h0; exact .inl rfl
  · have h1 : 0 < zs.length := by omega
    have hsp : x.spot = none := by simpa [Addr.add] using World.cell?_spot (hcell 0 h1)
    obtain ⟨b, o, s⟩ := x
    simp only at hsp
    subst hsp
    refine .inr ⟨b, o, rfl, World.block_lt_of_cell? W _ (by have := hcell 0 h1; exact this), fun i hi => ?_⟩
    have hi' : i < len := by simp [ints] at hi; omega
    have := hcell i (by omega)
    rw [Addr.add_lit] at this
    rw [this]
    have h2 : i < zs.length := by omega
    simp [ints, List.getD, h2, hi']

theorem gTabType : (Tryd.prog.globals[0]?).map (·.type) = some 161 := by kernel_rfl
theorem cellsTab : Tryd.prog.cellsOf 161 = 64 := by kernel_rfl
theorem cellsU8 : Tryd.prog.cellsOf 5 = 1 := by kernel_rfl
/-- what the rows' lists give: the table's cells -/
theorem table {W : World} (h : laidMetH Tryd.prog [("math/bits.deBruijn64tab", Rows.laid_math_bits_deBruijn64tab)] W) : TabOk W := by
  intro j hj
  have h1 : Lib.TabIs Tryd.prog W "math/bits.deBruijn64tab" .u8 (Lib.deBruijn64tab.map fun k : Nat => (k : Int)) :=
    Lib.tabIs_of_head (rest := []) gTab gTabType Tryd.underlying161 Tryd.underlying5 cellsU8 cellsTab h
  have h3 : j < Lib.deBruijn64tab.length := hj
  have h2 := h1.cell gTab j (by simpa using h3)
  rw [h2]
  congr 2
  simp [List.getD, h3]
end Go.Proofs.YtfpggeiphbekoaaDoor
