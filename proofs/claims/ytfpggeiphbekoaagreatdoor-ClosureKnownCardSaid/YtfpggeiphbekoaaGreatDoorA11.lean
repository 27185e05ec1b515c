/- What the statements' rows give to the laws' walks: a slice of integers that came in, the table. | What the statements' rows give to the laws' walks: a slice of pairs that came in. -/
import Derived.Test.YtfpggeiphbekoaaGreatDoorA9
import Derived.Test.YtfpggeiphbekoaaGreatDoorCards
import Derived.Test.YtfpggeiphbekoaaGreatDoorTie
import Derived.WalkKit
import Derived.ProofKit
import Derived.OpenShut
import Derived.ChangeOld
import Derived.Below
import Derived.Deep.DeepHandedRow
import Derived.Lib.LaidTab
import Derived.Deep.Slices
import Derived.Deep.Fields
import Derived.ChangeSame

namespace Go.Proofs.YtfpggeiphbekoaaGreatDoor
open Go.ChangeShapes Go.WideShapes Go.ChangeAt Go.RowKit

theorem own : ownKnob Tryz.prog.godebug = none := by kernel_rfl
theorem laidOut : laidOutB Tryz.prog = true := by kernel_rfl
theorem gTab : Tryz.prog.globalNamed "math/bits.deBruijn64tab" = some 0 := by kernel_rfl
/-- the table is an array of bytes, of 64 -/
theorem gTabShape : ((Tryz.prog.globals[0]?).map (·.type)).bind Tryz.prog.underlying = some (.array 64 5) := by kernel_rfl

/-- a slice of integers that came in -/
theorem ints_in {W : World} {x : Addr} {len cap : Nat} {zs : List Int} (hl : len ≤ cap) (hm : cap ≤ maxLen) (hz : zs.length = cap)
    (hcell : ∀ i, i < zs.length → W.cell? (x.add i) = some (.int .i64 (zs.getD i 0))) : IntsV W (fun k => k < W.heap.size) (.slice (some x) len cap) (zs.take len) := by
  have hln : (zs.take len).length = len := by simp; omega
  unfold IntsV
  rw [hln]
  refine ⟨some x, cap, rfl, hl, hm, by simp [ints]; omega, by simp, ?_⟩
  by_cases h0 : len = 0
  · subst h0; exact .inl rfl
  · have h1 : 0 < zs.length := by omega
    have hsp : x.spot = none := by simpa [Addr.add] using World.cell?_spot (hcell 0 h1)
    obtain ⟨b, o, s⟩ := x
    simp only at hsp
    subst hsp
    refine .inr ⟨b, o, rfl, World.block_lt_of_cell? W _ (by have := hcell 0 h1; exact this), fun i hi => ?_⟩
    have hi' : i < len := by simp [ints] at hi; omega
    have := hcell i (by omega)
    rw [Addr.add_lit] at this
    rw [this]
    have h2 : i < zs.length := by omega
    simp [ints, List.getD, h2, hi']

theorem gTabType : (Tryz.prog.globals[0]?).map (·.type) = some 169 := by kernel_rfl
theorem cellsTab : Tryz.prog.cellsOf 169 = 64 := by kernel_rfl
theorem cellsU8 : Tryz.prog.cellsOf 5 = 1 := by kernel_rfl
/-- what the rows' lists give: the table's cells -/
theorem table {W : World} (h : laidMetH Tryz.prog [("math/bits.deBruijn64tab", Rows.laid_math_bits_deBruijn64tab)] W) : TabOk W := by
  intro j hj
  have h1 : Lib.TabIs Tryz.prog W "math/bits.deBruijn64tab" .u8 (Lib.deBruijn64tab.map fun k : Nat => (k : Int)) :=
    Lib.tabIs_of_head (rest := []) gTab gTabType Tryz.underlying169 Tryz.underlying5 cellsU8 cellsTab h
  have h3 : j < Lib.deBruijn64tab.length := hj
  have h2 := h1.cell gTab j (by simpa using h3)
  rw [h2]
  congr 2
  simp [List.getD, h3]
end Go.Proofs.YtfpggeiphbekoaaGreatDoor

namespace Go.Proofs.YtfpggeiphbekoaaGreatDoor
open Go.ChangeShapes Go.WideShapes Go.ChangeAt Go.Deep Go.RowKit
set_option linter.unusedVariables false

theorem RowV.of {α : Type} {enc : α → List Int} {s : Nat} [Inhabited α] (hs : ∀ x, (enc x).length = s) (h0 : 0 < s) {W : World} {D : Nat → Prop} {b o len cap : Nat} {xs : List α} (hn : xs.length = len) (hl : len ≤ cap) (hm : cap ≤ maxLen) (hb : D b)
    (hc : ∀ k, k < len → ∀ j, j < s → W.cell? ⟨b, o + (k * s + j), none⟩ = some (.int .i64 (gi (enc (gt xs k)) j))) : RowV enc s W D (.slice (some ⟨b, o, none⟩) len cap) xs := by
  subst hn
  refine ⟨_, cap, rfl, hl, hm, by rw [icells_length hs], by simp, .inr ⟨b, o, rfl, hb, fun i hi => ?_⟩⟩
  rw [icells_length hs] at hi
  have hk : i / s < xs.length := (Nat.div_lt_iff_lt_mul h0).2 hi
  have hj : i % s < s := Nat.mod_lt _ h0
  have e : i / s * s + i % s = i := Nat.div_add_mod' i s
  have h1 := hc _ hk _ hj
  rw [e] at h1
  have h2 := icells_at hs (xs := xs) (k := i / s) (j := i % s) (x := gt xs (i / s)) (by simp [gt, hk]) hj
  rw [e] at h2
  rw [h1]; simp [List.getD, h2]
theorem pairs_of {H : Type} {enc : TypeId × Value → H} {W : World} {fuel : Nat} {v : Value} {x : DataW H × List MemPlace} (hf : DataW.trod enc Tryz.prog W 0 (fun _ => true) true fuel 22 [v] = some x) :
    ∃ ps, PairsV W (fun k => k < W.heap.size) v ps := by
  rcases open_slice Tryz.underlying22 hf with ⟨hcs, _⟩ | ⟨a, len, cap, m, n, D, Pl, hcs, hb, hl, hm, hmm, _, hi⟩
  · simp only [List.cons.injEq, and_true] at hcs
    subst hcs
    exact ⟨[], SlV.nil _ _ _⟩
  · simp only [List.cons.injEq, and_true] at hcs
    subst hcs
    simp only [if_true] at hmm
    subst hmm
    have hC : Tryz.prog.cellsOf 25 = 2 := by kernel_rfl
    have hC1 : Tryz.prog.cellsOf 3 = 1 := by kernel_rfl
    by_cases h0 : len = 0
    · subst h0
      exact ⟨[], _, _, rfl, Nat.zero_le _, hm, rfl, by simp, .inl rfl⟩
    have main : ∀ k, k < len → ∃ q : Int × Int, W.cell? (a.add (k * 2)) = some (.int .i64 q.1) ∧ W.cell? (a.add (k * 2 + 1)) = some (.int .i64 q.2) := by
      intro k hk
      obtain ⟨cs', hc, ht⟩ := hi k (by omega)
      rw [hC] at hc
      obtain ⟨_, hcl, hat⟩ := World.cells?_some hc
      obtain ⟨xs, m', _, _, _, hxl, hx⟩ := DataW.trod_array Tryz.underlying25 ht
      rw [hC1] at hx
      match cs', hcl with
      | [c0, c1], _ =>
        have hx0 := hx 0 (by omega)
        have hx1 := hx 1 (by omega)
        rw [List.getElem?_eq_getElem (by omega)] at hx0 hx1
        obtain ⟨z0, e0, _, _⟩ := DataW.trod_int Tryz.underlying3 hx0
        obtain ⟨z1, e1, _, _⟩ := DataW.trod_int Tryz.underlying3 hx1
        simp at e0 e1
        subst e0 e1
        have a0 := hat 0 (by omega)
        have a1 := hat 1 (by omega)
        rw [Go.Deep.add_add] at a0 a1
        exact ⟨(z0, z1), by simpa using a0, by simpa using a1⟩
    obtain ⟨f, hf⟩ := choose_lt main
    obtain ⟨b, o, sp⟩ := a
    have hsp : sp = none := by simpa [Addr.add] using World.cell?_spot (hf 0 (by omega)).1
    subst hsp
    have hb2 := World.block_lt_of_cell? W _ (hf 0 (by omega)).1
    refine ⟨(List.range len).map f, RowV.of (enc := e2) (s := 2) (xs := (List.range len).map f) e2_len (by decide) (by simp) hl hm hb2 fun k hk j hj => ?_⟩
    obtain ⟨c0, c1⟩ := hf k hk
    rw [Addr.add_lit] at c0 c1
    have hg : gt ((List.range len).map f) k = f k := by simp [gt, List.getD, hk]
    rw [hg]
    match j, hj with
    | 0, _ => simpa [e2, gi] using c0
    | 1, _ => simpa [e2, gi, Nat.add_assoc] using c1
#print axioms pairs_of
end Go.Proofs.YtfpggeiphbekoaaGreatDoor
