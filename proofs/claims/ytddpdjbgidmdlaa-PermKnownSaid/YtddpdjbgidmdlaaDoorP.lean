/- What the statements' rows give to the laws' walks: slices of integers and of pairs that came in. -/
import Derived.Test.YtddpdjbgidmdlaaAsks
import Derived.Test.YtddpdjbgidmdlaaRows
import Derived.WalkKit
import Derived.ProofKit
import Derived.OpenShut
import Derived.ChangeOld
import Derived.Below
import Derived.Deep.DeepHandedRow
import Derived.Deep.Slices
import Derived.Deep.Fields
import Derived.ChangeSame
namespace Go.Proofs.Ytddpdjbgidmdlaa
open Go.ChangeShapes Go.WideShapes Go.ChangeAt Go.Deep Go.RowKit
set_option linter.unusedVariables false

theorem own : ownKnob Try.prog.godebug = none := by kernel_rfl
theorem laidOut : laidOutB Try.prog = true := by kernel_rfl
/-- a slice of integers that came in -/
theorem ints_in {W : World} {x : Addr} {len cap : Nat} {zs : List Int} (hl : len ≤ cap) (hm : cap ≤ maxLen) (hz : zs.length = cap)
    (hcell : ∀ i, i < zs.length → W.cell? (x.add i) = some (.int .i64 (zs.getD i 0))) : IntsV W (fun k => k < W.heap.size) (.slice (some x) len cap) (zs.take len) := by
  have hln : (zs.take len).length = len := by simp; omega
  unfold IntsV
  rw [hln]
  refine ⟨some x, cap, rfl, hl, hm, by simp [ints]; omega, by simp, ?_⟩
  by_cases h0 : len = 0
  · subst h0; exact .inl rfl
  · have h1 : 0 < zs.length := by omega
    have hsp : x.spot = none := by simpa [Addr.add] using World.cell?_spot (hcell 0 h1)
    obtain ⟨b, o, s⟩ := x
    simp only at hsp
    subst hsp
    refine .inr ⟨b, o, rfl, World.block_lt_of_cell? W _ (by have := hcell 0 h1; exact this), fun i hi => ?_⟩
    have hi' : i < len := by simp [ints] at hi; omega
    have := hcell i (by omega)
    rw [Addr.add_lit] at this
    rw [this]
    have h2 : i < zs.length := by omega
    simp [ints, List.getD, h2, hi']
theorem ints_of {H : Type} {enc : TypeId × Value → H} {W : World} {fuel : Nat} {v : Value} {x : DataW H × List MemPlace} (hf : DataW.trod enc Try.prog W 0 (fun _ => true) true fuel 29 [v] = some x) :
    ∃ zs, IntsV W (fun k => k < W.heap.size) v zs := by
  rcases open_ints Try.underlying29 Try.underlying3 (by kernel_rfl) hf with ⟨hcs, _⟩ | ⟨a, l, c, zs, hcs, _, hl, hm, hz, _, hcell, hwz⟩
  · simp only [List.cons.injEq, and_true] at hcs
    subst hcs
    exact ⟨[], SlV.nil _ _ _⟩
  · simp only [List.cons.injEq, and_true] at hcs
    subst hcs
    exact ⟨zs.take l, ints_in hl hm (by simpa using hz) hcell⟩
/-- a slice of pairs, by its cells -/
theorem pairsV_mk {W : World} {b o len cap : Nat} {ps : List (Int × Int)} (hn : ps.length = len) (hl : len ≤ cap) (hm : cap ≤ maxLen) (hb : b < W.heap.size)
    (hc : ∀ k, k < len → W.cell? ⟨b, o + k * 2, none⟩ = some (.int .i64 (gp ps k).1) ∧ W.cell? ⟨b, o + k * 2 + 1, none⟩ = some (.int .i64 (gp ps k).2)) : PairsV W (fun k => k < W.heap.size) (.slice (some ⟨b, o, none⟩) len cap) ps := by
  subst hn
  refine ⟨_, cap, rfl, hl, hm, by rw [pcells_length], by simp, .inr ⟨b, o, rfl, hb, fun i hi => ?_⟩⟩
  rw [pcells_length] at hi
  obtain ⟨k, hk⟩ : ∃ k, k = i / 2 := ⟨_, rfl⟩
  have hkl : k < ps.length := by omega
  obtain ⟨g1, g2⟩ := pcells_at hkl
  obtain ⟨c1, c2⟩ := hc k hkl
  rcases Nat.mod_two_eq_zero_or_one i with h | h
  · have e : i = k * 2 := by omega
    subst e
    rw [c1]; simp [List.getD, g1]
  · have e : i = k * 2 + 1 := by omega
    subst e
    rw [show o + (k * 2 + 1) = o + k * 2 + 1 by omega, c2]; simp [List.getD, g2]
theorem gp_map {len k : Nat} (f : Nat → Int × Int) (h : k < len) : gp ((List.range len).map f) k = f k := by
  simp [gp, List.getD, h]
theorem pairs_of {H : Type} {enc : TypeId × Value → H} {W : World} {fuel : Nat} {v : Value} {x : DataW H × List MemPlace} (hf : DataW.trod enc Try.prog W 0 (fun _ => true) true fuel 22 [v] = some x) :
    ∃ ps, PairsV W (fun k => k < W.heap.size) v ps := by
  rcases open_slice Try.underlying22 hf with ⟨hcs, _⟩ | ⟨a, len, cap, m, n, D, Pl, hcs, hb, hl, hm, hmm, _, hi⟩
  · simp only [List.cons.injEq, and_true] at hcs
    subst hcs
    exact ⟨[], SlV.nil _ _ _⟩
  · simp only [List.cons.injEq, and_true] at hcs
    subst hcs
    simp only [if_true] at hmm
    subst hmm
    have hC : Try.prog.cellsOf 47 = 2 := by kernel_rfl
    have hC1 : Try.prog.cellsOf 3 = 1 := by kernel_rfl
    by_cases h0 : len = 0
    · subst h0
      exact ⟨[], _, _, rfl, Nat.zero_le _, hm, rfl, by simp, .inl rfl⟩
    have main : ∀ k, k < len → ∃ q : Int × Int, W.cell? (a.add (k * 2)) = some (.int .i64 q.1) ∧ W.cell? (a.add (k * 2 + 1)) = some (.int .i64 q.2) := by
      intro k hk
      obtain ⟨cs', hc, ht⟩ := hi k (by omega)
      rw [hC] at hc
      obtain ⟨_, hcl, hat⟩ := World.cells?_some hc
      obtain ⟨xs, m', _, _, _, hxl, hx⟩ := DataW.trod_array Try.underlying47 ht
      rw [hC1] at hx
      match cs', hcl with
      | [c0, c1], _ =>
        have hx0 := hx 0 (by omega)
        have hx1 := hx 1 (by omega)
        rw [List.getElem?_eq_getElem (by omega)] at hx0 hx1
        obtain ⟨z0, e0, _, _⟩ := DataW.trod_int Try.underlying3 hx0
        obtain ⟨z1, e1, _, _⟩ := DataW.trod_int Try.underlying3 hx1
        simp at e0 e1
        subst e0 e1
        have a0 := hat 0 (by omega)
        have a1 := hat 1 (by omega)
        rw [Go.Deep.add_add] at a0 a1
        exact ⟨(z0, z1), by simpa using a0, by simpa using a1⟩
    obtain ⟨f, hf⟩ := choose_lt main
    obtain ⟨b, o, sp⟩ := a
    have hsp : sp = none := by simpa [Addr.add] using World.cell?_spot (hf 0 (by omega)).1
    subst hsp
    have hb2 := World.block_lt_of_cell? W _ (hf 0 (by omega)).1
    refine ⟨(List.range len).map f, pairsV_mk (by simp) hl hm hb2 fun k hk => ?_⟩
    obtain ⟨c0, c1⟩ := hf k hk
    rw [Addr.add_lit] at c0 c1
    rw [gp_map f hk]
    exact ⟨c0, by simpa [Nat.add_assoc] using c1⟩
#print axioms pairs_of
end Go.Proofs.Ytddpdjbgidmdlaa
