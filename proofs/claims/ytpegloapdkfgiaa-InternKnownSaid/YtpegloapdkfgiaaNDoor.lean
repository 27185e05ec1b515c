/- What the statements' rows give to the laws' walks: names, rows of names, pairs that came in. -/
import Derived.Test.YtpegloapdkfgiaaNI
import Derived.Test.YtpegloapdkfgiaaRows
import Derived.WalkKit
import Derived.ProofKit
import Derived.OpenShut
import Derived.ChangeOld
import Derived.Below
import Derived.Deep.DeepHandedRow
import Derived.Deep.Slices
import Derived.Deep.Fields
import Derived.ChangeSame
import Derived.Lib.SmallJoins
namespace Go.Proofs.Ytpegloapdkfgiaa
open Go.ChangeShapes Go.WideShapes Go.ChangeAt Go.Deep Go.RowKit Go.Joins
set_option linter.unusedVariables false

theorem own : ownKnob Try.prog.godebug = none := by kernel_rfl
theorem laidOut : laidOutB Try.prog = true := by kernel_rfl
theorem ok_wfU {x : Int} (h : (Lit.int .u64 x).wf = true) : OkU x := by
  simp [Lit.wf, IntKind.min, IntKind.max, IntKind.bits, IntKind.signed] at h
  unfold OkU
  omega
theorem add_spot {W : World} {a : Addr} {v : Value} (h : W.cell? (a.add 0) = some v) : a = ⟨a.block, a.off, none⟩ := by
  have : a.spot = none := by simpa [Addr.add] using World.cell?_spot h
  cases a; simp_all
theorem nums_of {H : Type} {enc : TypeId × Value → H} {W : World} {fuel : Nat} {v : Value} {x : DataW H × List MemPlace} (hf : DataW.trod enc Try.prog W 0 (fun _ => true) true fuel 27 [v] = some x) :
    ∃ zs, NumV W (fun k => k < W.heap.size) v zs ∧ ∀ x ∈ zs, OkU x := by
  rcases open_slice1 Try.underlying27 (by kernel_rfl) hf with ⟨hcs, _⟩ | ⟨a, len, cap, m, n, V, D, Pl, hcs, _, hl, hm, hmm, _, hi⟩
  · simp only [List.cons.injEq, and_true] at hcs
    subst hcs
    exact ⟨[], SlV.nil _ _ _, by simp⟩
  · simp only [List.cons.injEq, and_true] at hcs
    subst hcs
    simp only [if_true] at hmm
    subst hmm
    by_cases h0 : len = 0
    · subst h0
      exact ⟨[], ⟨_, _, rfl, Nat.zero_le _, hm, rfl, by simp, .inl rfl⟩, by simp⟩
    have main : ∀ k, k < len → ∃ z : Int, OkU z ∧ W.cell? (a.add k) = some (.int .u64 z) := by
      intro k hk
      obtain ⟨c0, t0⟩ := hi k (by omega)
      obtain ⟨z0, e0, _, o0⟩ := DataW.trod_int Try.underlying23 t0
      simp only [List.cons.injEq, and_true] at e0
      exact ⟨z0, ok_wfU o0, by rw [c0, e0]⟩
    obtain ⟨f, hf⟩ := choose_lt main
    have ha := add_spot (hf 0 (by omega)).2
    obtain ⟨b, o, sp⟩ := a
    obtain rfl : sp = none := by simpa using ha
    clear ha
    have hb2 := World.block_lt_of_cell? W _ (hf 0 (by omega)).2
    refine ⟨(List.range len).map f, ⟨_, m, by simp, by simpa using hl, hm, by rw [ncells_length fitU], by simp, .inr ⟨b, o, rfl, hb2, fun i hi2 => ?_⟩⟩, fun x hx => ?_⟩
    · rw [ncells_length fitU] at hi2
      have hi3 : i < len := by simpa [kU] using hi2
      obtain ⟨_, c0⟩ := hf i hi3
      rw [Addr.add_lit] at c0
      rw [c0]
      have := ncells_at fitU (L := (List.range len).map f) (k := i) (j := 0) (x := f i) (by simp [hi3]) (by decide)
      have h2 : (ncells kU ((List.range len).map f))[i]? = some (.int .u64 (f i)) := by simpa [kU] using this
      simp [List.getD, h2]
    · obtain ⟨k, hk, rfl⟩ := List.mem_map.1 hx
      exact (hf k (by simpa using hk)).1
theorem rows_of {H : Type} {enc : TypeId × Value → H} {W : World} {fuel : Nat} {v : Value} {x : DataW H × List MemPlace} (hf : DataW.trod enc Try.prog W 0 (fun _ => true) true fuel 22 [v] = some x) :
    ∃ ls, RowsU W (fun k => k < W.heap.size) v ls := by
  rcases open_slice1 Try.underlying22 (by kernel_rfl) hf with ⟨hcs, _⟩ | ⟨a, len, cap, m, n, V, D, Pl, hcs, _, hl, hm, hmm, _, hi⟩
  · simp only [List.cons.injEq, and_true] at hcs
    subst hcs
    exact ⟨[], none, 0, rfl, by omega, Nat.le_refl _, fun k l h => by simp at h⟩
  · simp only [List.cons.injEq, and_true] at hcs
    subst hcs
    simp only [if_true] at hmm
    subst hmm
    have main : ∀ k, k < len → ∃ l : List Int, W.cell? (a.add k) = some (V k) ∧ NumV W (fun k => k < W.heap.size) (V k) l ∧ ∀ x ∈ l, OkU x := by
      intro k hk
      obtain ⟨c0, t0⟩ := hi k (by omega)
      obtain ⟨zs, h1, h2⟩ := nums_of t0
      exact ⟨zs, c0, h1, h2⟩
    obtain ⟨f, hf⟩ := choose_lt main
    unfold maxLen at hm
    refine ⟨(List.range len).map f, some a, m, by simp, by omega, by simpa using hl, fun k l hk => ?_⟩
    have hk' : k < len := by have := (List.getElem?_eq_some_iff.1 hk).1; simpa using this
    obtain rfl : f k = l := by simpa [hk'] using hk
    obtain ⟨c0, h1, h2⟩ := hf k hk'
    have ha := add_spot (hf 0 (by omega)).1
    obtain ⟨b, o, sp⟩ := a
    obtain rfl : sp = none := by simpa using ha
    rw [Addr.add_lit] at c0
    have hb2 := World.block_lt_of_cell? W _ c0
    exact ⟨b, o, V k, rfl, hb2, c0, h1, h2⟩
set_option maxRecDepth 100000 in
/-- a pair that came in -/
theorem pair_of {H : Type} {enc : TypeId × Value → H} {W : World} {base : Nat} {v : Value} {d : DataW H} {p : List MemPlace} (hv : Value.okWide Try.prog W .any base 60 v)
    (h : DataW.Trod enc Try.prog W 0 (fun _ => true) true 60 v d p) : ∃ e : Int × Int, v = .agg #[.int .u64 e.1, .int .u64 e.2] ∧ kP.ok e := by
  obtain ⟨c0, c1, y0, y1, m, rfl, _, _, h0, h1⟩ := open_agg2 Try.underlying60 (by kernel_rfl) (by kernel_rfl) hv h
  obtain ⟨z0, e0, _, w0⟩ := DataW.trod_int Try.underlying23 h0
  obtain ⟨z1, e1, _, w1⟩ := DataW.trod_int Try.underlying23 h1
  simp only [List.cons.injEq, and_true] at e0 e1
  subst e0 e1
  exact ⟨(z0, z1), rfl, ok_wfU w0, ok_wfU w1⟩
#print axioms rows_of
#print axioms pair_of
end Go.Proofs.Ytpegloapdkfgiaa
