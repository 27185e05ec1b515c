/- A slice of pairs that came in, opened. -/
import Derived.Test.YtpegloapdkfgiaaNDoor
namespace Go.Proofs.Ytpegloapdkfgiaa
open Go.ChangeShapes Go.WideShapes Go.ChangeAt Go.Deep Go.RowKit Go.Joins
set_option linter.unusedVariables false

section
variable {H : Type} {enc : TypeId × Value → H} {P : Program} {w : World} {base : Nat} {spare : Nat → Bool} {held : Bool}
theorem open_slice_fields {t e : TypeId} {fs : Array Field} {fuel : Nat} {cs : List Value} {x : DataW H × List MemPlace} (ht : P.underlying t = some (.slice e)) (he : P.underlying e = some (.struct fs))
    (hone : oneCellFields P fs = true) (hC : P.cellsOf e = fs.size) (h : DataW.trod enc P w base spare held fuel t cs = some x) :
    (cs = [.slice none 0 0] ∧ x = (.nil, [])) ∨
    ∃ (a : Addr) (len cap m : Nat), cs = [.slice (some a) len cap] ∧ len ≤ cap ∧ cap ≤ maxLen ∧ m = (if spare a.block then cap else len) ∧
      ∀ i, i < m → ∃ (n : Nat), ∀ (j : Nat) (f : Field), fs[j]? = some f → ∃ (v : Value) (y : DataW H × List MemPlace), w.cell? (a.add (i * fs.size + j)) = some v ∧ DataW.trod enc P w base spare held n f.type [v] = some y := by
  rcases open_slice ht h with h0 | ⟨a, len, cap, m, n, D, Pl, hcs, hb, hl, hm, hmm, hx, hi⟩
  · exact .inl h0
  · refine .inr ⟨a, len, cap, m, hcs, hl, hm, hmm, fun i him => ?_⟩
    obtain ⟨cs', hc, ht'⟩ := hi i him
    rw [hC] at hc
    obtain ⟨ys, n', hn', hy, hlen, hyl, hf⟩ := DataW.trod_struct he ht'
    obtain ⟨_, hcl, hat⟩ := World.cells?_some hc
    refine ⟨n', fun j f hj => ?_⟩
    obtain ⟨ho, hk⟩ := hone_of hone j f hj
    have hjl : j < fs.size := (Array.getElem?_eq_some_iff.1 hj).1
    have hcell := hat j hjl
    have hv : cs'[j]? = some (cs'[j]'(by omega)) := List.getElem?_eq_getElem (by omega)
    have h1 := hf j f hj
    rw [ho, hk] at h1
    have hone' : (cs'.drop j).take 1 = [cs'[j]'(by omega)] := by
      rw [List.drop_eq_getElem_cons (by omega)]
      rfl
    rw [hone'] at h1
    have hys : ys[j]? = some (ys[j]'(by omega)) := List.getElem?_eq_getElem (by omega)
    refine ⟨_, _, ?_, h1.trans hys⟩
    rw [← Go.Deep.add_add, hcell, hv]
end
theorem pairs_of {H : Type} {enc : TypeId × Value → H} {W : World} {fuel : Nat} {v : Value} {x : DataW H × List MemPlace} (hf : DataW.trod enc Try.prog W 0 (fun _ => true) true fuel 59 [v] = some x) :
    ∃ es, NamV kP W (fun k => k < W.heap.size) v es ∧ ∀ x ∈ es, kP.ok x := by
  rcases open_slice_fields Try.underlying59 Try.underlying60 (by kernel_rfl) (by kernel_rfl) hf with ⟨hcs, _⟩ | ⟨a, len, cap, m, hcs, hl, hm, hmm, hi⟩
  · simp only [List.cons.injEq, and_true] at hcs
    subst hcs
    exact ⟨[], SlV.nil _ _ _, by simp⟩
  · simp only [List.cons.injEq, and_true] at hcs
    subst hcs
    simp only [if_true] at hmm
    subst hmm
    by_cases h0 : len = 0
    · subst h0
      exact ⟨[], ⟨_, _, rfl, Nat.zero_le _, hm, rfl, by simp, .inl rfl⟩, by simp⟩
    have main : ∀ k, k < len → ∃ q : Int × Int, kP.ok q ∧ W.cell? (a.add (k * 2)) = some (.int .u64 q.1) ∧ W.cell? (a.add (k * 2 + 1)) = some (.int .u64 q.2) := by
      intro k hk
      obtain ⟨n, hj⟩ := hi k (by omega)
      obtain ⟨v0, y0, c0, t0⟩ := hj 0 _ rfl
      obtain ⟨v1, y1, c1, t1⟩ := hj 1 _ rfl
      obtain ⟨z0, e0, _, o0⟩ := DataW.trod_int Try.underlying23 t0
      obtain ⟨z1, e1, _, o1⟩ := DataW.trod_int Try.underlying23 t1
      simp only [List.cons.injEq, and_true] at e0 e1
      subst e0 e1
      exact ⟨(z0, z1), ⟨ok_wfU o0, ok_wfU o1⟩, by simpa using c0, by simpa using c1⟩
    obtain ⟨f, hf⟩ := choose_lt main
    have ha := add_spot (by simpa using (hf 0 (by omega)).2.1)
    obtain ⟨b, o, sp⟩ := a
    obtain rfl : sp = none := by simpa using ha
    have hb2 : b < W.heap.size := World.block_lt_of_cell? W ⟨b, o, none⟩ (by have := (hf 0 (by omega)).2.1; rw [Addr.add_lit] at this; simpa using this)
    refine ⟨(List.range len).map f, ⟨_, m, by simp, by simpa using hl, hm, by rw [ncells_length fitP], by simp, .inr ⟨b, o, rfl, hb2, fun i hi2 => ?_⟩⟩, fun x hx => ?_⟩
    · rw [ncells_length fitP] at hi2
      have hi3 : i < len * 2 := by simpa [kP] using hi2
      have hk : i / 2 < len := by omega
      obtain ⟨_, c0, c1⟩ := hf _ hk
      rw [Addr.add_lit] at c0 c1
      have hg : ((List.range len).map f)[i / 2]? = some (f (i / 2)) := by simp [hk]
      rcases Nat.mod_two_eq_zero_or_one i with e | e
      · have h2 := ncells_at fitP (j := 0) hg (by decide)
        have h3 : (ncells kP ((List.range len).map f))[i]? = some (.int .u64 (f (i / 2)).1) := by
          have e2 : i / 2 * kP.s + 0 = i := by show i / 2 * 2 + 0 = i; omega
          rw [e2] at h2
          rw [h2]; rfl
        have e3 : i / 2 * 2 = i := by omega
        rw [e3] at c0
        rw [c0]; simp [List.getD, h3]
      · have h2 := ncells_at fitP (j := 1) hg (by decide)
        have h3 : (ncells kP ((List.range len).map f))[i]? = some (.int .u64 (f (i / 2)).2) := by
          have e2 : i / 2 * kP.s + 1 = i := by show i / 2 * 2 + 1 = i; omega
          rw [e2] at h2
          rw [h2]; rfl
        have e3 : i / 2 * 2 + 1 = i := by omega
        rw [e3] at c1
        rw [c1]; simp [List.getD, h3]
    · obtain ⟨k, hk, rfl⟩ := List.mem_map.1 hx
      exact (hf k (by simpa using hk)).1
#print axioms pairs_of
end Go.Proofs.Ytpegloapdkfgiaa
