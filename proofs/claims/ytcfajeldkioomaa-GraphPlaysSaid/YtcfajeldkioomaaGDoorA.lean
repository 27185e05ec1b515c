/- A slice of acts that came in, opened. -/
import Derived.Test.YtcfajeldkioomaaGDoorE
import Derived.Test.YtcfajeldkioomaaRgG
namespace Go.Proofs.Ytcfajeldkioomaa
open Go.ChangeShapes Go.WideShapes Go.ChangeAt Go.Deep Go.RowKit Go.Joins
set_option linter.unusedVariables false

theorem acts_of {H : Type} {enc : TypeId × Value → H} {W : World} {fuel : Nat} {v : Value} {x : DataW H × List MemPlace} (hf : DataW.trod enc Try.prog W 0 (fun _ => true) true fuel 47 [v] = some x) :
    ∃ xs, ActsG W (fun k => k < W.heap.size) v xs := by
  rcases open_slice_fields Try.underlying47 Try.underlying54 (by kernel_rfl) (by kernel_rfl) hf with ⟨hcs, _⟩ | ⟨a, len, cap, m, hcs, hl, hm, hmm, hi⟩
  · simp only [List.cons.injEq, and_true] at hcs
    subst hcs
    exact ⟨[], none, 0, rfl, by decide, fun k hk => by simp at hk⟩
  · simp only [List.cons.injEq, and_true] at hcs
    subst hcs
    simp only [if_true] at hmm
    subst hmm
    have main : ∀ k, k < len → ∃ y : ActG, ∃ b o lv, some a = some (⟨b, o, none⟩ : Addr) ∧ W.cell? ⟨b, o + k * 2, none⟩ = some (.int .i64 y.d) ∧ W.cell? ⟨b, o + k * 2 + 1, none⟩ = some lv ∧ EdsV W (fun k => k < W.heap.size) lv y.l ∧ ∀ x ∈ y.l, x.ok := by
      intro k hk
      obtain ⟨n, hj⟩ := hi k (by omega)
      obtain ⟨v0, y0, c0, t0⟩ := hj 0 _ rfl
      obtain ⟨v1, y1, c1, t1⟩ := hj 1 _ rfl
      obtain ⟨d, e0, _, _⟩ := DataW.trod_int Try.underlying3 t0
      obtain ⟨zl, hl, hok⟩ := edges_of t1
      simp only [List.cons.injEq, and_true] at e0
      subst e0
      obtain ⟨b, o, sp⟩ := a
      obtain ⟨n0, hj0⟩ := hi 0 (by omega)
      obtain ⟨v00, y00, c00, _⟩ := hj0 0 _ rfl
      have hsp : sp = none := by simpa [Addr.add] using World.cell?_spot c00
      subst hsp
      simp only [Addr.add_lit] at c0 c1
      exact ⟨⟨d, zl⟩, b, o, v1, rfl, by simpa using c0, by simpa [Nat.add_assoc] using c1, hl, hok⟩
    obtain ⟨f, hf⟩ := choose_lt main
    have hg : ∀ k, k < len → gt ((List.range len).map f) k = f k := fun k hk => by simp [gt, List.getD, hk]
    refine ⟨(List.range len).map f, some a, m, by simp, by simp; unfold maxLen at hm; omega, fun k hk => ?_⟩
    have hk' : k < len := by simpa using hk
    obtain ⟨b, o, lv, h1, h2, h3, h4⟩ := hf k hk'
    exact ⟨b, o, lv, h1, by rw [hg k hk']; exact h2, h3, by rw [hg k hk']; exact h4⟩
#print axioms acts_of
end Go.Proofs.Ytcfajeldkioomaa
