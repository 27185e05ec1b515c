/- A slice of acts that came in, opened. -/
import Derived.Test.YthbfpcheljaeaaaDoorDoor
import Derived.Test.YthbfpcheljaeaaaDoorPlaysA
import Derived.Deep.Slices
import Derived.Deep.Fields
import Derived.ChangeSame
namespace Go.Proofs.YthbfpcheljaeaaaDoor
open Go.ChangeShapes Go.WideShapes Go.Deep Go.RowKit
set_option linter.unusedVariables false

section
variable {H : Type} {enc : TypeId × Value → H} {P : Program} {w : World} {base : Nat} {spare : Nat → Bool} {held : Bool}
theorem open_slice_fields {t e : TypeId} {fs : Array Field} {fuel : Nat} {cs : List Value} {x : DataW H × List MemPlace} (ht : P.underlying t = some (.slice e)) (he : P.underlying e = some (.struct fs))
    (hone : oneCellFields P fs = true) (hC : P.cellsOf e = fs.size) (h : DataW.trod enc P w base spare held fuel t cs = some x) :
    (cs = [.slice none 0 0] ∧ x = (.nil, [])) ∨
    ∃ (a : Addr) (len cap m : Nat), cs = [.slice (some a) len cap] ∧ len ≤ cap ∧ cap ≤ maxLen ∧ m = (if spare a.block then cap else len) ∧
      ∀ i, i < m → ∃ (n : Nat), ∀ (j : Nat) (f : Field), fs[j]? = some f → ∃ (v : Value) (y : DataW H × List MemPlace), w.cell? (a.add (i * fs.size + j)) = some v ∧ DataW.trod enc P w base spare held n f.type [v] = some y := by
  rcases open_slice ht h with h0 | ⟨a, len, cap, m, n, D, Pl, hcs, hb, hl, hm, hmm, hx, hi⟩
  · exact .inl h0
  · refine .inr ⟨a, len, cap, m, hcs, hl, hm, hmm, fun i him => ?_⟩
    obtain ⟨cs', hc, ht'⟩ := hi i him
    rw [hC] at hc
    obtain ⟨ys, n', hn', hy, hlen, hyl, hf⟩ := DataW.trod_struct he ht'
    obtain ⟨_, hcl, hat⟩ := World.cells?_some hc
    refine ⟨n', fun j f hj => ?_⟩
    obtain ⟨ho, hk⟩ := hone_of hone j f hj
    have hjl : j < fs.size := (Array.getElem?_eq_some_iff.1 hj).1
    have hcell := hat j hjl
    have hv : cs'[j]? = some (cs'[j]'(by omega)) := List.getElem?_eq_getElem (by omega)
    have h1 := hf j f hj
    rw [ho, hk] at h1
    have hone' : (cs'.drop j).take 1 = [cs'[j]'(by omega)] := by
      rw [List.drop_eq_getElem_cons (by omega)]
      rfl
    rw [hone'] at h1
    have hys : ys[j]? = some (ys[j]'(by omega)) := List.getElem?_eq_getElem (by omega)
    refine ⟨_, _, ?_, h1.trans hys⟩
    rw [← Go.Deep.add_add, hcell, hv]
end
theorem ints_of {H : Type} {enc : TypeId × Value → H} {W : World} {fuel : Nat} {v : Value} {x : DataW H × List MemPlace} (hf : DataW.trod enc Tryd.prog W 0 (fun _ => true) true fuel 22 [v] = some x) :
    ∃ zs, IntsV W (fun k => k < W.heap.size) v zs := by
  rcases open_ints Tryd.underlying22 Tryd.underlying3 (by kernel_rfl) hf with ⟨hcs, _⟩ | ⟨a, l, c, zs, hcs, _, hl, hm, hz, _, hcell, hwz⟩
  · simp only [List.cons.injEq, and_true] at hcs
    subst hcs
    exact ⟨[], SlV.nil _ _ _⟩
  · simp only [List.cons.injEq, and_true] at hcs
    subst hcs
    exact ⟨zs.take l, ints_in hl hm (by simpa using hz) hcell⟩
instance : Inhabited ActM := ⟨⟨0, 0, 0, [], [], false⟩⟩
theorem ga_map {len k : Nat} (f : Nat → ActM) (h : k < len) : ga ((List.range len).map f) k = f k := by
  simp [ga, List.getD, h]
theorem acts_of {H : Type} {enc : TypeId × Value → H} {W : World} {fuel : Nat} {v : Value} {x : DataW H × List MemPlace} (hf : DataW.trod enc Tryd.prog W 0 (fun _ => true) true fuel 42 [v] = some x) :
    ∃ xs, ActsV W (fun k => k < W.heap.size) v xs := by
  rcases open_slice_fields Tryd.underlying42 Tryd.underlying47 (by kernel_rfl) (by kernel_rfl) hf with ⟨hcs, _⟩ | ⟨a, len, cap, m, hcs, hl, hm, hmm, hi⟩
  · simp only [List.cons.injEq, and_true] at hcs
    subst hcs
    exact ⟨[], none, 0, rfl, by decide, fun k hk => by simp at hk⟩
  · simp only [List.cons.injEq, and_true] at hcs
    subst hcs
    simp only [if_true] at hmm
    subst hmm
    have main : ∀ k, k < len → ∃ y : ActM, ∃ b o lv mv, some a = some (⟨b, o, none⟩ : Addr) ∧ b < W.heap.size ∧ ActAt W (fun k => k < W.heap.size) b (o + k * 6) lv mv y := by
      intro k hk
      obtain ⟨n, hj⟩ := hi k (by omega)
      obtain ⟨v0, y0, c0, t0⟩ := hj 0 _ rfl
      obtain ⟨v1, y1, c1, t1⟩ := hj 1 _ rfl
      obtain ⟨v2, y2, c2, t2⟩ := hj 2 _ rfl
      obtain ⟨v3, y3, c3, t3⟩ := hj 3 _ rfl
      obtain ⟨v4, y4, c4, t4⟩ := hj 4 _ rfl
      obtain ⟨v5, y5, c5, t5⟩ := hj 5 _ rfl
      obtain ⟨d, e0, _, _⟩ := DataW.trod_int Tryd.underlying3 t0
      obtain ⟨i, e1, _, _⟩ := DataW.trod_int Tryd.underlying3 t1
      obtain ⟨s, e2, _, ws⟩ := DataW.trod_int Tryd.underlying3 t2
      obtain ⟨zl, hl⟩ := ints_of t3
      obtain ⟨zm, hm'⟩ := ints_of t4
      obtain ⟨ob, e5, _⟩ := DataW.trod_bool Tryd.underlying4 t5
      simp only [List.cons.injEq, and_true] at e0 e1 e2 e5
      subst e0 e1 e2 e5
      obtain ⟨n0, hj0⟩ := hi 0 (by omega)
      obtain ⟨v00, y00, c00, _⟩ := hj0 0 _ rfl
      obtain ⟨b, o, sp⟩ := a
      have hsp : sp = none := by simpa [Addr.add] using World.cell?_spot c00
      subst hsp
      simp only [Addr.add_lit] at c0 c1 c2 c3 c4 c5
      have hb := World.block_lt_of_cell? W _ c1
      exact ⟨⟨d, i, s, zl, zm, ob⟩, b, o, v3, v4, rfl, hb, ⟨by simpa using c0, by simpa [Nat.add_assoc] using c1, by simpa [Nat.add_assoc] using c2, by simpa [Nat.add_assoc] using c3, by simpa [Nat.add_assoc] using c4, by simpa [Nat.add_assoc] using c5, hl, hm', (bounds_i64 ws).1⟩⟩
    obtain ⟨f, hf⟩ := choose_lt main
    refine ⟨(List.range len).map f, some a, m, by simp, by simp; unfold maxLen at hm; omega, fun k hk => ?_⟩
    have hk' : k < len := by simpa using hk
    obtain ⟨b, o, lv, mv, h1, h2, h3⟩ := hf k hk'
    exact ⟨b, o, lv, mv, h1, h2, by rw [ga_map f hk']; exact h3⟩
#print axioms acts_of
end Go.Proofs.YthbfpcheljaeaaaDoor
