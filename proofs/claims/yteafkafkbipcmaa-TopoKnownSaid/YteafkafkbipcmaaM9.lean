/- What the statements' rows give to the laws' walks: slices of integers and of pairs that came in. | A slice of edges that came in, opened. -/
import Derived.Test.YteafkafkbipcmaaM5
import Derived.Test.YteafkafkbipcmaaRows
import Derived.WalkKit
import Derived.ProofKit
import Derived.OpenShut
import Derived.ChangeOld
import Derived.Below
import Derived.Deep.DeepHandedRow
import Derived.Deep.Slices
import Derived.Deep.Fields
import Derived.ChangeSame
import Derived.Lib.SmallJoins

namespace Go.Proofs.Yteafkafkbipcmaa
open Go.ChangeShapes Go.WideShapes Go.ChangeAt Go.Deep Go.RowKit Go.Joins
set_option linter.unusedVariables false

theorem own : ownKnob Try.prog.godebug = none := by kernel_rfl
theorem laidOut : laidOutB Try.prog = true := by kernel_rfl
/-- a slice of integers that came in -/
theorem ints_in {W : World} {x : Addr} {len cap : Nat} {zs : List Int} (hl : len ≤ cap) (hm : cap ≤ maxLen) (hz : zs.length = cap)
    (hcell : ∀ i, i < zs.length → W.cell? (x.add i) = some (.int .i64 (zs.getD i 0))) : IntsV W (fun k => k < W.heap.size) (.slice (some x) len cap) (zs.take len) := by
  have hln : (zs.take len).length = len := by simp; omega
  unfold IntsV
  rw [hln]
  refine ⟨some x, cap, rfl, hl, hm, by simp [ints]; omega, by simp, ?_⟩
  by_cases h0 : len = 0
  · subst h0; exact .inl rfl
  · have h1 : 0 < zs.length := by omega
    have hsp : x.spot = none := by simpa [Addr.add] using World.cell?_spot (hcell 0 h1)
    obtain ⟨b, o, s⟩ := x
    simp only at hsp
    subst hsp
    refine .inr ⟨b, o, rfl, World.block_lt_of_cell? W _ (by have := hcell 0 h1; exact this), fun i hi => ?_⟩
    have hi' : i < len := by simp [ints] at hi; omega
    have := hcell i (by omega)
    rw [Addr.add_lit] at this
    rw [this]
    have h2 : i < zs.length := by omega
    simp [ints, List.getD, h2, hi']
theorem ints_of {H : Type} {enc : TypeId × Value → H} {W : World} {fuel : Nat} {v : Value} {x : DataW H × List MemPlace} (hf : DataW.trod enc Try.prog W 0 (fun _ => true) true fuel 32 [v] = some x) :
    ∃ zs, IntsV W (fun k => k < W.heap.size) v zs := by
  rcases open_ints Try.underlying32 Try.underlying3 (by kernel_rfl) hf with ⟨hcs, _⟩ | ⟨a, l, c, zs, hcs, _, hl, hm, hz, _, hcell, hwz⟩
  · simp only [List.cons.injEq, and_true] at hcs
    subst hcs
    exact ⟨[], SlV.nil _ _ _⟩
  · simp only [List.cons.injEq, and_true] at hcs
    subst hcs
    exact ⟨zs.take l, ints_in hl hm (by simpa using hz) hcell⟩
set_option maxRecDepth 100000 in
/-- an edge that came in -/
theorem edge_of {H : Type} {enc : TypeId × Value → H} {W : World} {base : Nat} {v : Value} {d : DataW H} {p : List MemPlace} (hv : Value.okWide Try.prog W .any base 57 v)
    (h : DataW.Trod enc Try.prog W 0 (fun _ => true) true 57 v d p) : ∃ e : Ed, v = evE e ∧ e.ok := by
  obtain ⟨c0, c1, c2, y0, y1, y2, m, rfl, _, _, h0, h1, h2⟩ := open_agg3 Try.underlying57 (by kernel_rfl) (by kernel_rfl) hv h
  obtain ⟨z0, e0, _, w0⟩ := DataW.trod_int Try.underlying3 h0
  obtain ⟨z1, e1, _, w1⟩ := DataW.trod_int Try.underlying3 h1
  obtain ⟨z2, e2, _, w2⟩ := DataW.trod_int Try.underlying3 h2
  simp only [List.cons.injEq, and_true] at e0 e1 e2
  subst e0 e1 e2
  exact ⟨⟨z0, z1, z2⟩, rfl, ok_wf w0, ok_wf w1, ok_wf w2⟩
#print axioms edge_of
end Go.Proofs.Yteafkafkbipcmaa

namespace Go.Proofs.Yteafkafkbipcmaa
open Go.ChangeShapes Go.WideShapes Go.ChangeAt Go.Deep Go.RowKit Go.Joins
set_option linter.unusedVariables false

section
variable {H : Type} {enc : TypeId × Value → H} {P : Program} {w : World} {base : Nat} {spare : Nat → Bool} {held : Bool}
theorem open_slice_fields {t e : TypeId} {fs : Array Field} {fuel : Nat} {cs : List Value} {x : DataW H × List MemPlace} (ht : P.underlying t = some (.slice e)) (he : P.underlying e = some (.struct fs))
    (hone : oneCellFields P fs = true) (hC : P.cellsOf e = fs.size) (h : DataW.trod enc P w base spare held fuel t cs = some x) :
    (cs = [.slice none 0 0] ∧ x = (.nil, [])) ∨
    ∃ (a : Addr) (len cap m : Nat), cs = [.slice (some a) len cap] ∧ len ≤ cap ∧ cap ≤ maxLen ∧ m = (if spare a.block then cap else len) ∧
      ∀ i, i < m → ∃ (n : Nat), ∀ (j : Nat) (f : Field), fs[j]? = some f → ∃ (v : Value) (y : DataW H × List MemPlace), w.cell? (a.add (i * fs.size + j)) = some v ∧ DataW.trod enc P w base spare held n f.type [v] = some y := by
  rcases open_slice ht h with h0 | ⟨a, len, cap, m, n, D, Pl, hcs, hb, hl, hm, hmm, hx, hi⟩
  · exact .inl h0
  · refine .inr ⟨a, len, cap, m, hcs, hl, hm, hmm, fun i him => ?_⟩
    obtain ⟨cs', hc, ht'⟩ := hi i him
    rw [hC] at hc
    obtain ⟨ys, n', hn', hy, hlen, hyl, hf⟩ := DataW.trod_struct he ht'
    obtain ⟨_, hcl, hat⟩ := World.cells?_some hc
    refine ⟨n', fun j f hj => ?_⟩
    obtain ⟨ho, hk⟩ := hone_of hone j f hj
    have hjl : j < fs.size := (Array.getElem?_eq_some_iff.1 hj).1
    have hcell := hat j hjl
    have hv : cs'[j]? = some (cs'[j]'(by omega)) := List.getElem?_eq_getElem (by omega)
    have h1 := hf j f hj
    rw [ho, hk] at h1
    have hone' : (cs'.drop j).take 1 = [cs'[j]'(by omega)] := by
      rw [List.drop_eq_getElem_cons (by omega)]
      rfl
    rw [hone'] at h1
    have hys : ys[j]? = some (ys[j]'(by omega)) := List.getElem?_eq_getElem (by omega)
    refine ⟨_, _, ?_, h1.trans hys⟩
    rw [← Go.Deep.add_add, hcell, hv]
end
theorem RowV.of {α : Type} {enc : α → List Int} {s : Nat} [Inhabited α] (hs : ∀ x, (enc x).length = s) (h0 : 0 < s) {W : World} {D : Nat → Prop} {b o len cap : Nat} {xs : List α} (hn : xs.length = len) (hl : len ≤ cap) (hm : cap ≤ maxLen) (hb : D b)
    (hc : ∀ k, k < len → ∀ j, j < s → W.cell? ⟨b, o + (k * s + j), none⟩ = some (.int .i64 (gi (enc (gt xs k)) j))) : RowV enc s W D (.slice (some ⟨b, o, none⟩) len cap) xs := by
  subst hn
  refine ⟨_, cap, rfl, hl, hm, by rw [icells_length hs], by simp, .inr ⟨b, o, rfl, hb, fun i hi => ?_⟩⟩
  rw [icells_length hs] at hi
  have hk : i / s < xs.length := (Nat.div_lt_iff_lt_mul h0).2 hi
  have hj : i % s < s := Nat.mod_lt _ h0
  have e : i / s * s + i % s = i := Nat.div_add_mod' i s
  have h1 := hc _ hk _ hj
  rw [e] at h1
  have h2 := icells_at hs (xs := xs) (k := i / s) (j := i % s) (x := gt xs (i / s)) (by simp [gt, hk]) hj
  rw [e] at h2
  rw [h1]; simp [List.getD, h2]
theorem edges_of {H : Type} {enc : TypeId × Value → H} {W : World} {fuel : Nat} {v : Value} {x : DataW H × List MemPlace} (hf : DataW.trod enc Try.prog W 0 (fun _ => true) true fuel 22 [v] = some x) :
    ∃ es, EdsV W (fun k => k < W.heap.size) v es ∧ ∀ x ∈ es, x.ok := by
  rcases open_slice_fields Try.underlying22 Try.underlying57 (by kernel_rfl) (by kernel_rfl) hf with ⟨hcs, _⟩ | ⟨a, len, cap, m, hcs, hl, hm, hmm, hi⟩
  · simp only [List.cons.injEq, and_true] at hcs
    subst hcs
    exact ⟨[], SlV.nil _ _ _, by simp⟩
  · simp only [List.cons.injEq, and_true] at hcs
    subst hcs
    simp only [if_true] at hmm
    subst hmm
    by_cases h0 : len = 0
    · subst h0
      exact ⟨[], ⟨_, _, rfl, Nat.zero_le _, hm, rfl, by simp, .inl rfl⟩, by simp⟩
    have main : ∀ k, k < len → ∃ q : Ed, q.ok ∧ W.cell? (a.add (k * 3)) = some (.int .i64 q.f) ∧ W.cell? (a.add (k * 3 + 1)) = some (.int .i64 q.t) ∧ W.cell? (a.add (k * 3 + 2)) = some (.int .i64 q.l) := by
      intro k hk
      obtain ⟨n, hj⟩ := hi k (by omega)
      obtain ⟨v0, y0, c0, t0⟩ := hj 0 _ rfl
      obtain ⟨v1, y1, c1, t1⟩ := hj 1 _ rfl
      obtain ⟨v2, y2, c2, t2⟩ := hj 2 _ rfl
      obtain ⟨z0, e0, _, o0⟩ := DataW.trod_int Try.underlying3 t0
      obtain ⟨z1, e1, _, o1⟩ := DataW.trod_int Try.underlying3 t1
      obtain ⟨z2, e2, _, o2⟩ := DataW.trod_int Try.underlying3 t2
      simp only [List.cons.injEq, and_true] at e0 e1 e2
      subst e0 e1 e2
      exact ⟨⟨z0, z1, z2⟩, ⟨ok_wf o0, ok_wf o1, ok_wf o2⟩, by simpa using c0, by simpa using c1, by simpa using c2⟩
    obtain ⟨f, hf⟩ := choose_lt main
    obtain ⟨b, o, sp⟩ := a
    have hsp : sp = none := by simpa [Addr.add] using World.cell?_spot (hf 0 (by omega)).2.1
    subst hsp
    have hb2 := World.block_lt_of_cell? W _ (hf 0 (by omega)).2.1
    have hg : ∀ k, k < len → gt ((List.range len).map f) k = f k := fun k hk => by simp [gt, List.getD, hk]
    refine ⟨(List.range len).map f, RowV.of (enc := e3) (s := 3) (xs := (List.range len).map f) e3_len (by decide) (by simp) hl hm hb2 fun k hk j hj => ?_, fun x hx => ?_⟩
    · obtain ⟨_, c0, c1, c2⟩ := hf k hk
      rw [Addr.add_lit] at c0 c1 c2
      rw [hg k hk]
      match j, hj with
      | 0, _ => simpa [e3, gi] using c0
      | 1, _ => simpa [e3, gi, Nat.add_assoc] using c1
      | 2, _ => simpa [e3, gi, Nat.add_assoc] using c2
    · obtain ⟨k, hk, rfl⟩ := List.mem_map.1 hx
      exact (hf k (by simpa using hk)).1
#print axioms edges_of
end Go.Proofs.Yteafkafkbipcmaa
