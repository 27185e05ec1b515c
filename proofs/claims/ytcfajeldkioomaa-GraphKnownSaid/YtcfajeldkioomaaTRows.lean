/- Rows of structs of ints behind a slice: for every seat. -/
import Derived.Test.YtcfajeldkioomaaAppend
namespace Go.Proofs.Ytcfajeldkioomaa
open Go.RowKit
set_option linter.unusedVariables false

/-- the cells of a row of structs, each of them some ints -/
def icells {α : Type} (enc : α → List Int) (xs : List α) : List Value := xs.flatMap fun x => ints (enc x)
def gt {α : Type} [Inhabited α] (xs : List α) (k : Nat) : α := xs.getD k default
theorem take_gt {α : Type} [Inhabited α] {xs : List α} {k : Nat} (h : k < xs.length) : xs.take (k + 1) = xs.take k ++ [gt xs k] := by
  rw [List.take_succ_eq_append_getElem h]; simp [gt, h]
theorem gt_mem {α : Type} [Inhabited α] {xs : List α} {k : Nat} (h : k < xs.length) : gt xs k ∈ xs := by simp [gt, h]
section
variable {α : Type} {enc : α → List Int} {s : Nat}
theorem icells_nil : icells enc [] = [] := rfl
theorem icells_cons (x : α) (xs : List α) : icells enc (x :: xs) = ints (enc x) ++ icells enc xs := rfl
theorem icells_append (a b : List α) : icells enc (a ++ b) = icells enc a ++ icells enc b := List.flatMap_append
theorem icells_single (x : α) : icells enc [x] = ints (enc x) := by simp [icells]
theorem icells_one (xs : List α) : One (icells enc xs) := by
  intro u hu
  obtain ⟨q, _, hq⟩ := List.mem_flatMap.1 hu
  exact ints_one _ u hq
theorem icells_length (hs : ∀ x, (enc x).length = s) (xs : List α) : (icells enc xs).length = xs.length * s := by
  induction xs with
  | nil => simp [icells]
  | cons x xs ih => rw [icells_cons, List.length_append, ih]; simp [ints, hs]; rw [Nat.succ_mul]; omega
theorem icells_at (hs : ∀ x, (enc x).length = s) : ∀ {xs : List α} {k j : Nat} {x : α}, xs[k]? = some x → j < s → (icells enc xs)[k * s + j]? = some (.int .i64 (gi (enc x) j))
  | [], k, j, x, h, _ => by simp at h
  | y :: xs, 0, j, x, h, hj => by
    simp only [List.getElem?_cons_zero, Option.some.injEq] at h
    subst h
    have hl : j < (enc y).length := by rw [hs]; exact hj
    rw [icells_cons, Nat.zero_mul, Nat.zero_add, List.getElem?_append_left (by simpa [ints] using hl)]
    simp [ints, gi, hl]
  | y :: xs, k + 1, j, x, h, hj => by
    simp only [List.getElem?_cons_succ] at h
    have ih := icells_at hs h hj
    have hl : (ints (enc y)).length = s := by simp [ints, hs]
    rw [icells_cons, List.getElem?_append_right (by rw [hl, Nat.succ_mul]; omega), hl, show (k + 1) * s + j - s = k * s + j by rw [Nat.succ_mul]; omega]
    exact ih
/-- a slice that reads as a row of structs -/
def RowV (enc : α → List Int) (s : Nat) (w : World) (D : Nat → Prop) (v : Value) (xs : List α) : Prop := SlV w D v s xs.length (icells enc xs)
theorem RowV.keep {w w1 : World} {D S : Nat → Prop} {v : Value} {xs : List α} (h : RowV enc s w D v xs) (hf : Fx S w w1) (hd : ∀ k, D k → ¬ S k) : RowV enc s w1 D v xs := SlV.keep h hf hd
theorem RowV.no {w w1 : World} {D : Nat → Prop} {v : Value} {xs : List α} (h : RowV enc s w D v xs) (hf : Fx No w w1) : RowV enc s w1 D v xs := SlV.keep h hf No.disj
theorem RowV.mono {w : World} {D T : Nat → Prop} {v : Value} {xs : List α} (h : RowV enc s w D v xs) (hd : ∀ k, D k → T k) : RowV enc s w T v xs := SlV.mono h hd
theorem RowV.bound {w : World} {D : Nat → Prop} {v : Value} {xs : List α} (h : RowV enc s w D v xs) : RowV enc s w (fun k => D k ∧ k < w.heap.size) v xs := SlV.bound h
theorem RowV.nil (w : World) (D : Nat → Prop) : RowV enc s w D (.slice none 0 0) [] := SlV.nil _ _ _
theorem RowV.facts [Inhabited α] (hs : ∀ x, (enc x).length = s) (h0 : 0 < s) {w : World} {D : Nat → Prop} {v : Value} {xs : List α} (h : RowV enc s w D v xs) :
    ∃ ao cap, v = .slice ao xs.length cap ∧ xs.length ≤ cap ∧ cap ≤ 9223372036854775807 ∧ ∀ k, k < xs.length → ∃ b o, ao = some ⟨b, o, none⟩ ∧ D b ∧ ∀ j, j < s → w.cell? ⟨b, o + (k * s + j), none⟩ = some (.int .i64 (gi (enc (gt xs k)) j)) := by
  obtain ⟨ao, cap, h1, h2, h3, h4, h5, h6⟩ := h
  unfold maxLen at h3
  refine ⟨ao, cap, h1, h2, by omega, fun k hk => ?_⟩
  have hl := icells_length hs xs
  have hk2 : k * s + s ≤ xs.length * s := by rw [← Nat.succ_mul]; exact Nat.mul_le_mul_right _ hk
  obtain ⟨b, o, h7, h8, h9⟩ := h6.addr (by rw [hl]; omega)
  refine ⟨b, o, h7, h8, fun j hj => ?_⟩
  rw [h9 _ (by rw [hl]; omega)]
  have := icells_at hs (xs := xs) (k := k) (j := j) (x := gt xs k) (by simp [gt, hk]) hj
  simp [List.getD, this]
theorem RowV.lit (hs : ∀ x, (enc x).length = s) (w : World) (t : TypeId) (xs : List α) (h : xs.length ≤ 1000000) :
    RowV enc s (w.alloc (.cells (icells enc xs).toArray t)) (Iv w.heap.size (w.heap.size + 1)) (.slice (some ⟨w.heap.size, 0, none⟩) xs.length xs.length) xs := by
  refine ⟨_, xs.length, rfl, Nat.le_refl _, by unfold maxLen; omega, by rw [icells_length hs], by simp, .inr ⟨w.heap.size, 0, rfl, ⟨Nat.le_refl _, Nat.lt_succ_self _⟩, fun i hi => ?_⟩⟩
  have hi' : i < (icells enc xs).length := by simpa using hi
  simp [hi']
/-- what is owned lies in its own block -/
theorem SlV.own {w : World} {base : Nat} {e : TypeId} {size : Nat} {v : Value} {n : Nat} {xs : List Value} (h : w.ownsRow base e size v n xs) : SlV w (fun b => v.ownBlock = some b) v size n xs := by
  obtain ⟨ao, cap, h1, h2, h3, h4, h5, h6⟩ := SlV.ofOwns h
  subst h1
  refine ⟨ao, cap, rfl, h2, h3, h4, h5, ?_⟩
  rcases h.2 with ⟨e1, rfl⟩ | ⟨g, cap', cur, e1, _⟩
  · exact .inl (List.eq_nil_of_length_eq_zero (by simpa using h.1))
  · simp only [Value.slice.injEq] at e1
    obtain ⟨rfl, _, _⟩ := e1
    rcases h6 with h6 | ⟨b, o, h7, h8, h9⟩
    · exact .inl h6
    · simp only [Option.some.injEq, Addr.mk.injEq] at h7
      obtain ⟨rfl, rfl, _⟩ := h7
      exact .inr ⟨g, 0, rfl, rfl, h9⟩
/-- a row of structs of the call's own -/
def OwnT (t : TypeId) (enc : α → List Int) (s : Nat) (w : World) (base : Nat) (v : Value) (xs : List α) : Prop := w.ownsRow base t s v xs.length (icells enc xs)
variable {t : TypeId}
theorem OwnT.row {w : World} {base : Nat} {v : Value} {xs : List α} (h : OwnT t enc s w base v xs) : RowV enc s w (Iv base w.heap.size) v xs := SlV.ofOwns h
theorem OwnT.no {w w' : World} {base : Nat} {v : Value} {xs : List α} (h : OwnT t enc s w base v xs) (hf : Fx No w w') : OwnT t enc s w' base v xs := ownsRow_fx h hf fun _ _ h => h
theorem OwnT.fx {S : Nat → Prop} {w w' : World} {base : Nat} {v : Value} {xs : List α} (h : OwnT t enc s w base v xs) (hf : Fx S w w') (hn : ∀ k, v.ownBlock = some k → ¬ S k) : OwnT t enc s w' base v xs := ownsRow_fx h hf hn
theorem OwnT.base {w : World} {base base' : Nat} {v : Value} {xs : List α} (h : OwnT t enc s w base v xs) (hb : base' ≤ base) : OwnT t enc s w base' v xs := ownsRow_base h hb
theorem OwnT.nil (w : World) (base : Nat) : OwnT t enc s w base (.slice none 0 0) [] := World.ownsRow_nil _ _ _ _
theorem OwnT.snoc {w : World} {base : Nat} {v : Value} {xs : List α} {x : α} (h : w.ownsRow base t s v (xs.length + 1) (icells enc xs ++ ints (enc x))) : OwnT t enc s w base v (xs ++ [x]) := by
  unfold OwnT
  rw [List.length_append, icells_append, icells_single]
  exact h
theorem OwnT.lt {w : World} {base : Nat} {v : Value} {xs : List α} (h : OwnT t enc s w base v xs) {g : Nat} (hg : v.ownBlock = some g) : base ≤ g ∧ g < w.heap.size := World.ownsRow.lt h g hg
end
/-! pairs, edges of two numbers -/
def e2 (q : Int × Int) : List Int := [q.1, q.2]
theorem e2_len (q : Int × Int) : (e2 q).length = 2 := rfl
abbrev PairsV (w : World) (D : Nat → Prop) (v : Value) (ps : List (Int × Int)) : Prop := RowV e2 2 w D v ps
theorem PairsV.facts {w : World} {D : Nat → Prop} {v : Value} {ps : List (Int × Int)} (h : PairsV w D v ps) : ∃ ao cap, v = .slice ao ps.length cap ∧ ps.length ≤ cap ∧ cap ≤ 9223372036854775807 ∧
    ∀ k, k < ps.length → ∃ b o, ao = some ⟨b, o, none⟩ ∧ D b ∧ w.cell? ⟨b, o + k * 2, none⟩ = some (.int .i64 (gt ps k).1) ∧ w.cell? ⟨b, o + k * 2 + 1, none⟩ = some (.int .i64 (gt ps k).2) := by
  obtain ⟨ao, cap, h1, h2, h3, h4⟩ := RowV.facts e2_len (by omega) h
  refine ⟨ao, cap, h1, h2, h3, fun k hk => ?_⟩
  obtain ⟨b, o, h5, h6, h7⟩ := h4 k hk
  exact ⟨b, o, h5, h6, h7 0 (by omega), h7 1 (by omega)⟩
/-! edges of three numbers -/
structure Ed where
  f : Int
  t : Int
  l : Int
deriving DecidableEq, Inhabited
def e3 (q : Ed) : List Int := [q.f, q.t, q.l]
theorem e3_len (q : Ed) : (e3 q).length = 3 := rfl
abbrev EdsV (w : World) (D : Nat → Prop) (v : Value) (xs : List Ed) : Prop := RowV e3 3 w D v xs
theorem EdsV.facts {w : World} {D : Nat → Prop} {v : Value} {xs : List Ed} (h : EdsV w D v xs) : ∃ ao cap, v = .slice ao xs.length cap ∧ xs.length ≤ cap ∧ cap ≤ 9223372036854775807 ∧
    ∀ k, k < xs.length → ∃ b o, ao = some ⟨b, o, none⟩ ∧ D b ∧ w.cell? ⟨b, o + k * 3, none⟩ = some (.int .i64 (gt xs k).f) ∧ w.cell? ⟨b, o + k * 3 + 1, none⟩ = some (.int .i64 (gt xs k).t) ∧ w.cell? ⟨b, o + k * 3 + 2, none⟩ = some (.int .i64 (gt xs k).l) := by
  obtain ⟨ao, cap, h1, h2, h3, h4⟩ := RowV.facts e3_len (by omega) h
  refine ⟨ao, cap, h1, h2, h3, fun k hk => ?_⟩
  obtain ⟨b, o, h5, h6, h7⟩ := h4 k hk
  exact ⟨b, o, h5, h6, h7 0 (by omega), h7 1 (by omega), h7 2 (by omega)⟩
#print axioms EdsV.facts
#print axioms RowV.lit
end Go.Proofs.Ytcfajeldkioomaa
