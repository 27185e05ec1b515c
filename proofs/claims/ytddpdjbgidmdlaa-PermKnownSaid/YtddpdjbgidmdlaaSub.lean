/- Parts of slices of ints: for every seat. -/
import Derived.Test.YtddpdjbgidmdlaaInts
namespace Go.Proofs.Ytddpdjbgidmdlaa
open Go.RowKit

theorem IntsV.part {w : World} {D : Nat → Prop} {g o n cap : Nat} {l : List Int} (h : IntsV w D (.slice (some ⟨g, o, none⟩) n cap) l) :
    n = l.length ∧ n ≤ cap ∧ cap ≤ 9223372036854775807 ∧ (0 < n → D g ∧ ∀ k, k < n → w.cell? ⟨g, o + k, none⟩ = some (.int .i64 (gi l k))) := by
  obtain ⟨ao, c, h1, h2, h3, h4, h5, h6⟩ := h
  simp only [Value.slice.injEq] at h1
  obtain ⟨rfl, rfl, rfl⟩ := h1
  unfold maxLen at h3
  refine ⟨rfl, h2, by omega, fun hn => ?_⟩
  obtain ⟨b, o', h7, h8, h9⟩ := h6.addr (by simp [ints]; omega)
  simp only [Option.some.injEq, Addr.mk.injEq, and_true] at h7
  obtain ⟨rfl, rfl⟩ := h7
  refine ⟨h8, fun k hk => ?_⟩
  have := h9 k (by simpa [ints] using hk)
  rw [this]; simp [ints, gi, hk]
theorem ints_getD {l : List Int} {i : Nat} (h : i < l.length) : (ints l).getD i undef = .int .i64 (gi l i) := by simp [ints, gi, h]
theorem IntsV.ofCells {w : World} {D : Nat → Prop} {g o n cap : Nat} {l : List Int} (hn : n = l.length) (h1 : n ≤ cap) (h2 : cap ≤ 9223372036854775807) (h : 0 < n → D g ∧ ∀ k, k < n → w.cell? ⟨g, o + k, none⟩ = some (.int .i64 (gi l k))) :
    IntsV w D (.slice (some ⟨g, o, none⟩) n cap) l := by
  subst hn
  refine ⟨_, cap, rfl, h1, by unfold maxLen; omega, by simp [ints], by simp, ?_⟩
  cases l with
  | nil => exact .inl rfl
  | cons x l =>
    obtain ⟨hd, hc⟩ := h (by simp)
    refine .inr ⟨g, o, rfl, hd, fun i hi => ?_⟩
    have hi' : i < (x :: l).length := by simpa [ints] using hi
    rw [hc i hi', ints_getD hi']
theorem gi_take {l : List Int} {k j : Nat} (h : j < k) : gi (l.take k) j = gi l j := by simp [gi, List.getD, List.getElem?_take_of_lt h]
theorem gi_dropI (l : List Int) (i j : Nat) : gi (l.drop i) j = gi l (i + j) := by simp [gi, List.getD, List.getElem?_drop]
theorem IntsV.upTo {w : World} {D : Nat → Prop} {g o n cap k : Nat} {l : List Int} (h : IntsV w D (.slice (some ⟨g, o, none⟩) n cap) l) (hk : k ≤ n) :
    IntsV w D (.slice (some ⟨g, o, none⟩) k cap) (l.take k) := by
  obtain ⟨h1, h2, h3, h4⟩ := h.part
  refine IntsV.ofCells (by rw [List.length_take]; omega) (by omega) h3 fun h0 => ⟨(h4 (by omega)).1, fun j hj => ?_⟩
  rw [gi_take hj]
  exact (h4 (by omega)).2 j (by omega)
theorem IntsV.from {w : World} {D : Nat → Prop} {g o n cap k : Nat} {l : List Int} (h : IntsV w D (.slice (some ⟨g, o, none⟩) n cap) l) (hk : k ≤ n) :
    ∃ A : Addr, (if cap = k then some (⟨g, o, none⟩ : Addr) else some ⟨g, o + k, none⟩) = some A ∧ IntsV w D (.slice (some A) (n - k) (cap - k)) (l.drop k) := by
  obtain ⟨h1, h2, h3, h4⟩ := h.part
  by_cases hc : cap = k
  · exact ⟨⟨g, o, none⟩, by simp [hc], IntsV.ofCells (by rw [List.length_drop]; omega) (by omega) (by omega) fun h0 => by omega⟩
  · refine ⟨⟨g, o + k, none⟩, by simp [hc], IntsV.ofCells (by rw [List.length_drop]; omega) (by omega) (by omega) fun h0 => ⟨(h4 (by omega)).1, fun j hj => ?_⟩⟩
    rw [gi_dropI, Nat.add_assoc]
    exact (h4 (by omega)).2 (k + j) (by omega)
/-- an owned row's block, where it has one -/
theorem OwnI.place {w : World} {base : Nat} {v : Value} {l : List Int} (h : OwnI w base v l) (hl : 0 < l.length) :
    ∃ g cap, v = .slice (some ⟨g, 0, none⟩) l.length cap ∧ base ≤ g ∧ g < w.heap.size ∧ l.length ≤ cap ∧ cap ≤ 9223372036854775807 := by
  have h' : w.ownsRow base 3 1 v l.length (Proofs.Ytddpdjbgidmdlaa.ints l) := h
  rcases h'.2 with ⟨_, h0⟩ | ⟨g, cap, cur, hv, hb, hg, h3, h4, _⟩
  · omega
  · unfold maxLen at h4
    exact ⟨g, cap, hv, hb, (Array.getElem?_eq_some_iff.1 hg).1, h3, by omega⟩
theorem OwnI.up {w : World} {w0 : World} {v : Value} {l : List Int} (h : OwnI w w0.heap.size v l) : IntsV w (Up w0) v l := h.ints.mono fun k hk => hk.1
theorem OwnI.lt {w : World} {base : Nat} {v : Value} {l : List Int} (h : OwnI w base v l) {g : Nat} (hg : v.ownBlock = some g) : base ≤ g ∧ g < w.heap.size := World.ownsRow.lt h g hg
/-- a slice's length: for measures -/
def lenOf : Value → Nat
  | .slice _ n _ => n
  | _ => 0
theorem OwnI.lenOf {w : World} {base : Nat} {v : Value} {l : List Int} (h : OwnI w base v l) : lenOf v = l.length := by
  obtain ⟨ao, c, h1, _⟩ := h.ints
  rw [h1]; rfl
end Go.Proofs.Ytddpdjbgidmdlaa
