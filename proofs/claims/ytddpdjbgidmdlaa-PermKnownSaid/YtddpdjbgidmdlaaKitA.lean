/- Of no function: rows of pairs that are told; counts by their masks; what After tells of one row. -/
import Derived.Test.YtddpdjbgidmdlaaCount
import Derived.Test.YtddpdjbgidmdlaaAfter
namespace Go.Proofs.Ytddpdjbgidmdlaa
open Go.RowKit
set_option linter.unusedVariables false

theorem pairs_lit (w : World) (t : TypeId) (ps : List (Int × Int)) (h : ps.length ≤ 1000000) :
    PairsV (w.alloc (.cells (pcells ps).toArray t)) (Iv w.heap.size (w.heap.size + 1)) (.slice (some ⟨w.heap.size, 0, none⟩) ps.length ps.length) ps := by
  refine ⟨_, ps.length, rfl, Nat.le_refl _, by unfold maxLen; omega, by rw [pcells_length], by simp, .inr ⟨w.heap.size, 0, rfl, ⟨Nat.le_refl _, Nat.lt_succ_self _⟩, fun i hi => ?_⟩⟩
  have hi' : i < (pcells ps).length := by simpa using hi
  simp [hi']
theorem pairs_nil (w : World) : PairsV w No (.slice none 0 0) [] := SlV.nil _ _ _
theorem cnt_congr {n : Nat} {M M' : Nat → Nat} (h : ∀ j, j < n → M j = M' j) : ∀ t, cnt n M t = cnt n M' t := by
  intro t
  induction t using Nat.strongRecOn with
  | _ t ih =>
    by_cases h0 : t = 0
    · subst h0; rfl
    · rw [cnt_pos (by omega), cnt_pos (by omega)]
      refine sumR_congr fun j hj => ?_
      have e : okJ M t j = okJ M' t j := by unfold okJ; rw [h j hj]
      rw [e]
      by_cases hb : okJ M' t j = true
      · rw [if_pos hb, if_pos hb]
        have h1 : t.testBit j = true := by unfold okJ at hb; simp only [Bool.and_eq_true] at hb; exact hb.1
        have h3 : 0 < 2 ^ j := Nat.pos_of_ne_zero (by simp)
        exact ih _ (by omega)
      · rw [if_neg hb, if_neg hb]
theorem maskOf_one {n : Nat} {ps : List (Int × Int)} {M M' : Nat → Nat} (h : MaskOf n ps M) (h' : MaskOf n ps M') : ∀ t, cnt n M t = cnt n M' t :=
  cnt_congr fun k hk => by
    apply Nat.eq_of_testBit_eq
    intro b
    by_cases hb : b < n
    · rw [(h k hk).2 b hb, (h' k hk).2 b hb]
    · have h2 : 2 ^ n ≤ 2 ^ b := Nat.pow_le_pow_right (by omega) (by omega)
      rw [Nat.testBit_lt_two_pow (Nat.lt_of_lt_of_le (h k hk).1 h2), Nat.testBit_lt_two_pow (Nat.lt_of_lt_of_le (h' k hk).1 h2)]
theorem count_zero {w w' : World} {e : Ending} (h : CountR 4 [] w e w') : e = .returned (.tuple #[.int .u64 24, .int .i64 0]) ∧ Fx No w w' := by
  rcases h with ⟨hf, ⟨h, _⟩ | ⟨_, h, _⟩ | ⟨_, _, M, hM, rfl⟩⟩
  · exact absurd (by decide) h
  · omega
  · have h1 : MaskOf 4 [] (fun _ => 0) := fun k hk => ⟨Nat.pos_of_ne_zero (by simp), fun b hb => by simp [bhL]⟩
    have e : cnt 4 M 15 = _ := maskOf_one hM h1 15
    refine ⟨?_, hf⟩
    show Ending.returned (.tuple #[.int .u64 ((cnt 4 M 15 : Nat) : Int), .int .i64 0]) = _
    rw [e]; rw [show cnt (Int.toNat 4) (fun _ => 0) 15 = 24 by decide +kernel]; rfl
theorem count_two {w w' : World} {e : Ending} (h : CountR 4 [(0, 1), (2, 3)] w e w') : e = .returned (.tuple #[.int .u64 6, .int .i64 0]) ∧ Fx No w w' := by
  rcases h with ⟨hf, ⟨h, _⟩ | ⟨_, h, _⟩ | ⟨_, _, M, hM, rfl⟩⟩
  · exact absurd (by decide) h
  · omega
  · have h1 : MaskOf 4 [(0, 1), (2, 3)] (fun k => if k = 1 then 1 else if k = 3 then 4 else 0) := by
      show ∀ k, k < 4 → _
      decide
    have e : cnt 4 M 15 = _ := maskOf_one hM h1 15
    refine ⟨?_, hf⟩
    show Ending.returned (.tuple #[.int .u64 ((cnt 4 M 15 : Nat) : Int), .int .i64 0]) = _
    rw [e]; rw [show cnt (Int.toNat 4) (fun k => if k = 1 then 1 else if k = 3 then 4 else 0) 15 = 6 by decide +kernel]; rfl
theorem after_201 {q : List Int} {b : Bool} (h : AfterQ [2, 0, 1] q b) : q = [2, 1, 0] ∧ b = true := by
  rcases h with ⟨_, _, h⟩ | ⟨hb, _, a, x, A, y, B, hp, hf, hxy, hB, hq⟩
  · have h1 : okP [2, 0, 1] := by decide
    have := h h1
    simp [Fall] at this
  · refine ⟨?_, hb⟩
    match a, hp with
    | [], hp =>
      injection hp with e1 e2
      rw [← e2] at hf
      simp [Fall] at hf
    | [a0], hp =>
      injection hp with e1 e2
      injection e2 with e2 e3
      match A, e3 with
      | [], e3 =>
        injection e3 with e3 e4
        subst e1 e2 e3 e4
        rw [hq]; rfl
      | c :: A, e3 =>
        injection e3 with e3 e4
        simp at e4
    | [a0, a1], hp =>
      injection hp with e1 e2
      injection e2 with e2 e3
      injection e3 with e3 e4
      simp at e4
    | a0 :: a1 :: a2 :: a, hp =>
      injection hp with e1 e2
      injection e2 with e2 e3
      injection e3 with e3 e4
      simp at e4
theorem fill_201 : fillP [(2, 0)] 3 [] = [1, 2, 0] := by decide
theorem next_120 : nextP [(2, 0)] 3 [1, 2, 0] = some [2, 0, 1] := by decide
theorem next_201 : nextP [(2, 0)] 3 [2, 0, 1] = some [2, 1, 0] := by decide
theorem next_210 : nextP [(2, 0)] 3 [2, 1, 0] = none := by decide
theorem fill_no : (fillP [(0, 1), (1, 0)] 2 []).length = 0 := by decide
/-! rows that Next has given stay as they are -/
def Kp (w : World) (k : WK) (v : Value) : Nat → Prop := fun b => b < w.heap.size ∧ ¬ Sx k v b
theorem kept_new {w w' : World} {k : WK} {v v' u : Value} {q : List Int} (hb : ∀ b, Sx k v b → b < w.heap.size) (ho : OwnI w' 0 u q) (hf : ∀ g, u.ownBlock = some g → w.heap.size ≤ g ∧ v'.ownBlock ≠ some g) : IntsV w' (Kp w' k v') u q :=
  (OwnI.own ho).mono fun b e => ⟨(OwnI.lt ho e).2, fun hs => by
    have h1 := (hf b e).1
    rcases hs with h | h | h | h
    · have := hb b (.inl h); omega
    · have := hb b (.inr (.inl h)); omega
    · have := hb b (.inr (.inr (.inl h))); omega
    · exact (hf b e).2 h⟩
theorem kept_fx {w w' : World} {k : WK} {v v' u : Value} {q : List Int} (h : IntsV w (Kp w k v) u q) (hf : Fx (Sx k v) w w') (hv : ∀ g, v'.ownBlock = some g → v.ownBlock = some g ∨ w.heap.size ≤ g) : IntsV w' (Kp w' k v') u q :=
  (h.keep hf fun b hb => hb.2).mono fun b hb => ⟨Nat.lt_of_lt_of_le hb.1 hf.size, fun hs => by
    rcases hs with e | e | e | e
    · exact hb.2 (.inl e)
    · exact hb.2 (.inr (.inl e))
    · exact hb.2 (.inr (.inr (.inl e)))
    · rcases hv b e with e | e
      · exact hb.2 (.inr (.inr (.inr e)))
      · have := hb.1; omega⟩
theorem kept_no {w w' : World} {k : WK} {v u : Value} {q : List Int} (h : IntsV w (Kp w k v) u q) (hf : Fx No w w') : IntsV w' (Kp w' k v) u q :=
  (h.no hf).mono fun b hb => ⟨Nat.lt_of_lt_of_le hb.1 hf.size, hb.2⟩
#print axioms after_201
end Go.Proofs.Ytddpdjbgidmdlaa
