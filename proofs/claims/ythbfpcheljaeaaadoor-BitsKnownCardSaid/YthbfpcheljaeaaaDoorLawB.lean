/- The law's works. -/
import Derived.Test.YthbfpcheljaeaaaDoorLawA
import Derived.Test.YthbfpcheljaeaaaDoorRefG
import Derived.Test.YthbfpcheljaeaaaDoorIterC
namespace Go.Proofs.YthbfpcheljaeaaaDoor
open Go.RowKit
set_option linter.unusedVariables false

theorem TabOk.no {w w1 : World} (h : TabOk w) (hf : Fx No w w1) : TabOk w1 := h.keep hf (fun h => h)
/-- what is made after a world -/
def Up (w : World) : Nat → Prop := fun k => w.heap.size ≤ k
theorem SetIn.up {w w0 w1 : World} {b n X : Nat} (h : SetIn w1 (Iv w.heap.size w1.heap.size) b n X) (hf : Fx No w0 w) : SetIn w1 (Up w0) b n X :=
  h.mono fun k hk => Nat.le_trans hf.size hk.1
theorem Fx.up {w0 w w1 : World} (h : Fx No w0 w) (k : Fx (Up w0) w w1) : Fx No w0 w1 := h.trans' k fun j hj hl => by
  unfold Up at hj; omega
theorem SetP.in {w : World} {D : Nat → Prop} {b n X : Nat} (h : SetP w D (some ⟨b, 0, none⟩) n X) : SetIn w D b n X := by
  rcases h with ⟨h, _⟩ | ⟨b', h, h'⟩
  · simp at h
  · simp only [Option.some.injEq, Addr.mk.injEq, and_true] at h
    subst h; exact h'
/-- a literal slice is new -/
theorem SlV.new (w : World) (e : TypeId) (cs : Array Value) (size n : Nat) (h : cs.size = n * size) (hn : n ≤ maxLen) :
    SlV (w.alloc (.cells cs e)) (Up w) (.slice (some ⟨w.heap.size, 0, none⟩) n n) size n cs.toList := by
  refine ⟨_, n, rfl, Nat.le_refl _, hn, by simpa using h, by simp, .inr ⟨w.heap.size, 0, rfl, Nat.le_refl _, fun i hi => ?_⟩⟩
  have hi' : i < cs.size := by simpa using hi
  simp [hi']
theorem works_any {w : World} (hT : TabOk w) : Calls Tryd.prog 8 #[] w fun e w' => e = .returned (.bool true) ∧ Fx No w w' := by
  have HT := Lib.hid hT
  have h0 : 0 < w.heap.size := by have := hT.lt; omega
  clear hT
  go_enter Tryd.func8, Tryd.ntmps8
  go_wp2_with fail
  refine (of_any 70 (ints_lit w [3, 69, 70, -1, 3] (by decide))).mono ?_
  rintro e w1 ⟨b, rfl, hf1, hs1⟩
  have HF1 : Hid (Fx No w w1) := ((Fx.refl No w).alloc _).transNo hf1
  have HS1 : Hid (SetIn w1 (Up w) b 70 (2 ^ 3 + 2 ^ 69)) := hs1.up ((Fx.refl No w).alloc _)
  clear hf1 hs1
  go_wp2_with fail
  refine (next_any HS1.out.p (HT.out.no HF1.out) 4 (by decide)).mono ?_
  rintro e w2 ⟨rfl, hf⟩
  have HF2 : Hid (Fx No w w2) := HF1.out.transNo hf
  have HS2 : Hid (SetIn w2 (Up w) b 70 (2 ^ 3 + 2 ^ 69)) := HS1.out.no hf
  clear hf HS1 HF1
  have e1 : nextN 70 (2 ^ 3 + 2 ^ 69) 4 = 69 := by decide
  have e2 : nextB 70 (2 ^ 3 + 2 ^ 69) 4 = true := by decide
  rw [e1, e2]
  clear e1 e2
  go_wp2_with fail
  refine (next_any HS2.out.p (HT.out.no HF2.out) 70 (by decide)).mono ?_
  rintro e w3 ⟨rfl, hf⟩
  have HF3 : Hid (Fx No w w3) := HF2.out.transNo hf
  have HS3 : Hid (SetIn w3 (Up w) b 70 (2 ^ 3 + 2 ^ 69)) := HS2.out.no hf
  clear hf HS2 HF2
  have e2 : nextB 70 (2 ^ 3 + 2 ^ 69) 70 = false := by decide
  rw [e2]
  clear e2
  obtain ⟨na, _⟩ : ∃ na, na = nextN 70 (2 ^ 3 + 2 ^ 69) 70 := ⟨_, rfl⟩
  go_wp2_with fail
  refine (len_any HS3.out.p).mono ?_
  rintro e w' ⟨rfl, rfl⟩
  have e1 : cntX 70 (2 ^ 3 + 2 ^ 69) = 2 := by decide
  rw [e1]
  clear e1
  go_wp2_with fail
  refine (all_any HS3.out.p (HT.out.no HF3.out)).mono ?_
  rintro e w4 ⟨v, rfl, hf, ho⟩
  have HF4 : Hid (Fx No w w4) := HF3.out.transNo hf
  have HS4 : Hid (SetIn w4 (Up w) b 70 (2 ^ 3 + 2 ^ 69)) := HS3.out.no hf
  have e1 : allX 70 (2 ^ 3 + 2 ^ 69) = [3, 69] := by decide
  rw [e1] at ho
  have HO := Lib.hid ho.ints
  clear hf HS3 HF3 ho e1
  go_wp2_with fail
  refine (sameInts_any (HO.out.keep ((Fx.refl No _).alloc _) No.disj) (ints_lit _ [3, 69] (by decide))).mono ?_
  rintro e w5 ⟨rfl, hf⟩
  have HF5 : Hid (Fx No w w5) := (HF4.out.alloc _).transNo hf
  have HS5 : Hid (SetIn w5 (Up w) b 70 (2 ^ 3 + 2 ^ 69)) := (HS4.out.no ((Fx.refl No _).alloc _)).no hf
  have e1 : (([3, 69] : List Int) == [3, 69]) = true := by decide
  rw [e1]
  clear hf HS4 HF4 HO e1
  go_wp2_with fail
  refine (add_any HS5.out.p 3).mono ?_
  rintro e w6 ⟨rfl, hf, hs⟩
  have HF6 : Hid (Fx No w w6) := HF5.out.up hf
  have e1 : addB 70 (2 ^ 3 + 2 ^ 69) 3 = false := by decide
  have e2 : addX 70 (2 ^ 3 + 2 ^ 69) 3 = (2 ^ 3 + 2 ^ 69) := by decide
  rw [e2] at hs
  have HS6 : Hid (SetIn w6 (Up w) b 70 (2 ^ 3 + 2 ^ 69)) := hs.in
  rw [e1]
  clear hf hs HS5 HF5 e1 e2
  go_wp2_with fail
  refine (add_any HS6.out.p 64).mono ?_
  rintro e w7 ⟨rfl, hf, hs⟩
  have HF7 : Hid (Fx No w w7) := HF6.out.up hf
  have e1 : addB 70 (2 ^ 3 + 2 ^ 69) 64 = true := by decide
  have e2 : addX 70 (2 ^ 3 + 2 ^ 69) 64 = (2 ^ 3 + 2 ^ 64 + 2 ^ 69) := by decide
  rw [e2] at hs
  have HS7 : Hid (SetIn w7 (Up w) b 70 (2 ^ 3 + 2 ^ 64 + 2 ^ 69)) := hs.in
  rw [e1]
  clear hf hs HS6 HF6 e1 e2
  go_wp2_with fail
  refine (add_any HS7.out.p 70).mono ?_
  rintro e w8 ⟨rfl, hf, hs⟩
  have HF8 : Hid (Fx No w w8) := HF7.out.up hf
  have e1 : addB 70 (2 ^ 3 + 2 ^ 64 + 2 ^ 69) 70 = false := by decide
  have e2 : addX 70 (2 ^ 3 + 2 ^ 64 + 2 ^ 69) 70 = (2 ^ 3 + 2 ^ 64 + 2 ^ 69) := by decide
  rw [e2] at hs
  have HS8 : Hid (SetIn w8 (Up w) b 70 (2 ^ 3 + 2 ^ 64 + 2 ^ 69)) := hs.in
  rw [e1]
  clear hf hs HS7 HF7 e1 e2
  go_wp2_with fail
  refine (remove_any HS8.out.p 3).mono ?_
  rintro e w9 ⟨rfl, hf, hs⟩
  have HF9 : Hid (Fx No w w9) := HF8.out.up hf
  have e1 : hasB (2 ^ 3 + 2 ^ 64 + 2 ^ 69) 3 = true := by decide
  have e2 : remX (2 ^ 3 + 2 ^ 64 + 2 ^ 69) 3 = (2 ^ 64 + 2 ^ 69) := by decide
  rw [e2] at hs
  have HS9 : Hid (SetIn w9 (Up w) b 70 (2 ^ 64 + 2 ^ 69)) := hs.in
  rw [e1]
  clear hf hs HS8 HF8 e1 e2
  go_wp2_with fail
  refine (remove_any HS9.out.p 3).mono ?_
  rintro e w10 ⟨rfl, hf, hs⟩
  have HF10 : Hid (Fx No w w10) := HF9.out.up hf
  have e1 : hasB (2 ^ 64 + 2 ^ 69) 3 = false := by decide
  have e2 : remX (2 ^ 64 + 2 ^ 69) 3 = (2 ^ 64 + 2 ^ 69) := by decide
  rw [e2] at hs
  have HS10 : Hid (SetIn w10 (Up w) b 70 (2 ^ 64 + 2 ^ 69)) := hs.in
  rw [e1]
  clear hf hs HS9 HF9 e1 e2
  go_wp2_with fail
  refine (of_any 100 (ints_lit _ [64, 5, 99] (by decide))).mono ?_
  rintro e w11 ⟨q, rfl, hf, hs⟩
  have HF11 : Hid (Fx No w w11) := (HF10.out.alloc _).transNo hf
  have HS11 : Hid (SetIn w11 (fun k => Up w k ∧ k < w10.heap.size) b 70 (2 ^ 64 + 2 ^ 69)) := (HS10.out.bound.no ((Fx.refl No _).alloc _)).no hf
  have HQ11 : Hid (SetIn w11 (Up w10) q 100 (2 ^ 5 + 2 ^ 64 + 2 ^ 99)) := hs.up ((Fx.refl No _).alloc _)
  have h11 := hf.size
  have h11 : w10.heap.size ≤ w11.heap.size := by simp at h11; omega
  clear hf hs HS10 HF10
  go_wp2_with fail
  refine (join_any (L := [(some ⟨q, 0, none⟩, 2 ^ 5 + 2 ^ 64 + 2 ^ 99)]) (E := Up w10) (HS11.out.no ((Fx.refl No _).alloc _)) ((SlV.new _ 24 #[.pointer (some ⟨q, 0, none⟩)] 1 1 rfl (by decide)).mono fun k hk => Nat.le_trans h11 hk) (by
      intro x hx
      simp only [List.mem_singleton] at hx
      subst hx
      exact .inr ⟨100, (HQ11.out.no ((Fx.refl No _).alloc _)).p⟩) (fun k hk hd => by unfold Up at hk; omega) (by simp)).mono ?_
  rintro e w12 ⟨rfl, hf, hs⟩
  have HF12 : Hid (Fx No w w12) := (HF11.out.alloc _).up (hf.mono fun k _ hk => hk.1)
  have e1 : rawX 0 (2 ^ 64 + 2 ^ 69) (List.map (fun x => x.2) [(some (⟨q, 0, none⟩ : Addr), 2 ^ 5 + 2 ^ 64 + 2 ^ 99)]) % 2 ^ 70 = 2 ^ 5 + 2 ^ 64 + 2 ^ 69 := by
    show rawX 0 (2 ^ 64 + 2 ^ 69) [2 ^ 5 + 2 ^ 64 + 2 ^ 99] % 2 ^ 70 = 2 ^ 5 + 2 ^ 64 + 2 ^ 69
    decide
  rw [e1] at hs
  rw [e1]
  have e1 : turnN 70 (2 ^ 64 + 2 ^ 69) (2 ^ 5 + 2 ^ 64 + 2 ^ 69) = 1 := by decide
  rw [e1]
  have HS12 := Lib.hid hs
  clear hf hs HS11 HQ11 HF11 e1
  go_wp2_with fail
  refine (all_any HS12.out.p (HT.out.no HF12.out)).mono ?_
  rintro e w13 ⟨v1, rfl, hf, ho⟩
  have HF13 : Hid (Fx No w w13) := HF12.out.transNo hf
  have e1 : allX 70 (2 ^ 5 + 2 ^ 64 + 2 ^ 69) = [5, 64, 69] := by decide
  rw [e1] at ho
  have HO := Lib.hid ho.ints
  clear hf HS12 HF12 ho e1
  go_wp2_with fail
  refine (sameInts_any (HO.out.keep ((Fx.refl No _).alloc _) No.disj) (ints_lit _ [5, 64, 69] (by decide))).mono ?_
  rintro e w14 ⟨rfl, hf⟩
  have HF14 : Hid (Fx No w w14) := (HF13.out.alloc _).transNo hf
  have e1 : (([5, 64, 69] : List Int) == [5, 64, 69]) = true := by decide
  rw [e1]
  clear hf HF13 HO e1
  go_wp2
  go_ret
  exact ⟨rfl, HF14.out⟩
#print axioms works_any
end Go.Proofs.YthbfpcheljaeaaaDoor
