/- Contracts of package bits, as the laws call them: one set handed in; values told by an equation. -/
import Derived.Test.YthbfpcheljaeaaaDoorLawB
import Derived.Test.YthbfpcheljaeaaaDoorSetsMath
namespace Go.Proofs.YthbfpcheljaeaaaDoor
open Go.RowKit
set_option linter.unusedVariables false

theorem sameB_refl (n X : Nat) : sameB n X n X = true := (sameB_iff n X n X).2 ⟨rfl, rfl⟩
theorem lenV {w : World} {D : Nat → Prop} {p : Option Addr} {n X : Nat} {z : Int} (h : SetP w D p n X) (hz : (cntX n X : Int) = z) :
    Calls Tryd.prog 17 #[.pointer p] w fun e w' => e = .returned (.int .i64 z) ∧ w = w' :=
  (len_any h).mono (by rintro e w' ⟨rfl, rfl⟩; exact ⟨by rw [hz], rfl⟩)
theorem hasV {w : World} {D : Nat → Prop} {p : Option Addr} {n X : Nat} {z : Bool} {i : Int} (h : SetP w D p n X) (hz : hasB X i = z) :
    Calls Tryd.prog 19 #[.pointer p, .int .i64 i] w fun e w' => e = .returned (.bool z) ∧ w = w' :=
  (has_any h i).mono (by rintro e w' ⟨rfl, rfl⟩; exact ⟨by rw [hz], rfl⟩)
theorem withinV {w : World} {D E : Nat → Prop} {p q : Option Addr} {n X m Y : Nat} {z : Bool} (h : SetP w D p n X) (h' : SetP w E q m Y) (hz : withinB X Y = z) :
    Calls Tryd.prog 13 #[.pointer p, .pointer q] w fun e w' => e = .returned (.bool z) ∧ w = w' :=
  (within_any h h').mono (by rintro e w' ⟨rfl, rfl⟩; exact ⟨by rw [hz], rfl⟩)
theorem sameV {w : World} {D E : Nat → Prop} {p q : Option Addr} {n X m Y : Nat} {z : Bool} (h : SetP w D p n X) (h' : SetP w E q m Y) (hz : sameB n X m Y = z) :
    Calls Tryd.prog 11 #[.pointer p, .pointer q] w fun e w' => e = .returned (.bool z) ∧ w = w' :=
  (same_any h h').mono (by rintro e w' ⟨rfl, rfl⟩; exact ⟨by rw [hz], rfl⟩)
theorem SetIn.iv {w w1 : World} {a b c d q n X : Nat} (h : SetIn w (Iv a b) q n X) (hf : Fx (Iv c d) w w1) (hd : b ≤ c ∨ d ≤ a) : SetIn w1 (Iv a b) q n X :=
  h.keep hf (Iv.disj hd)
theorem joinOne {w : World} {D E : Nat → Prop} {q : Option Addr} {b n X m Y Z : Nat} {z : Int} (h : SetIn w D b n X) (hD : ∀ k, D k → k < w.heap.size) (hq : SetP w E q m Y) (hDE : ∀ k, E k → ¬ D k)
    (hZ : rawX 0 X [Y] % 2 ^ n = Z) (hz : (cntX n (X ^^^ Z) : Int) = z) :
    Calls Tryd.prog 23 #[.pointer (some ⟨b, 0, none⟩), .slice (some ⟨w.heap.size, 0, none⟩) 1 1] (w.alloc (.cells #[.pointer q] 24)) fun e w' =>
      e = .returned (.int .i64 z) ∧ Fx D w w' ∧ SetIn w' D b n Z := by
  have ha : Fx No w (w.alloc (.cells #[.pointer q] 24)) := (Fx.refl No w).alloc _
  refine (join_any (L := [(q, Y)]) (E := fun k => E k ∨ w.heap.size ≤ k) (h.no ha) ((SlV.new w 24 #[.pointer q] 1 1 rfl (by decide)).mono fun k hk => .inr hk) (by
      intro x hx
      simp only [List.mem_singleton] at hx
      subst hx
      exact .inr ⟨m, ((hq.no' ha).mono fun k hk => .inl hk)⟩) (by
      rintro k (hk | hk) hd
      · exact hDE k hk hd
      · have := hD k hd; omega) (by simp)).mono ?_
  rintro e w' ⟨rfl, hf, hs⟩
  have e1 : rawX 0 X (List.map (fun x => x.2) [(q, Y)]) % 2 ^ n = Z := hZ
  rw [e1] at hs ⊢
  exact ⟨by rw [← hz]; rfl, (Fx.alloc (Fx.refl D w) _).trans' hf (fun j hj _ => hj), hs⟩
/-- the very set handed in -/
theorem joinOwn {w : World} {D : Nat → Prop} {b n X m Y Z : Nat} {z : Int} (L : List (Option Addr × Nat)) (cs : Array Value) (hcs : cs = (ptrs L).toArray) (E : Nat → Prop) (h : SetIn w D b n X) (hD : ∀ k, D k → k < w.heap.size) (hDE : ∀ k, E k → ¬ D k)
    (hL : ∀ q ∈ L, (q.1 = some ⟨b, 0, none⟩ ∧ q.2 = X) ∨ ∃ m, SetP w E q.1 m q.2) (hlen : L.length ≤ 100000)
    (hZ : rawX 0 X (L.map (·.2)) % 2 ^ n = Z) (hz : (turnN n X Z : Int) = z) :
    Calls Tryd.prog 23 #[.pointer (some ⟨b, 0, none⟩), .slice (some ⟨w.heap.size, 0, none⟩) L.length L.length] (w.alloc (.cells cs 24)) fun e w' =>
      e = .returned (.int .i64 z) ∧ Fx D w w' ∧ SetIn w' D b n Z := by
  subst hcs
  have ha : Fx No w (w.alloc (.cells (ptrs L).toArray 24)) := (Fx.refl No w).alloc _
  have hsl := SlV.new w 24 (ptrs L).toArray 1 L.length (by simp [ptrs]) (by unfold maxLen; omega)
  simp only [List.toList_toArray] at hsl
  refine (join_any (L := L) (E := fun k => E k ∨ w.heap.size ≤ k) (h.no ha) (hsl.mono fun k hk => .inr hk) (by
      intro x hx
      rcases hL x hx with h1 | ⟨m, h1⟩
      · exact .inl h1
      · exact .inr ⟨m, ((h1.no' ha).mono fun k hk => .inl hk)⟩) (by
      rintro k (hk | hk) hd
      · exact hDE k hk hd
      · have := hD k hd; omega) hlen).mono ?_
  rintro e w' ⟨rfl, hf, hs⟩
  rw [hZ] at hs ⊢
  exact ⟨by rw [← hz], (Fx.alloc (Fx.refl D w) _).trans' hf (fun j hj _ => hj), hs⟩
theorem meetOne {w : World} {D E : Nat → Prop} {q : Option Addr} {b n X m Y Z : Nat} {z : Int} (h : SetIn w D b n X) (hD : ∀ k, D k → k < w.heap.size) (hq : SetP w E q m Y) (hDE : ∀ k, E k → ¬ D k)
    (hZ : rawX 1 X [Y] % 2 ^ n = Z) (hz : (cntX n (X ^^^ Z) : Int) = z) :
    Calls Tryd.prog 24 #[.pointer (some ⟨b, 0, none⟩), .slice (some ⟨w.heap.size, 0, none⟩) 1 1] (w.alloc (.cells #[.pointer q] 24)) fun e w' =>
      e = .returned (.int .i64 z) ∧ Fx D w w' ∧ SetIn w' D b n Z := by
  have ha : Fx No w (w.alloc (.cells #[.pointer q] 24)) := (Fx.refl No w).alloc _
  refine (meet_any (L := [(q, Y)]) (E := fun k => E k ∨ w.heap.size ≤ k) (h.no ha) ((SlV.new w 24 #[.pointer q] 1 1 rfl (by decide)).mono fun k hk => .inr hk) (by
      intro x hx
      simp only [List.mem_singleton] at hx
      subst hx
      exact .inr ⟨m, ((hq.no' ha).mono fun k hk => .inl hk)⟩) (by
      rintro k (hk | hk) hd
      · exact hDE k hk hd
      · have := hD k hd; omega) (by simp)).mono ?_
  rintro e w' ⟨rfl, hf, hs⟩
  have e1 : rawX 1 X (List.map (fun x => x.2) [(q, Y)]) % 2 ^ n = Z := hZ
  rw [e1] at hs ⊢
  exact ⟨by rw [← hz]; rfl, (Fx.alloc (Fx.refl D w) _).trans' hf (fun j hj _ => hj), hs⟩
/-- the very set handed in -/
theorem meetOwn {w : World} {D : Nat → Prop} {b n X m Y Z : Nat} {z : Int} (L : List (Option Addr × Nat)) (cs : Array Value) (hcs : cs = (ptrs L).toArray) (E : Nat → Prop) (h : SetIn w D b n X) (hD : ∀ k, D k → k < w.heap.size) (hDE : ∀ k, E k → ¬ D k)
    (hL : ∀ q ∈ L, (q.1 = some ⟨b, 0, none⟩ ∧ q.2 = X) ∨ ∃ m, SetP w E q.1 m q.2) (hlen : L.length ≤ 100000)
    (hZ : rawX 1 X (L.map (·.2)) % 2 ^ n = Z) (hz : (turnN n X Z : Int) = z) :
    Calls Tryd.prog 24 #[.pointer (some ⟨b, 0, none⟩), .slice (some ⟨w.heap.size, 0, none⟩) L.length L.length] (w.alloc (.cells cs 24)) fun e w' =>
      e = .returned (.int .i64 z) ∧ Fx D w w' ∧ SetIn w' D b n Z := by
  subst hcs
  have ha : Fx No w (w.alloc (.cells (ptrs L).toArray 24)) := (Fx.refl No w).alloc _
  have hsl := SlV.new w 24 (ptrs L).toArray 1 L.length (by simp [ptrs]) (by unfold maxLen; omega)
  simp only [List.toList_toArray] at hsl
  refine (meet_any (L := L) (E := fun k => E k ∨ w.heap.size ≤ k) (h.no ha) (hsl.mono fun k hk => .inr hk) (by
      intro x hx
      rcases hL x hx with h1 | ⟨m, h1⟩
      · exact .inl h1
      · exact .inr ⟨m, ((h1.no' ha).mono fun k hk => .inl hk)⟩) (by
      rintro k (hk | hk) hd
      · exact hDE k hk hd
      · have := hD k hd; omega) hlen).mono ?_
  rintro e w' ⟨rfl, hf, hs⟩
  rw [hZ] at hs ⊢
  exact ⟨by rw [← hz], (Fx.alloc (Fx.refl D w) _).trans' hf (fun j hj _ => hj), hs⟩
theorem lessOne {w : World} {D E : Nat → Prop} {q : Option Addr} {b n X m Y Z : Nat} {z : Int} (h : SetIn w D b n X) (hD : ∀ k, D k → k < w.heap.size) (hq : SetP w E q m Y) (hDE : ∀ k, E k → ¬ D k)
    (hZ : rawX 2 X [Y] % 2 ^ n = Z) (hz : (cntX n (X ^^^ Z) : Int) = z) :
    Calls Tryd.prog 25 #[.pointer (some ⟨b, 0, none⟩), .slice (some ⟨w.heap.size, 0, none⟩) 1 1] (w.alloc (.cells #[.pointer q] 24)) fun e w' =>
      e = .returned (.int .i64 z) ∧ Fx D w w' ∧ SetIn w' D b n Z := by
  have ha : Fx No w (w.alloc (.cells #[.pointer q] 24)) := (Fx.refl No w).alloc _
  refine (less_any (L := [(q, Y)]) (E := fun k => E k ∨ w.heap.size ≤ k) (h.no ha) ((SlV.new w 24 #[.pointer q] 1 1 rfl (by decide)).mono fun k hk => .inr hk) (by
      intro x hx
      simp only [List.mem_singleton] at hx
      subst hx
      exact .inr ⟨m, ((hq.no' ha).mono fun k hk => .inl hk)⟩) (by
      rintro k (hk | hk) hd
      · exact hDE k hk hd
      · have := hD k hd; omega) (by simp)).mono ?_
  rintro e w' ⟨rfl, hf, hs⟩
  have e1 : rawX 2 X (List.map (fun x => x.2) [(q, Y)]) % 2 ^ n = Z := hZ
  rw [e1] at hs ⊢
  exact ⟨by rw [← hz]; rfl, (Fx.alloc (Fx.refl D w) _).trans' hf (fun j hj _ => hj), hs⟩
/-- the very set handed in -/
theorem lessOwn {w : World} {D : Nat → Prop} {b n X m Y Z : Nat} {z : Int} (L : List (Option Addr × Nat)) (cs : Array Value) (hcs : cs = (ptrs L).toArray) (E : Nat → Prop) (h : SetIn w D b n X) (hD : ∀ k, D k → k < w.heap.size) (hDE : ∀ k, E k → ¬ D k)
    (hL : ∀ q ∈ L, (q.1 = some ⟨b, 0, none⟩ ∧ q.2 = X) ∨ ∃ m, SetP w E q.1 m q.2) (hlen : L.length ≤ 100000)
    (hZ : rawX 2 X (L.map (·.2)) % 2 ^ n = Z) (hz : (turnN n X Z : Int) = z) :
    Calls Tryd.prog 25 #[.pointer (some ⟨b, 0, none⟩), .slice (some ⟨w.heap.size, 0, none⟩) L.length L.length] (w.alloc (.cells cs 24)) fun e w' =>
      e = .returned (.int .i64 z) ∧ Fx D w w' ∧ SetIn w' D b n Z := by
  subst hcs
  have ha : Fx No w (w.alloc (.cells (ptrs L).toArray 24)) := (Fx.refl No w).alloc _
  have hsl := SlV.new w 24 (ptrs L).toArray 1 L.length (by simp [ptrs]) (by unfold maxLen; omega)
  simp only [List.toList_toArray] at hsl
  refine (less_any (L := L) (E := fun k => E k ∨ w.heap.size ≤ k) (h.no ha) (hsl.mono fun k hk => .inr hk) (by
      intro x hx
      rcases hL x hx with h1 | ⟨m, h1⟩
      · exact .inl h1
      · exact .inr ⟨m, ((h1.no' ha).mono fun k hk => .inl hk)⟩) (by
      rintro k (hk | hk) hd
      · exact hDE k hk hd
      · have := hD k hd; omega) hlen).mono ?_
  rintro e w' ⟨rfl, hf, hs⟩
  rw [hZ] at hs ⊢
  exact ⟨by rw [← hz], (Fx.alloc (Fx.refl D w) _).trans' hf (fun j hj _ => hj), hs⟩
#print axioms joinOne
#print axioms lessOwn
end Go.Proofs.YthbfpcheljaeaaaDoor
