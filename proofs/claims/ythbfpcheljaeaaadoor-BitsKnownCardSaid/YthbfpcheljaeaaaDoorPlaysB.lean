/- The law BitsPlays: does, at an act of one number, or of none. -/
import Derived.Test.YthbfpcheljaeaaaDoorPlaysA
import Derived.Deep.RegionWith
namespace Go.Proofs.YthbfpcheljaeaaaDoor
open Go.RowKit
set_option linter.unusedVariables false

/-- what lies in the boxes of does -/
structure BoxOk (g : Nat) (rv lv mv : Value) (a : ActM) (w : World) : Prop where
  c4 : w.cell? ⟨g, 0, none⟩ = some rv
  p0 : w.cell? ⟨g + 1, 0, none⟩ = some (.int .i64 a.d)
  p1 : w.cell? ⟨g + 1, 1, none⟩ = some (.int .i64 a.i)
  p2 : w.cell? ⟨g + 1, 2, none⟩ = some (.int .i64 a.s)
  p3 : w.cell? ⟨g + 1, 3, none⟩ = some lv
  p4 : w.cell? ⟨g + 1, 4, none⟩ = some mv
  p5 : w.cell? ⟨g + 1, 5, none⟩ = some (.bool a.own)
  c6 : w.cell? ⟨g + 2, 0, none⟩ = some (.slice none 0 0)
  z6 : w.frozen? ⟨g + 2, 0, none⟩ = false
theorem BoxOk.keep {g : Nat} {rv lv mv : Value} {a : ActM} {w w1 : World} {S : Nat → Prop} (h : BoxOk g rv lv mv a w) (hf : Fx S w w1) (hn : ∀ k, g ≤ k → ¬ S k) : BoxOk g rv lv mv a w1 :=
  ⟨hf.cell' h.c4 (hn _ (by simp)), hf.cell' h.p0 (hn _ (by simp)), hf.cell' h.p1 (hn _ (by simp)), hf.cell' h.p2 (hn _ (by simp)), hf.cell' h.p3 (hn _ (by simp)), hf.cell' h.p4 (hn _ (by simp)), hf.cell' h.p5 (hn _ (by simp)),
    hf.cell' h.c6 (hn _ (by simp)), (hf.cellF h.c6 h.z6 (hn _ (by simp))).2⟩
theorem BoxOk.made (w : World) (rv lv mv : Value) (a : ActM) :
    BoxOk w.heap.size rv lv mv a (((w.alloc (.cells #[rv] 28)).alloc (.cells #[.int .i64 a.d, .int .i64 a.i, .int .i64 a.s, lv, mv, .bool a.own] 47)).alloc (.cells #[.slice none 0 0] 28)) := by
  constructor <;> simp [go_sem]
/-- what an act makes of a set -/
def actX (n X : Nat) (a : ActM) : Nat :=
  if a.d = 0 ∨ a.d = 1 then addX n X a.i
  else if a.d = 2 then remX X a.i
  else if a.d = 3 ∨ a.d = 4 ∨ a.d = 5 then doX (a.d - 3) n X [(newN a.s, ofX (newN a.s) a.l), if a.own then (n, X) else (newN (a.s + 9), ofX (newN (a.s + 9)) a.m)]
  else X
def DoesR (D E : Nat → Prop) (w : World) (b n Y : Nat) (e : Ending) (w' : World) : Prop :=
  ∃ rv', e = .returned (.tuple #[.agg #[rv'], .bool true]) ∧ Fx D w w' ∧ SetIn w' D b n Y ∧ IsR w' (DU E w w') rv' n Y
theorem IsR.du {w w0 w1 w2 : World} {E : Nat → Prop} {v : Value} {n X : Nat} (h : IsR w1 (DU E w0 w1) v n X) (hf : Fx No w w0) (hf2 : Fx No w1 w2) : IsR w2 (DU E w w2) v n X :=
  (h.no hf2).mono fun k hk => by
    rcases hk with hk | ⟨h1, h2⟩
    · exact .inl hk
    · exact .inr ⟨Nat.le_trans hf.size h1, Nat.lt_of_lt_of_le h2 hf2.size⟩
theorem IsR.end {w w0 w1 w3 : World} {D E : Nat → Prop} {rv v : Value} {n Y : Nat} (hs : IsR w1 (DU E w0 w1) rv n Y) (hg : w0.heap.size = w.heap.size + 3) (hf : Fx D w1 w3) (hD : ∀ k, D k → k < w.heap.size)
    (hE : ∀ k, E k → ¬ D k) (hEb : ∀ k, E k → k < w.heap.size) : IsR (w3.setCell ⟨w.heap.size + 2, 0, none⟩ v) (DU E w (w3.setCell ⟨w.heap.size + 2, 0, none⟩ v)) rv n Y := by
  have h1 : IsR w3 (DU E w0 w1) rv n Y := hs.keep hf (by
    rintro k (hk | ⟨hk, _⟩) hd
    · exact hE k hk hd
    · have := hD k hd; omega)
  have h2 := h1.keep (Fx.put w3 (w.heap.size + 2) 0 v) (by
    rintro k (hk | ⟨hk, _⟩) rfl
    · have := hEb _ hk; omega
    · omega)
  refine h2.mono ?_
  rintro k (hk | ⟨hk, hk2⟩)
  · exact .inl hk
  · have := hf.size
    exact .inr ⟨by omega, by simp; omega⟩
set_option maxHeartbeats 2000000 in
theorem doesAdd_any {w : World} {D E : Nat → Prop} {rv lv mv : Value} {b n X : Nat} (a : ActM) (h : SetIn w D b n X) (hD : ∀ k, D k → k < w.heap.size) (hr : IsR w E rv n X) (hE : ∀ k, E k → ¬ D k) (hEb : ∀ k, E k → k < w.heap.size) (hd : a.d = 0 ∨ a.d = 1) :
    Calls Tryd.prog 28 #[.pointer (some ⟨b, 0, none⟩), .agg #[rv], .agg #[.int .i64 a.d, .int .i64 a.i, .int .i64 a.s, lv, mv, .bool a.own]] w (DoesR D E w b n (addX n X a.i)) := by
  have H := Lib.hid h
  have HR := Lib.hid hr
  have HD := Lib.hid hD
  have HE := Lib.hid hE
  have HEb := Lib.hid hEb
  have hB := BoxOk.made w rv lv mv a
  have hfx : Fx No w (((w.alloc (.cells #[rv] 28)).alloc (.cells #[.int .i64 a.d, .int .i64 a.i, .int .i64 a.s, lv, mv, .bool a.own] 47)).alloc (.cells #[.slice none 0 0] 28)) := (((Fx.refl No w).alloc _).alloc _).alloc _
  have HB := Lib.hid hB
  have HFX := Lib.hid hfx
  obtain ⟨ro, rcap, rfl, _⟩ := hr.facts
  obtain ⟨d, i, s, l, m, own⟩ := a
  simp only at hd ⊢
  clear h hr hD hE hEb hB hfx
  rcases hd with rfl | rfl
  all_goals
    go_enter Tryd.func28, Tryd.ntmps28
    go_wp2_with fail
    refine (refAdd_any (HR.out.no HFX.out) i).mono ?_
    rintro e w1 ⟨v, rfl, hf, hs⟩
    obtain ⟨vo, vcap, rfl, _⟩ := hs.facts
    have HB1 : Hid (BoxOk w.heap.size (.slice ro n rcap) lv mv _ w1) := HB.out.keep hf (fun _ _ h => h)
    have HF1 : Hid (Fx No w w1) := HFX.out.trans hf
    have HS1 := Lib.hid hs
    have hz := hf.size
    simp only [World.size_alloc] at hz
    clear hf hs
    go_wp2_with fail
    generalize hw2 : w1.alloc (Obj.cells #[Value.slice vo n vcap] 28) = w2
    have hf2 : Fx No w1 w2 := by rw [← hw2]; exact (Fx.refl No w1).alloc _
    have q8 : w2.cell? ⟨w1.heap.size, 0, none⟩ = some (.slice vo n vcap) := by rw [← hw2]; simp
    have hb1 : BoxOk w.heap.size (.slice ro n rcap) lv mv _ w2 := HB1.out.keep hf2 (fun _ _ h => h)
    have q1 := hb1.p1
    have q6 := hb1.c6
    have z6 := hb1.z6
    simp only at q1 q6 z6
    have HF2 : Hid (Fx No w w2) := HF1.out.trans hf2
    have HF12 : Hid (Fx No w1 w2) := hf2
    have hz2 := hf2.size
    clear hw2 hb1 hf2
    have C1 : Hid (∀ w', Fx No w2 w' → Calls Tryd.prog 20 #[.pointer (some ⟨b, 0, none⟩), .int .i64 i] w' fun e w'' => e = .returned (.bool (addB n X i)) ∧ Fx D w2 w'' ∧ SetIn w'' D b n (addX n X i) ∧
        w''.cell? ⟨w1.heap.size, 0, none⟩ = some (.slice vo n vcap) ∧ w''.cell? ⟨w.heap.size + 2, 0, none⟩ = some (.slice none 0 0) ∧ w''.frozen? ⟨w.heap.size + 2, 0, none⟩ = false) := fun w' h => by
      have HD := HD.out
      refine (add_any ((H.out.no HF2.out).no h).p i).mono ?_
      rintro e w'' ⟨rfl, hf, hs⟩
      have hf' := Fx.trans (Fx.no h) hf
      exact ⟨rfl, hf', hs.in, hf'.cell' q8 (fun hk => by have := HD _ hk; simp at this; omega), hf'.cellF q6 z6 (fun hk => by have := HD _ hk; simp at this; omega)⟩
    go_region_with (go_at_call 20; refine (C1.out _ (Fx.refl No w2).drew).mono ?_; rintro e w3 ⟨rfl, hf, hs, q8, q6, z6⟩)
    all_goals
      go_wp2
      have hres := World.cell?_setCell_same w3 ⟨w.heap.size + 2, 0, none⟩ (.slice vo n vcap) q6
      have hput := Fx.put w3 (w.heap.size + 2) 0 (.slice vo n vcap)
      refine bodyPost_ret (v := .tuple #[.agg #[.slice vo n vcap], .bool true]) (by simp [results, Tryd.results28, go_sem, hres]) rfl ⟨_, rfl, ?_, ?_, ?_⟩
      · exact (HF2.out.no.trans hf).trans' hput (by rintro j rfl hj; omega)
      · exact hs.keep hput (by rintro j hj rfl; have := HD.out _ hj; omega)
      · exact IsR.end HS1.out (by simp) (HF12.out.no.trans hf) HD.out HE.out HEb.out
set_option maxHeartbeats 2000000 in
theorem doesRem_any {w : World} {D E : Nat → Prop} {rv lv mv : Value} {b n X : Nat} (a : ActM) (h : SetIn w D b n X) (hD : ∀ k, D k → k < w.heap.size) (hr : IsR w E rv n X) (hE : ∀ k, E k → ¬ D k) (hEb : ∀ k, E k → k < w.heap.size) (hd : a.d = 2) :
    Calls Tryd.prog 28 #[.pointer (some ⟨b, 0, none⟩), .agg #[rv], .agg #[.int .i64 a.d, .int .i64 a.i, .int .i64 a.s, lv, mv, .bool a.own]] w (DoesR D E w b n (remX X a.i)) := by
  have H := Lib.hid h
  have HR := Lib.hid hr
  have HD := Lib.hid hD
  have HE := Lib.hid hE
  have HEb := Lib.hid hEb
  have hB := BoxOk.made w rv lv mv a
  have hfx : Fx No w (((w.alloc (.cells #[rv] 28)).alloc (.cells #[.int .i64 a.d, .int .i64 a.i, .int .i64 a.s, lv, mv, .bool a.own] 47)).alloc (.cells #[.slice none 0 0] 28)) := (((Fx.refl No w).alloc _).alloc _).alloc _
  have HB := Lib.hid hB
  have HFX := Lib.hid hfx
  obtain ⟨ro, rcap, rfl, _⟩ := hr.facts
  obtain ⟨d, i, s, l, m, own⟩ := a
  simp only at hd ⊢
  clear h hr hD hE hEb hB hfx
  obtain rfl := hd
  all_goals
    go_enter Tryd.func28, Tryd.ntmps28
    go_wp2_with fail
    refine (refRemove_any (HR.out.no HFX.out) i).mono ?_
    rintro e w1 ⟨v, rfl, hf, hs⟩
    obtain ⟨vo, vcap, rfl, _⟩ := hs.facts
    have HB1 : Hid (BoxOk w.heap.size (.slice ro n rcap) lv mv _ w1) := HB.out.keep hf (fun _ _ h => h)
    have HF1 : Hid (Fx No w w1) := HFX.out.trans hf
    have HS1 := Lib.hid hs
    have hz := hf.size
    simp only [World.size_alloc] at hz
    clear hf hs
    go_wp2_with fail
    generalize hw2 : w1.alloc (Obj.cells #[Value.slice vo n vcap] 28) = w2
    have hf2 : Fx No w1 w2 := by rw [← hw2]; exact (Fx.refl No w1).alloc _
    have q8 : w2.cell? ⟨w1.heap.size, 0, none⟩ = some (.slice vo n vcap) := by rw [← hw2]; simp
    have hb1 : BoxOk w.heap.size (.slice ro n rcap) lv mv _ w2 := HB1.out.keep hf2 (fun _ _ h => h)
    have q1 := hb1.p1
    have q6 := hb1.c6
    have z6 := hb1.z6
    simp only at q1 q6 z6
    have HF2 : Hid (Fx No w w2) := HF1.out.trans hf2
    have HF12 : Hid (Fx No w1 w2) := hf2
    have hz2 := hf2.size
    clear hw2 hb1 hf2
    have C1 : Hid (∀ w', Fx No w2 w' → Calls Tryd.prog 21 #[.pointer (some ⟨b, 0, none⟩), .int .i64 i] w' fun e w'' => e = .returned (.bool (hasB X i)) ∧ Fx D w2 w'' ∧ SetIn w'' D b n (remX X i) ∧
        w''.cell? ⟨w1.heap.size, 0, none⟩ = some (.slice vo n vcap) ∧ w''.cell? ⟨w.heap.size + 2, 0, none⟩ = some (.slice none 0 0) ∧ w''.frozen? ⟨w.heap.size + 2, 0, none⟩ = false) := fun w' h => by
      have HD := HD.out
      refine (remove_any ((H.out.no HF2.out).no h).p i).mono ?_
      rintro e w'' ⟨rfl, hf, hs⟩
      have hf' := Fx.trans (Fx.no h) hf
      exact ⟨rfl, hf', hs.in, hf'.cell' q8 (fun hk => by have := HD _ hk; simp at this; omega), hf'.cellF q6 z6 (fun hk => by have := HD _ hk; simp at this; omega)⟩
    go_region_with (go_at_call 21; refine (C1.out _ (Fx.refl No w2).drew).mono ?_; rintro e w3 ⟨rfl, hf, hs, q8, q6, z6⟩)
    all_goals
      go_wp2
      have hres := World.cell?_setCell_same w3 ⟨w.heap.size + 2, 0, none⟩ (.slice vo n vcap) q6
      have hput := Fx.put w3 (w.heap.size + 2) 0 (.slice vo n vcap)
      refine bodyPost_ret (v := .tuple #[.agg #[.slice vo n vcap], .bool true]) (by simp [results, Tryd.results28, go_sem, hres]) rfl ⟨_, rfl, ?_, ?_, ?_⟩
      · exact (HF2.out.no.trans hf).trans' hput (by rintro j rfl hj; omega)
      · exact hs.keep hput (by rintro j hj rfl; have := HD.out _ hj; omega)
      · exact IsR.end HS1.out (by simp) (HF12.out.no.trans hf) HD.out HE.out HEb.out
theorem doesNo_any {w : World} {D E : Nat → Prop} {rv lv mv : Value} {b n X : Nat} (a : ActM) (h : SetIn w D b n X) (hD : ∀ k, D k → k < w.heap.size) (hr : IsR w E rv n X) (hE : ∀ k, E k → ¬ D k) (hEb : ∀ k, E k → k < w.heap.size)
    (hd : (a.d == 0) = false ∧ (a.d == 1) = false ∧ (a.d == 2) = false ∧ (a.d == 3) = false ∧ (a.d == 4) = false ∧ (a.d == 5) = false) :
    Calls Tryd.prog 28 #[.pointer (some ⟨b, 0, none⟩), .agg #[rv], .agg #[.int .i64 a.d, .int .i64 a.i, .int .i64 a.s, lv, mv, .bool a.own]] w (DoesR D E w b n X) := by
  have H := Lib.hid h
  have HR := Lib.hid hr
  have HD := Lib.hid hD
  have HE := Lib.hid hE
  have HEb := Lib.hid hEb
  have hB := BoxOk.made w rv lv mv a
  have hfx : Fx No w (((w.alloc (.cells #[rv] 28)).alloc (.cells #[.int .i64 a.d, .int .i64 a.i, .int .i64 a.s, lv, mv, .bool a.own] 47)).alloc (.cells #[.slice none 0 0] 28)) := (((Fx.refl No w).alloc _).alloc _).alloc _
  obtain ⟨ro, rcap, rfl, _⟩ := hr.facts
  obtain ⟨d, i, s, l, m, own⟩ := a
  simp only at hd hB hfx ⊢
  obtain ⟨d0, d1, d2, d3, d4, d5⟩ := hd
  clear h hr hD hE hEb hB hfx
  have hf3 : Fx No w (((w.alloc (.cells #[.slice ro n rcap] 28)).alloc (.cells #[.int .i64 d, .int .i64 i, .int .i64 s, lv, mv, .bool own] 47)).alloc (.cells #[.slice ro n rcap] 28)) := (((Fx.refl No w).alloc _).alloc _).alloc _
  have HF3 := Lib.hid hf3
  clear hf3
  go_enter Tryd.func28, Tryd.ntmps28
  go_wp2_with fail
  exact bodyPost_ret (v := .tuple #[.agg #[.slice ro n rcap], .bool true]) (by simp [results, Tryd.results28, go_sem]) rfl ⟨_, rfl, HF3.out.no, H.out.no HF3.out, (HR.out.no HF3.out).mono fun k hk => .inl hk⟩
#print axioms doesAdd_any
end Go.Proofs.YthbfpcheljaeaaaDoor
