/- The laws' own short calls (works), chapter 14. | A graph and the reference's, in a variable; plain facts for TopoRest. -/
import Derived.Test.YteafkafkbipcmaaS5
import Derived.Test.YteafkafkbipcmaaM4
import Derived.Test.YteafkafkbipcmaaM7
import Derived.Test.YteafkafkbipcmaaM5

namespace Go.Proofs.Yteafkafkbipcmaa
open Go.RowKit
set_option linter.unusedVariables false

def exA : List Ed := [⟨0, 3, 0⟩, ⟨2, 0, 0⟩]
def exA2 : List Ed := [⟨0, 3, 0⟩, ⟨2, 0, 0⟩, ⟨3, 1, 0⟩]
def exB : List Ed := [⟨1, 2, 0⟩, ⟨2, 1, 0⟩, ⟨2, 3, 0⟩]
theorem exA_s : sres exA 4 = [1, 2, 0, 3] := by decide +kernel
theorem exA_e : serr exA 4 = 0 := by decide +kernel
theorem exA_d : depD exA 4 = 2 := by decide +kernel
theorem exA_r : (rnds exA 4).map nI = [[1, 2], [0], [3]] := by decide +kernel
theorem exA_o : onlyB exA 4 = false := by decide +kernel
theorem exA2_s : sres exA2 4 = [2, 0, 3, 1] := by decide +kernel
theorem exA2_o : onlyB exA2 4 = true := by decide +kernel
theorem exB_e : serr exB 4 = 140 := by decide +kernel
theorem exB_r : (rnds exB 4).map nI = [[0]] := by decide +kernel
theorem exB_t : rstL exB 4 = [1, 2, 3] := by decide +kernel
theorem IntsV.lit (w : World) (t : TypeId) (l : List Int) (h : l.length ≤ 1000000) : IntsV (w.alloc (.cells (ints l).toArray t)) (fun k => k = w.heap.size) (.slice (some ⟨w.heap.size, 0, none⟩) l.length l.length) l := by
  refine ⟨some ⟨w.heap.size, 0, none⟩, l.length, rfl, Nat.le_refl _, by unfold maxLen; omega, by simp [ints], by simp, .inr ⟨w.heap.size, 0, rfl, rfl, fun i hi => ?_⟩⟩
  have hi' : i < l.length := by simpa [ints] using hi
  simp [ints, hi']
/-- an edge row that lies ready -/
theorem good3 (l : List Ed) (h : ∀ x ∈ l, x.f < 10 ∧ 0 ≤ x.f ∧ x.t < 10 ∧ 0 ≤ x.t ∧ x.l = 0) : ∀ x ∈ l, x.ok := fun x hx => by
  obtain ⟨h1, h2, h3, h4, h5⟩ := h x hx
  refine ⟨?_, ?_, ?_⟩ <;> unfold Ok64 <;> omega
theorem rowsLit1 (w : World) (t u : TypeId) (a : List Int) (ha : a.length ≤ 1000) : RowsR ((w.alloc (.cells (ints a).toArray t)).alloc (.cells #[.slice (some ⟨w.heap.size, 0, none⟩) a.length a.length] u)) (fun k => w.heap.size ≤ k) (.slice (some ⟨w.heap.size + 1, 0, none⟩) 1 1) [a] (fun i => [Value.slice (some ⟨w.heap.size, 0, none⟩) a.length a.length].getD i undef) := by
  obtain ⟨wa, hwa⟩ : ∃ x, x = w.alloc (.cells (ints a).toArray t) := ⟨_, rfl⟩
  have za : wa.heap.size = w.heap.size + 1 := by rw [hwa, World.size_alloc]
  have la : IntsV wa (fun k => w.heap.size ≤ k) (.slice (some ⟨w.heap.size, 0, none⟩) a.length a.length) a := by
    rw [hwa]; exact (IntsV.lit w t a (by omega)).mono fun k (hk : k = _) => by show w.heap.size ≤ k; omega
  rw [← hwa]
  have := RowsR.lit (w := wa) (E := fun k => w.heap.size ≤ k) (R := [a]) (fun i => [Value.slice (some ⟨w.heap.size, 0, none⟩) a.length a.length].getD i undef) u (fun i hi => by
    match i, hi with
    | 0, _ => exact la
    | n + 1, h => simp at h) (by simp)
  rw [za] at this
  exact this.mono fun k hk => hk.elim id fun e => by omega
theorem rowsLit3 (w : World) (t u : TypeId) (a b c : List Int) (ha : a.length ≤ 1000) (hb : b.length ≤ 1000) (hc : c.length ≤ 1000) : RowsR ((((w.alloc (.cells (ints a).toArray t)).alloc (.cells (ints b).toArray t)).alloc (.cells (ints c).toArray t)).alloc (.cells #[.slice (some ⟨w.heap.size, 0, none⟩) a.length a.length, .slice (some ⟨w.heap.size + 1, 0, none⟩) b.length b.length, .slice (some ⟨w.heap.size + 1 + 1, 0, none⟩) c.length c.length] u)) (fun k => w.heap.size ≤ k) (.slice (some ⟨w.heap.size + 1 + 1 + 1, 0, none⟩) 3 3) [a, b, c] (fun i => [Value.slice (some ⟨w.heap.size, 0, none⟩) a.length a.length, .slice (some ⟨w.heap.size + 1, 0, none⟩) b.length b.length, .slice (some ⟨w.heap.size + 1 + 1, 0, none⟩) c.length c.length].getD i undef) := by
  obtain ⟨wa, hwa⟩ : ∃ x, x = w.alloc (.cells (ints a).toArray t) := ⟨_, rfl⟩
  obtain ⟨wb, hwb⟩ : ∃ x, x = wa.alloc (.cells (ints b).toArray t) := ⟨_, rfl⟩
  obtain ⟨wc, hwc⟩ : ∃ x, x = wb.alloc (.cells (ints c).toArray t) := ⟨_, rfl⟩
  have za : wa.heap.size = w.heap.size + 1 := by rw [hwa, World.size_alloc]
  have zb : wb.heap.size = w.heap.size + 1 + 1 := by rw [hwb, World.size_alloc, za]
  have zc : wc.heap.size = w.heap.size + 1 + 1 + 1 := by rw [hwc, World.size_alloc, zb]
  have fb : Fx No wa wb := by rw [hwb]; exact (Fx.refl No _).alloc _
  have fc : Fx No wb wc := by rw [hwc]; exact (Fx.refl No _).alloc _
  have la : IntsV wc (fun k => w.heap.size ≤ k) (.slice (some ⟨w.heap.size, 0, none⟩) a.length a.length) a := by
    refine IntsV.no (IntsV.mono (T := fun k => w.heap.size ≤ k) ?_ (fun k hk => hk)) (fb.trans fc)
    rw [hwa]; exact (IntsV.lit w t a (by omega)).mono fun k (hk : k = _) => by show w.heap.size ≤ k; omega
  have lb : IntsV wc (fun k => w.heap.size ≤ k) (.slice (some ⟨w.heap.size + 1, 0, none⟩) b.length b.length) b := by
    have := IntsV.lit wa t b (by omega)
    refine IntsV.no (IntsV.mono (T := fun k => w.heap.size ≤ k) ?_ (fun k hk => hk)) fc
    rw [za] at this
    rw [hwb]; exact this.mono fun k (hk : k = _) => by show w.heap.size ≤ k; omega
  have lc : IntsV wc (fun k => w.heap.size ≤ k) (.slice (some ⟨w.heap.size + 1 + 1, 0, none⟩) c.length c.length) c := by
    have := IntsV.lit wb t c (by omega)
    rw [zb] at this
    rw [hwc]; exact this.mono fun k (hk : k = _) => by show w.heap.size ≤ k; omega
  rw [← hwa, ← hwb, ← hwc]
  have := RowsR.lit (w := wc) (E := fun k => w.heap.size ≤ k) (R := [a, b, c]) (fun i => [Value.slice (some ⟨w.heap.size, 0, none⟩) a.length a.length, .slice (some ⟨w.heap.size + 1, 0, none⟩) b.length b.length, .slice (some ⟨w.heap.size + 1 + 1, 0, none⟩) c.length c.length].getD i undef) u (fun i hi => by
    match i, hi with
    | 0, _ => exact la
    | 1, _ => exact lb
    | 2, _ => exact lc
    | n + 3, h => simp at h; omega) (by simp)
  rw [zc] at this
  exact this.mono fun k hk => hk.elim id fun e => by omega
set_option maxRecDepth 100000 in
set_option maxHeartbeats 8000000 in
theorem works_any (w : World) : Calls Try.prog 8 #[] w fun e w' => e = .returned (.bool true) ∧ Fx No w w' := by
  go_enter Try.func8, Try.ntmps8
  go_wp2_with fail
  refine (gNew_any 4 w (by omega)).mono ?_
  rintro e w1 ⟨a, rfl, hf, hg⟩
  have HF1 := Lib.hid hf
  have HA1 := Lib.hid hg
  clear hf hg
  go_wp2_with fail
  refine (gNew_any 4 w1 (by omega)).mono ?_
  rintro e w2 ⟨b, rfl, hf, hg⟩
  have HF2 := Lib.hid hf
  have HB2 := Lib.hid hg
  clear hf hg
  have HX1 : Hid (EdsV (w2.alloc (.cells #[.int .i64 2, .int .i64 0, .int .i64 0, .int .i64 0, .int .i64 3, .int .i64 0] 57)) (Iv w2.heap.size (w2.heap.size + 1)) (.slice (some ⟨w2.heap.size, 0, none⟩) 2 2) [⟨2, 0, 0⟩, ⟨0, 3, 0⟩]) := Lib.hid (EdsV.lit [⟨2, 0, 0⟩, ⟨0, 3, 0⟩] (by decide))
  have hL : addL [] [⟨2, 0, 0⟩, ⟨0, 3, 0⟩] = exA := by decide
  go_wp2_with fail
  refine (gAdd_any ((HA1.out.no HF2.out).no ((Fx.refl No w2).alloc _)) HX1.out (fun k hk hd => by have h1 := hk.1; have h2 := hd.2; have := HF2.out.size; omega) (good3 _ (by decide)) (by decide) (by decide)).mono ?_
  rintro e w3 ⟨rfl, hf, hg⟩
  rw [hL] at hg
  have HF3 : Hid (Fx No w w3) := Lib.hid (((HF1.out.trans HF2.out).alloc _).trans' hf fun j h1 h2 => by have := h1.1; omega)
  have HA3 : Hid (∃ DA : Nat → Prop, GraphV w3 DA a 4 exA ∧ ∀ x, DA x → (w.heap.size ≤ x ∧ x < w1.heap.size) ∨ w2.heap.size ≤ x) := Lib.hid ⟨_, hg, fun x hx => by
    rcases hx with h | h
    · exact .inl ⟨h.1, h.2⟩
    · have h1 := h.1; rw [World.size_alloc] at h1; exact .inr (by omega)⟩
  have HB3 : Hid (GraphV w3 (Iv w1.heap.size w2.heap.size) b 4 []) := Lib.hid ((HB2.out.no ((Fx.refl No w2).alloc _)).keep hf fun k h1 h2 => by have := h1.1; have := h2.2; omega)
  have hz12 := HF2.out.size
  have hz23 : w2.heap.size < w3.heap.size := by have := hf.size; rw [World.size_alloc] at this; omega
  clear hf hg HX1 hL HA1 HB2
  have HX1 : Hid (EdsV (w3.alloc (.cells #[.int .i64 1, .int .i64 2, .int .i64 0, .int .i64 2, .int .i64 1, .int .i64 0, .int .i64 2, .int .i64 3, .int .i64 0] 57)) (Iv w3.heap.size (w3.heap.size + 1)) (.slice (some ⟨w3.heap.size, 0, none⟩) 3 3) [⟨1, 2, 0⟩, ⟨2, 1, 0⟩, ⟨2, 3, 0⟩]) := Lib.hid (EdsV.lit [⟨1, 2, 0⟩, ⟨2, 1, 0⟩, ⟨2, 3, 0⟩] (by decide))
  have hL : addL [] [⟨1, 2, 0⟩, ⟨2, 1, 0⟩, ⟨2, 3, 0⟩] = exB := by decide
  go_wp2_with fail
  refine (gAdd_any (HB3.out.no ((Fx.refl No w3).alloc _)) HX1.out (fun k hk hd => by have h1 := hk.1; have h2 := hd.2; omega) (good3 _ (by decide)) (by decide) (by decide)).mono ?_
  rintro e w4 ⟨rfl, hf, hg⟩
  rw [hL] at hg
  have hz01 : w.heap.size ≤ w1.heap.size := HF1.out.size
  have HF4 : Hid (Fx No w w4) := Lib.hid ((HF3.out.alloc _).trans' hf fun j h1 h2 => by have := h1.1; omega)
  have HA4 : Hid (∃ DA : Nat → Prop, GraphV w4 DA a 4 exA ∧ ∀ x, DA x → w.heap.size ≤ x ∧ (x < w1.heap.size ∨ (w2.heap.size ≤ x ∧ x < w3.heap.size))) := Lib.hid (by
    obtain ⟨DA, h1, h2⟩ := HA3.out
    refine ⟨DA, (h1.no ((Fx.refl No w3).alloc _)).keep hf fun k q1 q2 => ?_, fun x hx => ?_⟩
    · have q3 := q2.1
      have q4 := q2.2
      rcases h2 k q1 with e | e
      · omega
      · omega
    · have q1 := h1.lt x hx
      rcases h2 x hx with e | e
      · exact ⟨e.1, .inl e.2⟩
      · exact ⟨by omega, .inr ⟨e, q1⟩⟩)
  have HB4 : Hid (∃ DB : Nat → Prop, GraphV w4 DB b 4 exB ∧ ∀ x, DB x → (w1.heap.size ≤ x ∧ x < w2.heap.size) ∨ w3.heap.size ≤ x) := Lib.hid ⟨_, hg, fun x hx => by
    rcases hx with h | h
    · exact .inl ⟨h.1, h.2⟩
    · have h1 := h.1; rw [World.size_alloc] at h1; exact .inr (by omega)⟩
  clear hf hg HX1 hL HA3 HB3 HF3
  -- the order, and how deep
  go_wp2_with fail
  refine (sort_any HA4.out.choose_spec.1).mono ?_
  rw [exA_s, exA_e]
  rintro e w5 ⟨p5, rfl, hf, ho⟩
  have HP5 : Hid (IntsV w5 (Iv w4.heap.size w5.heap.size) p5 [1, 2, 0, 3]) := Lib.hid (SlV.ofOwns ho)
  have HF45 := Lib.hid hf
  clear hf ho
  go_wp2_with fail
  refine (depth_any (HA4.out.choose_spec.1.no HF45.out)).mono ?_
  rw [exA_d, exA_e]
  rintro e w6 ⟨rfl, hf⟩
  have HF46 := Lib.hid (HF45.out.trans hf)
  have HP6 := Lib.hid (HP5.out.no hf)
  clear hf HP5
  go_wp2_with fail
  refine (sort_any (HB4.out.choose_spec.1.no HF46.out)).mono ?_
  rw [exB_e]
  rintro e w7 ⟨p7, rfl, hf, ho⟩
  have HF47 := Lib.hid (HF46.out.trans hf)
  have HP7 := Lib.hid (HP6.out.no hf)
  clear hf ho HP6 HF46 HF45
  obtain ⟨pa, pc, rfl, _⟩ := HP7.out
  have HX : Hid (IntsV (w7.alloc (.cells #[.int .i64 1, .int .i64 2, .int .i64 0, .int .i64 3] 3)) (fun k => k = w7.heap.size) (.slice (some ⟨w7.heap.size, 0, none⟩) 4 4) [1, 2, 0, 3]) := Lib.hid (IntsV.lit w7 3 [1, 2, 0, 3] (by decide))
  go_wp2_with fail
  refine (sameInts_any (HP7.out.no ((Fx.refl No w7).alloc _)) HX.out).mono ?_
  rintro e w8 ⟨rfl, hf⟩
  have dd : (([1, 2, 0, 3] : List Int) == [1, 2, 0, 3]) = true := by decide
  rw [dd]
  have HF48 := Lib.hid (HF47.out.trans (((Fx.refl No w7).alloc _).trans hf))
  clear hf HX HP7 dd HF47
  go_wp2_with fail
  refine (rounds_any (HA4.out.choose_spec.1.no HF48.out)).mono ?_
  rw [exA_r]
  rintro e w9 ⟨rv, V, rfl, hf, hr⟩
  obtain ⟨B, hrw⟩ := hr.rowsW
  have HR9 := Lib.hid hrw
  have HF89 := Lib.hid hf
  obtain ⟨ra, rc, rfl, _⟩ := hrw.toRowsR.facts
  clear hf hr hrw
  go_wp2_with fail
  have hq := rowsLit3 w9 3 32 [1, 2] [0] [3] (by decide) (by decide) (by decide)
  refine (rows_any (HR9.out.no ((((Fx.refl No w9).alloc _).alloc _).alloc _ |>.alloc _)) hq (fun k hk hd => by have h1 : w9.heap.size ≤ k := hk; have h2 := hd.2; omega)).mono ?_
  rintro e w10 ⟨rfl, hf⟩
  have HF40 : Hid (Fx No w4 w10) := Lib.hid (HF48.out.trans ((HF89.out.trans ((((Fx.refl No w9).alloc _).alloc _).alloc _ |>.alloc _)).trans' hf fun j h1 h2 => by have := h1.1; omega))
  have dd : decide (([[1, 2], [0], [3]] : List (List Int)) = [[1, 2], [0], [3]]) = true := decide_eq_true rfl
  rw [dd]
  clear hf hq HR9 HF89 HF48 dd
  go_wp2_with fail
  refine (only_any (HA4.out.choose_spec.1.no HF40.out)).mono ?_
  rw [exA_o]
  rintro e w11 ⟨rfl, hf⟩
  have HF41 := Lib.hid (HF40.out.trans hf)
  clear hf HF40
  -- one edge more
  have HX1 : Hid (EdsV (w11.alloc (.cells #[.int .i64 3, .int .i64 1, .int .i64 0] 57)) (Iv w11.heap.size (w11.heap.size + 1)) (.slice (some ⟨w11.heap.size, 0, none⟩) 1 1) [⟨3, 1, 0⟩]) := Lib.hid (EdsV.lit [⟨3, 1, 0⟩] (by decide))
  have hL : addL exA [⟨3, 1, 0⟩] = exA2 := by decide
  go_wp2_with fail
  refine (gAdd_any ((HA4.out.choose_spec.1.no HF41.out).no ((Fx.refl No w11).alloc _)) HX1.out (fun k hk hd => by have h1 := hk.1; have h2 := HA4.out.choose_spec.1.lt k hd; have := HF41.out.size; omega) (good3 _ (by decide)) (by decide) (by decide)).mono ?_
  rintro e w12 ⟨rfl, hf, hg⟩
  rw [hL] at hg
  have HF12 : Hid (Fx No w w12) := Lib.hid (((HF4.out.trans HF41.out).alloc _).trans' hf fun j h1 h2 => by have := (HA4.out.choose_spec.2 j h1).1; omega)
  have HB12 : Hid (∃ DB : Nat → Prop, GraphV w12 DB b 4 exB) := Lib.hid (by
    obtain ⟨DB, h1, h2⟩ := HB4.out
    refine ⟨DB, ((h1.no HF41.out).no ((Fx.refl No w11).alloc _)).keep hf fun k q1 q2 => ?_⟩
    have := HA4.out.choose_spec.2 k q2
    have := h2 k q1
    omega)
  have HA12 : Hid (∃ DA : Nat → Prop, GraphV w12 DA a 4 exA2) := Lib.hid ⟨_, hg⟩
  clear hf hg HX1 hL HA4 HB4 HF41 HF4 hz12 hz23 hz01
  go_wp2_with fail
  refine (sort_any HA12.out.choose_spec).mono ?_
  rw [exA2_s]
  rintro e w13 ⟨p13, rfl, hf, ho⟩
  have HP13 : Hid (IntsV w13 (Iv w12.heap.size w13.heap.size) p13 [2, 0, 3, 1]) := Lib.hid (SlV.ofOwns ho)
  have HF13 := Lib.hid hf
  clear hf ho
  obtain ⟨qa, qc, rfl, _⟩ := HP13.out
  have HX : Hid (IntsV (w13.alloc (.cells #[.int .i64 2, .int .i64 0, .int .i64 3, .int .i64 1] 3)) (fun k => k = w13.heap.size) (.slice (some ⟨w13.heap.size, 0, none⟩) 4 4) [2, 0, 3, 1]) := Lib.hid (IntsV.lit w13 3 [2, 0, 3, 1] (by decide))
  go_wp2_with fail
  refine (sameInts_any (HP13.out.no ((Fx.refl No w13).alloc _)) HX.out).mono ?_
  rintro e w14 ⟨rfl, hf⟩
  have dd : (([2, 0, 3, 1] : List Int) == [2, 0, 3, 1]) = true := by decide
  rw [dd]
  have HF14 := Lib.hid (HF13.out.trans (((Fx.refl No w13).alloc _).trans hf))
  clear hf HX HP13 dd HF13
  go_wp2_with fail
  refine (only_any (HA12.out.choose_spec.no HF14.out)).mono ?_
  rw [exA2_o]
  rintro e w15 ⟨rfl, hf⟩
  have HF15 := Lib.hid (HF14.out.trans hf)
  clear hf HF14
  go_wp2_with fail
  refine (rounds_any (HB12.out.choose_spec.no HF15.out)).mono ?_
  rw [exB_r]
  rintro e w16 ⟨rv, V, rfl, hf, hr⟩
  obtain ⟨B, hrw⟩ := hr.rowsW
  have HR16 := Lib.hid hrw
  have HF56 := Lib.hid hf
  obtain ⟨sa, sc, rfl, _⟩ := hrw.toRowsR.facts
  clear hf hr hrw
  go_wp2_with fail
  have hq := rowsLit1 w16 3 32 [0] (by decide)
  refine (rows_any (HR16.out.no (((Fx.refl No w16).alloc _).alloc _)) hq (fun k hk hd => by have h1 : w16.heap.size ≤ k := hk; have h2 := hd.2; omega)).mono ?_
  rintro e w17 ⟨rfl, hf⟩
  have HF17 : Hid (Fx No w12 w17) := Lib.hid (HF15.out.trans ((HF56.out.trans (((Fx.refl No w16).alloc _).alloc _)).trans' hf fun j h1 h2 => by have := h1.1; omega))
  have dd : decide (([[0]] : List (List Int)) = [[0]]) = true := decide_eq_true rfl
  rw [dd]
  clear hf hq HR16 HF56 HF15 dd
  go_wp2_with fail
  refine (rest_any (HB12.out.choose_spec.no HF17.out)).mono ?_
  rw [exB_t]
  rintro e w18 ⟨p18, rfl, hf, ho⟩
  have HP18 : Hid (IntsV w18 (Iv w17.heap.size w18.heap.size) p18 [1, 2, 3]) := Lib.hid (SlV.ofOwns ho)
  have HF18 := Lib.hid (HF17.out.trans hf)
  obtain ⟨ta, tc, rfl, _⟩ := HP18.out
  clear hf ho HF17
  have HX : Hid (IntsV (w18.alloc (.cells #[.int .i64 1, .int .i64 2, .int .i64 3] 3)) (fun k => k = w18.heap.size) (.slice (some ⟨w18.heap.size, 0, none⟩) 3 3) [1, 2, 3]) := Lib.hid (IntsV.lit w18 3 [1, 2, 3] (by decide))
  go_wp2_with fail
  refine (sameInts_any (HP18.out.no ((Fx.refl No w18).alloc _)) HX.out).mono ?_
  rintro e w19 ⟨rfl, hf⟩
  have dd : (([1, 2, 3] : List Int) == [1, 2, 3]) = true := by decide
  rw [dd]
  have HFE := Lib.hid (HF12.out.trans (HF18.out.trans (((Fx.refl No w18).alloc _).trans hf)))
  clear hf HX HP18 dd HF18
  go_wp2
  go_ret
  exact ⟨rfl, HFE.out⟩
#print axioms works_any
end Go.Proofs.Yteafkafkbipcmaa

namespace Go.Proofs.Yteafkafkbipcmaa
open Go.RowKit
set_option linter.unusedVariables false

/-- a graph, and the reference's, in a variable: they stay -/
structure GS (w0 ws : World) (rb gb N : Nat) (L : List Ed) (ro : Option Addr) (rc : Nat) (D R : Nat → Prop) : Prop where
  fx : Fx No w0 ws
  g : GraphV ws D gb N L
  row : EdsV ws R (.slice ro L.length rc) L
  r0 : ws.cell? ⟨rb, 0, none⟩ = some (.int .i64 (N : Nat))
  r1 : ws.cell? ⟨rb, 1, none⟩ = some (.slice ro L.length rc)
  lt : ∀ x, R x → x < ws.heap.size
  rl : rb < ws.heap.size
theorem GS.no {w0 ws w' : World} {rb gb N : Nat} {L : List Ed} {ro : Option Addr} {rc : Nat} {D R : Nat → Prop} (h : GS w0 ws rb gb N L ro rc D R) (hf : Fx No ws w') : GS w0 w' rb gb N L ro rc D R :=
  ⟨h.fx.trans hf, h.g.no hf, RowV.no h.row hf, hf.cell' h.r0 (fun q => q), hf.cell' h.r1 (fun q => q), fun x hx => Nat.lt_of_lt_of_le (h.lt x hx) hf.size, Nat.lt_of_lt_of_le h.rl hf.size⟩
/-- a step into a block that the call made since -/
theorem GS.own {w0 ws w' : World} {rb gb N qb : Nat} {L : List Ed} {ro : Option Addr} {rc : Nat} {D R : Nat → Prop} (h : GS w0 ws rb gb N L ro rc D R) (hq : ws.heap.size ≤ qb) (hf : Fx (fun y => y = qb) ws w') : GS w0 w' rb gb N L ro rc D R := by
  have h0 := h.fx.size
  exact ⟨h.fx.trans' hf fun j e hl => by have e : j = qb := e; omega, h.g.keep hf fun y hy e => by have := h.g.lt y hy; have e : y = qb := e; omega, RowV.keep h.row hf fun y hy e => by have := h.lt y hy; have e : y = qb := e; omega, hf.cell' h.r0 (fun e => by have := h.rl; have e : rb = qb := e; omega), hf.cell' h.r1 (fun e => by have := h.rl; have e : rb = qb := e; omega), fun x hx => Nat.lt_of_lt_of_le (h.lt x hx) hf.size, Nat.lt_of_lt_of_le h.rl hf.size⟩
theorem GS.start {w w1 : World} {gb N : Nat} {L : List Ed} {ro : Option Addr} {rc : Nat} {D R : Nat → Prop} (h : Drw w w1 gb N L (.slice ro L.length rc) D R) :
    GS w (w1.alloc (.cells #[.int .i64 (N : Nat), .slice ro L.length rc] 27)) w1.heap.size gb N L ro rc D R :=
  ⟨h.fx.alloc _, h.g.no ((Fx.refl No _).alloc _), RowV.no h.row ((Fx.refl No _).alloc _), by simp, by simp, fun x hx => by have := h.rlt x hx; rw [World.size_alloc]; omega, by rw [World.size_alloc]; omega⟩
/-- rows apart -/
theorem filter_or {α : Type} {p q : α → Bool} : ∀ {l : List α}, (∀ x ∈ l, ¬ (p x = true ∧ q x = true)) → (l.filter fun x => p x || q x).length = (l.filter p).length + (l.filter q).length
  | [], _ => rfl
  | a :: l, h => by
    have ih := filter_or (p := p) (q := q) (l := l) fun x hx => h x (List.mem_cons_of_mem _ hx)
    have h0 := h a (by simp)
    cases hp : p a <;> cases hq : q a
    · simp [hp, hq, ih]
    · simp [hp, hq, ih]; omega
    · simp [hp, hq, ih]; omega
    · exact absurd ⟨hp, hq⟩ h0
/-- how many come before a round -/
def cntF (N : Nat) (rd : Nat → Int) (i : Nat) : Nat := ((List.range N).filter fun v => decide (0 ≤ rd v ∧ rd v < (i : Int))).length
theorem cntF_zero (N : Nat) (rd : Nat → Int) : cntF N rd 0 = 0 := by
  unfold cntF
  rw [List.length_eq_zero_iff, List.filter_eq_nil_iff]
  intro v _ h
  have := of_decide_eq_true h
  omega
theorem cntF_le (N : Nat) (rd : Nat → Int) (i : Nat) : cntF N rd i ≤ N := by
  unfold cntF; exact Nat.le_trans (List.length_filter_le _ _) (by simp)
theorem cntF_succ (N : Nat) (rd : Nat → Int) (i : Nat) : cntF N rd (i + 1) = cntF N rd i + (rowR N rd i).length := by
  unfold cntF rowR
  rw [← filter_or fun v _ ⟨h1, h2⟩ => by have := of_decide_eq_true h1; have := of_decide_eq_true h2; omega]
  congr 1
  refine List.filter_congr fun v _ => ?_
  rw [Bool.eq_iff_iff, Bool.or_eq_true, decide_eq_true_eq, decide_eq_true_eq, decide_eq_true_eq]
  omega
theorem cntF_all {N K : Nat} {rd : Nat → Int} (h : ∀ v, v < N → rd v < (K : Int)) : ((List.range N).filter fun v => decide (rd v < 0)).length + cntF N rd K = N := by
  unfold cntF
  rw [← filter_or fun v _ ⟨h1, h2⟩ => by have := of_decide_eq_true h1; have := of_decide_eq_true h2; omega]
  rw [List.filter_eq_self.2 fun v hv => ?_]
  · simp
  · have := h v (List.mem_range.1 hv)
    rw [Bool.or_eq_true, decide_eq_true_eq, decide_eq_true_eq]; omega
theorem asc_nodup {l : List Nat} (h : l.Pairwise (· < ·)) : l.Nodup := h.imp fun h => Nat.ne_of_lt h
theorem not_take {l : List Nat} {k : Nat} (h : l.Nodup) (hk : k < l.length) : hx l k ∉ l.take k := by
  intro hm
  rw [hx_at hk] at hm
  obtain ⟨i, hi, e⟩ := List.mem_take_iff_getElem.1 hm
  have h1 := List.nodup_iff_pairwise_ne.1 h
  rw [List.pairwise_iff_getElem] at h1
  exact h1 i k (by omega) hk (by omega) e
theorem take_hx {l : List Nat} {k : Nat} (hk : k < l.length) : l.take (k + 1) = l.take k ++ [hx l k] := by
  rw [List.take_succ_eq_append_getElem hk, hx_at hk]
/-- the row of rounds, behind i rounds and k nodes -/
def fD (N : Nat) (rd : Nat → Int) (i k : Nat) (j : Nat) : Int := if rd j < 0 then -1 else if rd j < (i : Int) ∨ (rd j = (i : Int) ∧ j ∈ (rowR N rd i).take k) then rd j else -2
theorem fD_zero {N : Nat} {rd : Nat → Int} {R : List Nat} (hR : R = (List.range N).filter fun v => decide (rd v < 0)) {j : Nat} (hj : j < N) : (if j ∈ R.take R.length then (-1 : Int) else -2) = fD N rd 0 0 j := by
  have hm : j ∈ R.take R.length ↔ rd j < 0 := by
    rw [List.take_length, hR, List.mem_filter, List.mem_range, decide_eq_true_eq]
    exact ⟨fun q => q.2, fun q => ⟨hj, q⟩⟩
  unfold fD
  by_cases h : rd j < 0
  · rw [if_pos (hm.2 h), if_pos h]
  · rw [if_neg fun q => h (hm.1 q), if_neg h, if_neg (by rintro (q | ⟨_, q⟩) <;> first | omega | simp at q)]
theorem fD_step {N i k : Nat} {rd : Nat → Int} (hk : k < (rowR N rd i).length) (j : Nat) : (if j = hx (rowR N rd i) k then (i : Int) else fD N rd i k j) = fD N rd i (k + 1) j := by
  have hm := mem_rowR.1 (hx_mem hk)
  by_cases e : j = hx (rowR N rd i) k
  · rw [if_pos e]
    unfold fD
    rw [if_neg (by rw [e, hm.2]; omega), if_pos (.inr ⟨by rw [e]; exact hm.2, by rw [take_hx hk, e]; simp⟩), e, hm.2]
  · rw [if_neg e]
    unfold fD
    have h2 : j ∈ (rowR N rd i).take (k + 1) ↔ j ∈ (rowR N rd i).take k := by
      rw [take_hx hk, List.mem_append, List.mem_singleton]; simp [e]
    simp only [h2]
theorem fD_next {N i j : Nat} {rd : Nat → Int} (hj : j < N) : fD N rd i (rowR N rd i).length j = fD N rd (i + 1) 0 j := by
  unfold fD
  by_cases h : rd j < 0
  · rw [if_pos h, if_pos h]
  · rw [if_neg h, if_neg h]
    by_cases h2 : rd j < (i : Int) + 1
    · rw [if_pos, if_pos (.inl (by omega))]
      by_cases h3 : rd j < (i : Int)
      · exact .inl h3
      · exact .inr ⟨by omega, by rw [List.take_length]; exact mem_rowR.2 ⟨hj, by omega⟩⟩
    · rw [if_neg (by rintro (q | ⟨q, _⟩) <;> omega), if_neg (by rintro (q | ⟨_, q⟩) <;> first | omega | simp at q)]
theorem fD_end {N K j : Nat} {L : List Ed} {ord : List Nat} {rd : Nat → Int} (h : KF L N ord rd) (hK : rd j < (K : Int)) (hj : j < N) : fD N rd K 0 j = rd j := by
  unfold fD
  by_cases h0 : rd j < 0
  · rw [if_pos h0]
    have : j ∉ ord := fun e => by have := h.rd0 j e; omega
    rw [h.rdN j hj this]
  · rw [if_neg h0, if_pos (.inl hK)]
/-- what makes a node be near -/
def nearB (rd : Nat → Int) (z : Int) (x : Ed) : Bool := (decide (z < 0) && decide (rd x.f.toNat < 0)) || (decide (0 < z) && decide (rd x.f.toNat = z - 1))
theorem KF.near {L : List Ed} {N : Nat} {ord : List Nat} {rd : Nat → Int} (h : KF L N ord rd) (hL : NdE L N) {i : Nat} (hi : i < N) : (decide (rd i = 0) || (L.filter (someE (-1) i)).any (nearB rd (rd i))) = true := by
  have hin : ∀ x ∈ L, x.t = (i : Int) → x ∈ L.filter (someE (-1) (i : Int)) := fun x hx ht => by
    rw [List.mem_filter]; exact ⟨hx, by simp [someE, ht]⟩
  rw [Bool.or_eq_true, decide_eq_true_eq, List.any_eq_true]
  by_cases ho : i ∈ ord
  · rcases h.rdA i ho with ⟨q, _⟩ | ⟨x, q1, q2, q3⟩
    · exact .inl q
    · refine .inr ⟨x, hin x q1 q2, ?_⟩
      have := h.rd0 _ (h.pre q1 (hL x q1).2.1 (by rw [q2]; simpa using ho))
      unfold nearB
      rw [Bool.or_eq_true, Bool.and_eq_true, Bool.and_eq_true]
      simp only [decide_eq_true_eq]; omega
  · right
    have hz := h.rdN i hi ho
    apply Classical.byContradiction
    intro hn
    refine ho (h.cl i hi fun x hx ht => ?_)
    apply Classical.byContradiction
    intro hs
    refine hn ⟨x, hin x hx ht, ?_⟩
    have h2 := h.rdN x.f.toNat (by have := (hL x hx).1; omega) hs
    unfold nearB
    rw [Bool.or_eq_true, Bool.and_eq_true, Bool.and_eq_true]
    simp only [decide_eq_true_eq]; omega
/-- the one that an edge is from comes earlier -/
theorem KF.before {L : List Ed} {N : Nat} {ord : List Nat} {rd : Nat → Int} (h : KF L N ord rd) (hL : NdE L N) {i : Nat} {x : Ed} (hx : x ∈ L) (ht : x.t = (i : Int)) (h0 : 0 ≤ rd i) : 0 ≤ rd x.f.toNat ∧ rd x.f.toNat < rd i := by
  obtain ⟨_, h3, h4⟩ := hL x hx
  have htn : x.t.toNat = i := by omega
  have ho : x.t.toNat ∈ ord := by rw [htn]; exact (h.pos (by omega)).1 h0
  have h1 := h.rdS x hx ho
  have h2 := h.rd0 _ (h.pre hx h3 ho)
  rw [htn] at h1
  omega
#print axioms fD_end
#print axioms KF.near
#print axioms cntF_all
end Go.Proofs.Yteafkafkbipcmaa
