/- The law of chapter 13: works. -/
import Derived.Test.YtcfajeldkioomaaSameI
namespace Go.Proofs.Ytcfajeldkioomaa
open Go.RowKit
set_option linter.unusedVariables false

theorem EdsV.lit {w : World} {t : TypeId} (xs : List Ed) (h : xs.length ≤ 1000000) : EdsV (w.alloc (.cells (icells e3 xs).toArray t)) (Iv w.heap.size (w.heap.size + 1)) (.slice (some ⟨w.heap.size, 0, none⟩) xs.length xs.length) xs := RowV.lit e3_len w t xs h
def exL : List Ed := [⟨0, 1, 3⟩, ⟨0, 1, 5⟩, ⟨2, 0, 1⟩]
section
variable {w : World}
set_option maxRecDepth 100000 in
set_option maxHeartbeats 4000000 in
theorem works_any (w : World) : Calls Try.prog 8 #[] w fun e w' => e = .returned (.bool true) ∧ Fx No w w' := by
  go_enter Try.func8, Try.ntmps8
  go_wp2_with fail
  refine (gNew_any 3 w (by omega)).mono ?_
  rintro e w1 ⟨b, rfl, hf, hg⟩
  have HF1 := Lib.hid hf
  have HG1 := Lib.hid hg
  have z1 := hf.size
  clear hf hg
  have HX1 : Hid (EdsV (w1.alloc (.cells #[.int .i64 0, .int .i64 1, .int .i64 5, .int .i64 0, .int .i64 1, .int .i64 3, .int .i64 2, .int .i64 0, .int .i64 1, .int .i64 0, .int .i64 1, .int .i64 5] 25)) (Iv w1.heap.size (w1.heap.size + 1)) (.slice (some ⟨w1.heap.size, 0, none⟩) 4 4) [⟨0, 1, 5⟩, ⟨0, 1, 3⟩, ⟨2, 0, 1⟩, ⟨0, 1, 5⟩]) := Lib.hid (EdsV.lit [⟨0, 1, 5⟩, ⟨0, 1, 3⟩, ⟨2, 0, 1⟩, ⟨0, 1, 5⟩] (by decide))
  have hL : addL [] [⟨0, 1, 5⟩, ⟨0, 1, 3⟩, ⟨2, 0, 1⟩, ⟨0, 1, 5⟩] = exL := by decide
  go_wp2_with fail
  refine (gAdd_any (HG1.out.no ((Fx.refl No w1).alloc _)) HX1.out (fun k hk hd => by have h1 := hk.1; have h2 := hd.2; omega) (by simp only [List.mem_cons, List.not_mem_nil, or_false]; rintro x (rfl | rfl | rfl | rfl) <;> exact ⟨by unfold Ok64; decide, by unfold Ok64; decide, by unfold Ok64; decide⟩) (by decide) (by decide)).mono ?_
  rintro e w2 ⟨rfl, hf, hg⟩
  rw [hL] at hg
  have HF2 : Hid (Fx No w w2) := Lib.hid ((HF1.out.alloc _).trans' hf fun j h1 h2 => by have := h1.1; omega)
  obtain ⟨D, hD⟩ : ∃ D : Nat → Prop, GraphV w2 D b 3 exL ∧ ∀ x, D x → x < w2.heap.size := ⟨_, hg, hg.lt⟩
  have HG2 := Lib.hid hD.1
  have HD := Lib.hid hD.2
  rw [hL]
  have hn3 : (exL.length - ([] : List Ed).length : Nat) = 3 := rfl
  rw [hn3]
  clear hf hg HX1 hL hD hn3 HG1
  have HX2 : Hid (EdsV (w2.alloc (.cells #[.int .i64 0, .int .i64 3, .int .i64 0] 25)) (Iv w2.heap.size (w2.heap.size + 1)) (.slice (some ⟨w2.heap.size, 0, none⟩) 1 1) [⟨0, 3, 0⟩]) := Lib.hid (EdsV.lit [⟨0, 3, 0⟩] (by decide))
  go_wp2_with fail
  refine (gAdd_no (HG2.out.no ((Fx.refl No w2).alloc _)) HX2.out (by decide)).mono ?_
  rintro e w3 ⟨rfl, hf⟩
  have HF3 : Hid (Fx No w2 w3) := Lib.hid (((Fx.refl No w2).alloc _).trans hf)
  clear hf HX2
  go_wp2_with fail
  refine (gOut_any (HG2.out.no HF3.out) 0).mono ?_
  rintro e w4 ⟨v4, rfl, hf, ho⟩
  have h4 : rowI (outE exL) 3 0 = [⟨0, 1, 3⟩, ⟨0, 1, 5⟩] := by decide
  rw [h4] at ho
  obtain ⟨a4, c4, rfl, _, _, hc4⟩ := EdsV.facts ho.row
  obtain ⟨b4, o4, rfl, hb4, _, _, p4⟩ := hc4 0 (by decide)
  have HF4 := Lib.hid (HF3.out.trans hf)
  have HP4 : Hid (w4.cell? ⟨b4, o4 + 2, none⟩ = some (.int .i64 3)) := Lib.hid (by simpa [gt] using p4)
  clear hf ho h4 hc4 p4
  go_wp2_with fail
  refine (gIn_any (HG2.out.no HF4.out) 0).mono ?_
  rintro e w5 ⟨v5, rfl, hf, ho⟩
  have h5 : rowI (inE exL) 3 0 = [⟨2, 0, 1⟩] := by decide
  rw [h5] at ho
  obtain ⟨a5, c5, rfl, _, _, hc5⟩ := EdsV.facts ho.row
  obtain ⟨b5, o5, rfl, hb5, p5, _, _⟩ := hc5 0 (by decide)
  have HF5 := Lib.hid (HF4.out.trans hf)
  have HP45 := Lib.hid (hf.cell' HP4.out (fun h => h))
  have HP5 : Hid (w5.cell? ⟨b5, o5, none⟩ = some (.int .i64 2)) := Lib.hid (by simpa [gt] using p5)
  clear hf ho h5 hc5 p5 HP4
  go_wp2_with fail
  refine (gMany_any (HG2.out.no HF5.out)).mono ?_
  rintro e w6 ⟨rfl, rfl⟩
  have hl3 : exL.length = 3 := rfl
  rw [hl3]
  have q45 := HP45.out
  go_wp2_with fail
  refine (gNext_any (HG2.out.no HF5.out) 0).mono ?_
  rintro e w7 ⟨v7, rfl, hf, hr⟩
  have h7 : comp ((rowI (outE exL) 3 0).map (·.t)) = [1] := by decide
  rw [h7] at hr
  have HF7 := Lib.hid (HF5.out.trans hf)
  have HR7 := Lib.hid hr.toInts
  have HP57 := Lib.hid (hf.cell' HP5.out (fun h => h))
  obtain ⟨a7, c7, rfl, _⟩ := IntsV.facts hr.toInts
  have HX7 : Hid (IntsV (w7.alloc (.cells #[.int .i64 1] 3)) (fun _ => True) (.slice (some ⟨w7.heap.size, 0, none⟩) 1 1) [1]) := Lib.hid (SlV.lit w7 3 #[.int .i64 1] 1 1 rfl (by unfold maxLen; omega))
  clear hf hr h7 hl3 q45 HP45
  go_wp2_with fail
  refine (sameInts_any (HR7.out.no ((Fx.refl No w7).alloc _)) HX7.out).mono ?_
  rintro e w8 ⟨rfl, hf⟩
  have HF8 : Hid (Fx No w2 w8) := Lib.hid ((HF7.out.alloc _).trans hf)
  have q5 : w8.cell? ⟨b5, o5, none⟩ = some (.int .i64 2) := hf.cell' (cell?_alloc_some' HP57.out _) (fun h => h)
  have hs8 : (([1] : List Int) == [1]) = true := rfl
  rw [hs8]
  clear hf hs8 HX7 HP57 HR7
  have HX8 : Hid (IntsV (w8.alloc (.cells #[.int .i64 0, .int .i64 2] 3)) (fun _ => True) (.slice (some ⟨w8.heap.size, 0, none⟩) 2 2) [0, 2]) := Lib.hid (SlV.lit w8 3 #[.int .i64 0, .int .i64 2] 1 2 rfl (by unfold maxLen; omega))
  go_wp2_with fail
  refine (gOnly_any (HG2.out.no (HF8.out.alloc _)) HX8.out (by simp only [List.mem_cons, List.not_mem_nil, or_false]; rintro x (rfl | rfl) <;> (unfold Ok64; decide)) (by decide)).mono ?_
  rintro e w9 ⟨b9, rfl, hf, D9, hg, _⟩
  have h9 : exL.filter (namedE [0, 2]) = [⟨2, 0, 1⟩] := by decide
  rw [h9] at hg
  have HF9 : Hid (Fx No w2 w9) := Lib.hid ((HF8.out.alloc _).trans hf)
  have HG9 := Lib.hid hg
  clear hf hg h9 q5 HX8
  go_wp2_with fail
  refine (gEdges_any HG9.out).mono ?_
  rintro e w10 ⟨v10, rfl, hf, ho⟩
  obtain ⟨a10, c10, rfl, _⟩ := EdsV.facts ho.row
  have HF10 : Hid (Fx No w w10) := Lib.hid (HF2.out.trans (HF9.out.trans hf))
  clear hf ho
  go_wp2
  go_ret
  exact ⟨rfl, HF10.out⟩
end
#print axioms works_any
end Go.Proofs.Ytcfajeldkioomaa
