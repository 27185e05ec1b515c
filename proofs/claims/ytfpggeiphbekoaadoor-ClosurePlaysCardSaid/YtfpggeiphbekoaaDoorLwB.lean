/- The laws of closures: works. -/
import Derived.Test.YtfpggeiphbekoaaDoorLwA
namespace Go.Proofs.YtfpggeiphbekoaaDoor
open Go.RowKit
set_option linter.unusedVariables false

theorem ints_nil (w : World) : IntsV w No (.slice none 0 0) [] := SlV.nil w No 1
set_option maxRecDepth 100000 in
set_option maxHeartbeats 4000000 in
theorem works_any {w : World} (hT : TabOk w) : Calls Tryd.prog 7 #[] w fun e w' => e = .returned (.bool true) ∧ Fx No w w' := by
  have HT := Lib.hid hT
  have hTl := hT.lt
  have HTN : Hid (∀ w1 : World, ¬ Iv w.heap.size w1.heap.size 0) := Lib.hid fun w1 h => by have := h.1; omega
  clear hT hTl
  go_enter Tryd.func7, Tryd.ntmps7
  go_wp2_with fail
  refine (cloNew_any 4 w (by omega)).mono ?_
  rintro e w1 ⟨k, rfl, hf, hC⟩
  have HF1 := Lib.hid hf
  have H1 : Hid (Clo w1 (Iv w.heap.size w1.heap.size) 4 zM zM zM k) := Lib.hid hC
  have hD1 : Hid (∀ x, Iv w.heap.size w1.heap.size x → x < w1.heap.size) := Lib.hid fun x h => h.2
  have hzz := hf.size
  clear hf hC
  go_wp2_with fail
  refine (cloAdd_any (f := 0) (t := 1) H1.out hD1.out (HT.out.keep HF1.out (fun h => h)) (HTN.out w1) (by omega) (by omega)).mono ?_
  rintro e w2 ⟨rfl, hf, hC⟩
  rw [w_c0, show addDn 4 zM zM zM 0 1 = wD1 from rfl, w_c1]
  have HF2 : Hid (Fx No w w2) := Lib.hid (HF1.out.trans' hf fun j h1 h2 => by have := h1.1; omega)
  have H2 : Hid (Clo w2 (Iv w.heap.size w1.heap.size) 4 wD1 wU1 wE1 k) := Lib.hid hC
  have hz2 := hf.size
  clear hf hC
  go_wp2_with fail
  refine (cloAdd_any (f := 1) (t := 2) H2.out (fun x h => Nat.lt_of_lt_of_le h.2 hz2) (HT.out.keep HF2.out (fun h => h)) (HTN.out w1) (by omega) (by omega)).mono ?_
  rintro e w3 ⟨rfl, hf, hC⟩
  rw [w_c1, show addDn 4 wD1 wU1 wE1 1 2 = wD2 from rfl, w_c2]
  have HF3 : Hid (Fx No w w3) := Lib.hid (HF2.out.trans' hf fun j h1 h2 => by have := h1.1; omega)
  have H3 : Hid (Clo w3 (Iv w.heap.size w1.heap.size) 4 wD2 wU2 wE2 k) := Lib.hid hC
  have hz3 : w1.heap.size ≤ w3.heap.size := Nat.le_trans hz2 hf.size
  clear hf hC
  go_wp2_with fail
  refine (cloAdd_any (f := 0) (t := 2) H3.out (fun x h => Nat.lt_of_lt_of_le h.2 hz3) (HT.out.keep HF3.out (fun h => h)) (HTN.out w1) (by omega) (by omega)).mono ?_
  rintro e w4 ⟨rfl, hf, hC⟩
  rw [w_c2, show addDn 4 wD2 wU2 wE2 0 2 = wD3 from rfl, w_c3]
  have HF4 : Hid (Fx No w w4) := Lib.hid (HF3.out.trans' hf fun j h1 h2 => by have := h1.1; omega)
  have H4 : Hid (Clo w4 (Iv w.heap.size w1.heap.size) 4 wD3 wU3 wE3 k) := Lib.hid hC
  have hz4 : w1.heap.size ≤ w4.heap.size := Nat.le_trans hz3 hf.size
  clear hf hC
  go_wp2_with fail
  refine (least_any H4.out (HT.out.keep HF4.out (fun h => h))).mono ?_
  rintro e w5 ⟨vl, rfl, hf, ho⟩
  rw [w_l3] at ho
  have HF5 := Lib.hid (HF4.out.trans hf)
  have H5 := Lib.hid (H4.out.no hf)
  have HL := Lib.hid (ho.row.bound)
  have hz5 : w1.heap.size ≤ w5.heap.size := Nat.le_trans hz4 hf.size
  have HLb : Hid (∀ x, Iv w4.heap.size w5.heap.size x → ¬ Iv w.heap.size w1.heap.size x) := Lib.hid fun x h1 h2 => by have := h1.1; have := h2.2; omega
  clear hf ho
  go_wp2_with fail
  refine (pairs_any H5.out).mono ?_
  rintro e w6 ⟨rfl, hf⟩
  rw [w_p3]
  have HF6 := Lib.hid (HF5.out.trans hf)
  have H6 := Lib.hid (H5.out.no hf)
  have HL6 := Lib.hid (HL.out.no hf)
  have hz6 : w1.heap.size ≤ w6.heap.size := Nat.le_trans hz5 hf.size
  clear hf
  go_wp2_with fail
  refine (cloAdd_any (f := 2) (t := 0) H6.out (fun x h => Nat.lt_of_lt_of_le h.2 hz6) (HT.out.keep HF6.out (fun h => h)) (HTN.out w1) (by omega) (by omega)).mono ?_
  rintro e w7 ⟨rfl, hf, hC⟩
  rw [w_c3, show addDn 4 wD3 wU3 wE3 2 0 = wD4 from rfl, w_c4]
  have HF7 : Hid (Fx No w w7) := Lib.hid (HF6.out.trans' hf fun j h1 h2 => by have := h1.1; omega)
  have H7 : Hid (Clo w7 (Iv w.heap.size w1.heap.size) 4 wD4 wU4 wE4 k) := Lib.hid hC
  obtain ⟨vo, vc, rfl, _, _, hcc⟩ := PairsV.facts (HL6.out.keep hf fun x hx => HLb.out x hx.1)
  obtain ⟨b0, o0, rfl, _, r1, r2⟩ := hcc 0 (by simp)
  obtain ⟨b1, o1, he, _, r3, r4⟩ := hcc 1 (by simp)
  simp only [Option.some.injEq, Addr.mk.injEq, and_true] at he
  obtain ⟨rfl, rfl⟩ := he
  have p1 : w7.cell? ⟨b0, o0, none⟩ = some (.int .i64 0) := r1
  have p2 : w7.cell? ⟨b0, o0 + 1, none⟩ = some (.int .i64 1) := r2
  have p3 : w7.cell? ⟨b0, o0 + 2, none⟩ = some (.int .i64 1) := r3
  have p4 : w7.cell? ⟨b0, o0 + 2 + 1, none⟩ = some (.int .i64 2) := r4
  have hq1 : ∀ W, (Op.equalIn 10000 33 (.agg #[.int .i64 0, .int .i64 1]) (.agg #[.int .i64 0, .int .i64 1])).run Tryd.prog W = .ok true W := fun W => by rw [run_eq2]; rfl
  have hq2 : ∀ W, (Op.equalIn 10000 33 (.agg #[.int .i64 1, .int .i64 2]) (.agg #[.int .i64 1, .int .i64 2])).run Tryd.prog W = .ok true W := fun W => by rw [run_eq2]; rfl
  have hz7 : w1.heap.size ≤ w7.heap.size := Nat.le_trans hz6 hf.size
  clear hf hC hcc r1 r2 r3 r4
  go_wp2_with fail
  refine (loops_any H7.out).mono ?_
  rintro e w8 ⟨v8, rfl, hf, ho⟩
  rw [w_o4] at ho
  have HF8 := Lib.hid (HF7.out.trans hf)
  have H8 := Lib.hid (H7.out.no hf)
  have HO := Lib.hid ho.ints
  clear hf ho p1 p2 p3 p4 hq1 hq2
  go_wp2_with fail
  refine (sameInts_any (HO.out.keep ((Fx.refl No _).alloc _) No.disj) (ints_lit _ [0, 1, 2] (by decide))).mono ?_
  rintro e w9 ⟨rfl, hf⟩
  rw [show (([0, 1, 2] : List Int) == [0, 1, 2]) = true from by decide]
  have HF9 := Lib.hid ((HF8.out.alloc _).trans hf)
  have H9 := Lib.hid ((H8.out.no ((Fx.refl No _).alloc _)).no hf)
  clear hf HO
  go_wp2_with fail
  refine (least_any H9.out (HT.out.keep HF9.out (fun h => h))).mono ?_
  rintro e w10 ⟨v10, rfl, hf, ho⟩
  rw [w_l4] at ho
  obtain ⟨a10, c10, rfl, _⟩ := ho.row
  have HF10 := Lib.hid (HF9.out.trans hf)
  have H10 := Lib.hid (H9.out.no hf)
  clear hf ho
  go_wp2_with fail
  refine (from_any' H10.out (HT.out.keep HF10.out (fun h => h)) 3).mono ?_
  rintro e w11 ⟨v11, rfl, hf, ho⟩
  rw [w_f4] at ho
  have HF11 := Lib.hid (HF10.out.trans hf)
  have HO := Lib.hid ho.ints
  clear hf ho
  go_wp2_with fail
  refine (sameInts_any HO.out (ints_nil w11)).mono ?_
  rintro e w12 ⟨rfl, hf⟩
  rw [show (([] : List Int) == []) = true from rfl]
  have HF12 := Lib.hid (HF11.out.trans hf)
  clear hf
  go_wp2
  go_ret
  exact ⟨rfl, HF12.out⟩
#print axioms works_any
end Go.Proofs.YtfpggeiphbekoaaDoor
