/- alibikit.SameInts. | The laws of closures: same, works. | The laws of closures: works. | The laws of closures: ClosureNone. -/
import Derived.Test.YtfpggeiphbekoaaGreatDoorA1
import Derived.Test.YtfpggeiphbekoaaGreatDoorProg
import Derived.Test.YtfpggeiphbekoaaGreatDoorA8

namespace Go.Proofs.YtfpggeiphbekoaaGreatDoor
open Go.RowKit
set_option linter.unusedVariables false

theorem gi_ext {a b : List Int} (h : a.length = b.length) (hg : ∀ k, k < a.length → gi a k = gi b k) : a = b := by
  apply List.ext_getElem h
  intro k h1 h2
  have := hg k h1
  simpa [gi, h1, h2] using this
theorem sameInts_any {w : World} {D E : Nat → Prop} {v u : Value} {a b : List Int} (h : IntsV w D v a) (h' : IntsV w E u b) :
    Calls Tryz.prog 35 #[v, u] w fun e w' => e = .returned (.bool (a == b)) ∧ Fx No w w' := by
  obtain ⟨ao, cap, rfl, hal, hc⟩ := h.facts
  obtain ⟨bo, bcap, rfl, hbl, hc'⟩ := h'.facts
  have HC := Lib.hid hc
  have HC' := Lib.hid hc'
  clear h h' hc hc'
  by_cases hl : a.length = b.length
  · have hn : ((a.length : Int) != (b.length : Int)) = false := by rw [hl]; simp
    have HL := Lib.hid hl
    clear hl
    go_enter Tryz.func35, Tryz.ntmps35
    go_wp2
    go_loopw [5] (fun i wr => ∃ k : Nat, k ≤ a.length ∧ i = .int .i64 k ∧ (∀ j, j < k → gi a j = gi b j) ∧ Fx No w wr) (fun i _ => a.length - (intOf i).toNat)
    case atStart => exact ⟨0, Nat.zero_le _, rfl, fun j hj => by omega, Fx.refl _ _⟩
    case round =>
      obtain ⟨k, hk, rfl, hq, hf⟩ := hrel
      have HQ := Lib.hid hq
      have HF := Lib.hid hf
      clear hq hf
      by_cases hlt : k < a.length
      · obtain ⟨b1, o1, rfl, _, hcell1⟩ := HC.out k hlt
        obtain ⟨b2, o2, rfl, _, hcell2⟩ := HC'.out k (by rw [← HL.out]; exact hlt)
        have h1 := HF.out.cell' hcell1 (fun h => h)
        have h2 := HF.out.cell' hcell2 (fun h => h)
        have hlt2 : (k : Int) < (b.length : Int) := by rw [← HL.out]; omega
        clear hcell1 hcell2
        by_cases he : gi a k = gi b k
        · have hd : (gi a k != gi b k) = false := by simpa using he
          have HE := Lib.hid he
          clear he
          go_wp2
          go_quiet (fail)
          go_wp2
          go_roundw
          case rel => exact ⟨k + 1, by omega, by go_num, fun j hj => by
            by_cases e : j = k
            · subst e; exact HE.out
            · exact HQ.out j (by omega), HF.out.drewN _⟩
          case measure => simp [intOf]; omega
        · have hd : (gi a k != gi b k) = true := by simpa using he
          have HB : Hid ((a == b) = false) := by
            show (a == b) = false
            rw [beq_eq_false_iff_ne]
            rintro rfl
            exact he rfl
          clear he
          go_wp2
          go_quiet (fail)
          go_wp2
          go_ret
          exact ⟨by rw [HB.out]; rfl, HF.out.drewN _⟩
      · have HB : Hid ((a == b) = true) := by
          show (a == b) = true
          rw [beq_iff_eq]
          exact gi_ext HL.out fun j hj => HQ.out j (by omega)
        go_wp2
        go_ret
        exact ⟨by rw [HB.out]; rfl, HF.out⟩
  · have hn : ((a.length : Int) != (b.length : Int)) = true := by simp; omega
    have HB : Hid ((a == b) = false) := by
      show (a == b) = false
      rw [beq_eq_false_iff_ne]
      rintro rfl
      exact hl rfl
    clear hl
    go_enter Tryz.func35, Tryz.ntmps35
    go_wp2
    go_ret
    exact ⟨by rw [HB.out]; rfl, Fx.refl _ _⟩
#print axioms sameInts_any
end Go.Proofs.YtfpggeiphbekoaaGreatDoor

namespace Go.Proofs.YtfpggeiphbekoaaGreatDoor
open Go.RowKit
set_option linter.unusedVariables false

theorem gt_ext {a b : List (Int × Int)} (h : a.length = b.length) (hg : ∀ k, k < a.length → gt a k = gt b k) : a = b := by
  apply List.ext_getElem h
  intro k h1 h2
  have := hg k h1
  simpa [gt, h1, h2] using this
section
variable {w w' : World} {D E : Nat → Prop}
set_option maxHeartbeats 1000000 in
theorem same_any {v u : Value} {a b : List (Int × Int)} (h : PairsV w D v a) (h' : PairsV w E u b) : Calls Tryz.prog 45 #[v, u] w fun e w' => e = .returned (.bool (decide (a = b))) ∧ Fx No w w' := by
  obtain ⟨ao, cap, rfl, hal, hac, hc⟩ := h.facts
  obtain ⟨bo, bcap, rfl, hbl, hbc, hc'⟩ := h'.facts
  have HC := Lib.hid hc
  have HC' := Lib.hid hc'
  clear h h' hc hc'
  by_cases hl : a.length = b.length
  · have hn : ((a.length : Int) != (b.length : Int)) = false := by rw [hl]; simp
    have HL := Lib.hid hl
    clear hl
    go_enter Tryz.func45, Tryz.ntmps45
    go_wp2
    go_loopw [5] (fun i wr => ∃ k : Nat, k ≤ a.length ∧ i = .int .i64 k ∧ (∀ j, j < k → gt a j = gt b j) ∧ Fx No w wr) (fun i _ => a.length - (intOf i).toNat)
    case atStart => exact ⟨0, Nat.zero_le _, rfl, fun j hj => by omega, Fx.refl _ _⟩
    case round =>
      obtain ⟨k, hk, rfl, hq, hf⟩ := hrel
      have HQ := Lib.hid hq
      have HF := Lib.hid hf
      clear hq hf
      by_cases hlt : k < a.length
      · obtain ⟨b1, o1, rfl, _, x1, x2⟩ := HC.out k hlt
        obtain ⟨b2, o2, rfl, _, y1, y2⟩ := HC'.out k (by rw [← HL.out]; exact hlt)
        have x1 := HF.out.cell' x1 (fun h => h)
        have x2 := HF.out.cell' x2 (fun h => h)
        have y1 := HF.out.cell' y1 (fun h => h)
        have y2 := HF.out.cell' y2 (fun h => h)
        have hlt1 : (k : Int) < (a.length : Int) := by omega
        have hlt2 : (k : Int) < (b.length : Int) := by rw [← HL.out]; omega
        have hk0 : (0 : Int) ≤ (k : Int) := by omega
        obtain ⟨p, hp⟩ : ∃ z, z = (gt a k).1 := ⟨_, rfl⟩
        obtain ⟨q, hq⟩ : ∃ z, z = (gt a k).2 := ⟨_, rfl⟩
        obtain ⟨r, hr⟩ : ∃ z, z = (gt b k).1 := ⟨_, rfl⟩
        obtain ⟨s, hs⟩ : ∃ z, z = (gt b k).2 := ⟨_, rfl⟩
        rw [← hp] at x1
        rw [← hq] at x2
        rw [← hr] at y1
        rw [← hs] at y2
        have HGa : Hid (gt a k = (p, q)) := Lib.hid (Prod.ext hp.symm hq.symm)
        have HGb : Hid (gt b k = (r, s)) := Lib.hid (Prod.ext hr.symm hs.symm)
        clear hp hq hr hs
        by_cases he : p = r
        · have hd : (p != r) = false := by simpa using he
          by_cases he2 : q = s
          · have hd2 : (q != s) = false := by simpa using he2
            have HE : Hid (gt a k = gt b k) := Lib.hid (by rw [HGa.out, HGb.out, he, he2])
            clear he he2
            go_wp2_with fail
            go_quiet (fail)
            all_goals
              go_wp2
              go_roundw
              case rel => exact ⟨k + 1, by omega, by go_num, fun j hj => by
                by_cases e : j = k
                · subst e; exact HE.out
                · exact HQ.out j (by omega), HF.out.drewN _⟩
              case measure => simp [intOf]; omega
          · have hd2 : (q != s) = true := by simpa using he2
            have HB : Hid (decide (a = b) = false) := Lib.hid (by
              rw [decide_eq_false_iff_not]
              rintro rfl
              have := HGa.out.symm.trans HGb.out
              simp only [Prod.mk.injEq] at this
              exact he2 this.2)
            clear he he2
            go_wp2_with fail
            go_quiet (fail)
            all_goals
              go_wp2
              go_ret
              exact ⟨by rw [HB.out]; rfl, HF.out.drewN _⟩
        · have hd : (p != r) = true := by simpa using he
          have HB : Hid (decide (a = b) = false) := Lib.hid (by
            rw [decide_eq_false_iff_not]
            rintro rfl
            have := HGa.out.symm.trans HGb.out
            simp only [Prod.mk.injEq] at this
            exact he this.1)
          clear he
          go_wp2_with fail
          go_quiet (fail)
          all_goals
            go_wp2
            go_ret
            exact ⟨by rw [HB.out]; rfl, HF.out.drewN _⟩
      · have HB : Hid (decide (a = b) = true) := Lib.hid (decide_eq_true (gt_ext HL.out fun j hj => HQ.out j (by omega)))
        have hlt1 : decide ((k : Int) < (a.length : Int)) = false := decide_eq_false (by omega)
        go_wp2
        go_ret
        exact ⟨by rw [HB.out]; rfl, HF.out⟩
  · have hn : ((a.length : Int) != (b.length : Int)) = true := by simp; omega
    have HB : Hid (decide (a = b) = false) := Lib.hid (by
      rw [decide_eq_false_iff_not]
      rintro rfl
      exact hl rfl)
    clear hl
    go_enter Tryz.func45, Tryz.ntmps45
    go_wp2
    go_ret
    exact ⟨by rw [HB.out]; rfl, Fx.refl _ _⟩
end
/-! the chapter's example -/
def zM : Nat → Nat := fun _ => 0
def wD1 := addDn 4 zM zM zM 0 1
def wU1 := addUp 4 zM zM zM 0 1
def wE1 := addEd 4 zM 0 1
def wD2 := addDn 4 wD1 wU1 wE1 1 2
def wU2 := addUp 4 wD1 wU1 wE1 1 2
def wE2 := addEd 4 wE1 1 2
def wD3 := addDn 4 wD2 wU2 wE2 0 2
def wU3 := addUp 4 wD2 wU2 wE2 0 2
def wE3 := addEd 4 wE2 0 2
def wD4 := addDn 4 wD3 wU3 wE3 2 0
def wU4 := addUp 4 wD3 wU3 wE3 2 0
def wE4 := addEd 4 wE3 2 0
theorem w_c0 : cycB 4 zM = false := by decide +kernel
theorem w_c1 : cycB 4 wD1 = false := by decide +kernel
theorem w_c2 : cycB 4 wD2 = false := by decide +kernel
theorem w_c3 : cycB 4 wD3 = false := by decide +kernel
theorem w_c4 : cycB 4 wD4 = true := by decide +kernel
theorem w_l3 : leastL 4 wD3 wE3 = [(0, 1), (1, 2)] := by decide +kernel
theorem w_p3 : pairsTo 4 wD3 4 = 3 := by decide +kernel
theorem w_o4 : loopsTo wD4 4 = [0, 1, 2] := by decide +kernel
theorem w_l4 : leastL 4 wD4 wE4 = [] := by decide +kernel
theorem w_f4 : allX (ofN 4 3) (ofM 4 wD4 3) = [] := by decide +kernel
#print axioms w_l4
#print axioms same_any
end Go.Proofs.YtfpggeiphbekoaaGreatDoor

namespace Go.Proofs.YtfpggeiphbekoaaGreatDoor
open Go.RowKit
set_option linter.unusedVariables false

theorem ints_nil (w : World) : IntsV w No (.slice none 0 0) [] := SlV.nil w No 1
set_option maxRecDepth 100000 in
set_option maxHeartbeats 4000000 in
theorem works_any {w : World} (hT : TabOk w) : Calls Tryz.prog 8 #[] w fun e w' => e = .returned (.bool true) ∧ Fx No w w' := by
  have HT := Lib.hid hT
  have hTl := hT.lt
  have HTN : Hid (∀ w1 : World, ¬ Iv w.heap.size w1.heap.size 0) := Lib.hid fun w1 h => by have := h.1; omega
  clear hT hTl
  go_enter Tryz.func8, Tryz.ntmps8
  go_wp2_with fail
  refine (cloNew_any 4 w (by omega)).mono ?_
  rintro e w1 ⟨k, rfl, hf, hC⟩
  have HF1 := Lib.hid hf
  have H1 : Hid (Clo w1 (Iv w.heap.size w1.heap.size) 4 zM zM zM k) := Lib.hid hC
  have hD1 : Hid (∀ x, Iv w.heap.size w1.heap.size x → x < w1.heap.size) := Lib.hid fun x h => h.2
  have hzz := hf.size
  clear hf hC
  go_wp2_with fail
  refine (cloAdd_any (f := 0) (t := 1) H1.out hD1.out (HT.out.keep HF1.out (fun h => h)) (HTN.out w1) (by omega) (by omega)).mono ?_
  rintro e w2 ⟨rfl, hf, hC⟩
  rw [w_c0, show addDn 4 zM zM zM 0 1 = wD1 from rfl, w_c1]
  have HF2 : Hid (Fx No w w2) := Lib.hid (HF1.out.trans' hf fun j h1 h2 => by have := h1.1; omega)
  have H2 : Hid (Clo w2 (Iv w.heap.size w1.heap.size) 4 wD1 wU1 wE1 k) := Lib.hid hC
  have hz2 := hf.size
  clear hf hC
  go_wp2_with fail
  refine (cloAdd_any (f := 1) (t := 2) H2.out (fun x h => Nat.lt_of_lt_of_le h.2 hz2) (HT.out.keep HF2.out (fun h => h)) (HTN.out w1) (by omega) (by omega)).mono ?_
  rintro e w3 ⟨rfl, hf, hC⟩
  rw [w_c1, show addDn 4 wD1 wU1 wE1 1 2 = wD2 from rfl, w_c2]
  have HF3 : Hid (Fx No w w3) := Lib.hid (HF2.out.trans' hf fun j h1 h2 => by have := h1.1; omega)
  have H3 : Hid (Clo w3 (Iv w.heap.size w1.heap.size) 4 wD2 wU2 wE2 k) := Lib.hid hC
  have hz3 : w1.heap.size ≤ w3.heap.size := Nat.le_trans hz2 hf.size
  clear hf hC
  go_wp2_with fail
  refine (cloAdd_any (f := 0) (t := 2) H3.out (fun x h => Nat.lt_of_lt_of_le h.2 hz3) (HT.out.keep HF3.out (fun h => h)) (HTN.out w1) (by omega) (by omega)).mono ?_
  rintro e w4 ⟨rfl, hf, hC⟩
  rw [w_c2, show addDn 4 wD2 wU2 wE2 0 2 = wD3 from rfl, w_c3]
  have HF4 : Hid (Fx No w w4) := Lib.hid (HF3.out.trans' hf fun j h1 h2 => by have := h1.1; omega)
  have H4 : Hid (Clo w4 (Iv w.heap.size w1.heap.size) 4 wD3 wU3 wE3 k) := Lib.hid hC
  have hz4 : w1.heap.size ≤ w4.heap.size := Nat.le_trans hz3 hf.size
  clear hf hC
  go_wp2_with fail
  refine (least_any H4.out (HT.out.keep HF4.out (fun h => h))).mono ?_
  rintro e w5 ⟨vl, rfl, hf, ho⟩
  rw [w_l3] at ho
  have HF5 := Lib.hid (HF4.out.trans hf)
  have H5 := Lib.hid (H4.out.no hf)
  have HL := Lib.hid (ho.row.bound)
  have hz5 : w1.heap.size ≤ w5.heap.size := Nat.le_trans hz4 hf.size
  have HLb : Hid (∀ x, Iv w4.heap.size w5.heap.size x → ¬ Iv w.heap.size w1.heap.size x) := Lib.hid fun x h1 h2 => by have := h1.1; have := h2.2; omega
  clear hf ho
  go_wp2_with fail
  refine (pairs_any H5.out).mono ?_
  rintro e w6 ⟨rfl, hf⟩
  rw [w_p3]
  have HF6 := Lib.hid (HF5.out.trans hf)
  have H6 := Lib.hid (H5.out.no hf)
  have HL6 := Lib.hid (HL.out.no hf)
  have hz6 : w1.heap.size ≤ w6.heap.size := Nat.le_trans hz5 hf.size
  clear hf
  go_wp2_with fail
  refine (cloAdd_any (f := 2) (t := 0) H6.out (fun x h => Nat.lt_of_lt_of_le h.2 hz6) (HT.out.keep HF6.out (fun h => h)) (HTN.out w1) (by omega) (by omega)).mono ?_
  rintro e w7 ⟨rfl, hf, hC⟩
  rw [w_c3, show addDn 4 wD3 wU3 wE3 2 0 = wD4 from rfl, w_c4]
  have HF7 : Hid (Fx No w w7) := Lib.hid (HF6.out.trans' hf fun j h1 h2 => by have := h1.1; omega)
  have H7 : Hid (Clo w7 (Iv w.heap.size w1.heap.size) 4 wD4 wU4 wE4 k) := Lib.hid hC
  obtain ⟨vo, vc, rfl, _, _, hcc⟩ := PairsV.facts (HL6.out.keep hf fun x hx => HLb.out x hx.1)
  obtain ⟨b0, o0, rfl, _, r1, r2⟩ := hcc 0 (by simp)
  obtain ⟨b1, o1, he, _, r3, r4⟩ := hcc 1 (by simp)
  simp only [Option.some.injEq, Addr.mk.injEq, and_true] at he
  obtain ⟨rfl, rfl⟩ := he
  have p1 : w7.cell? ⟨b0, o0, none⟩ = some (.int .i64 0) := r1
  have p2 : w7.cell? ⟨b0, o0 + 1, none⟩ = some (.int .i64 1) := r2
  have p3 : w7.cell? ⟨b0, o0 + 2, none⟩ = some (.int .i64 1) := r3
  have p4 : w7.cell? ⟨b0, o0 + 2 + 1, none⟩ = some (.int .i64 2) := r4
  have hq1 : ∀ W, (Op.equalIn 10000 25 (.agg #[.int .i64 0, .int .i64 1]) (.agg #[.int .i64 0, .int .i64 1])).run Tryz.prog W = .ok true W := fun W => by rw [run_eq2]; rfl
  have hq2 : ∀ W, (Op.equalIn 10000 25 (.agg #[.int .i64 1, .int .i64 2]) (.agg #[.int .i64 1, .int .i64 2])).run Tryz.prog W = .ok true W := fun W => by rw [run_eq2]; rfl
  have hz7 : w1.heap.size ≤ w7.heap.size := Nat.le_trans hz6 hf.size
  clear hf hC hcc r1 r2 r3 r4
  go_wp2_with fail
  refine (loops_any H7.out).mono ?_
  rintro e w8 ⟨v8, rfl, hf, ho⟩
  rw [w_o4] at ho
  have HF8 := Lib.hid (HF7.out.trans hf)
  have H8 := Lib.hid (H7.out.no hf)
  have HO := Lib.hid ho.ints
  clear hf ho p1 p2 p3 p4 hq1 hq2
  go_wp2_with fail
  refine (sameInts_any (HO.out.keep ((Fx.refl No _).alloc _) No.disj) (ints_lit _ [0, 1, 2] (by decide))).mono ?_
  rintro e w9 ⟨rfl, hf⟩
  rw [show (([0, 1, 2] : List Int) == [0, 1, 2]) = true from by decide]
  have HF9 := Lib.hid ((HF8.out.alloc _).trans hf)
  have H9 := Lib.hid ((H8.out.no ((Fx.refl No _).alloc _)).no hf)
  clear hf HO
  go_wp2_with fail
  refine (least_any H9.out (HT.out.keep HF9.out (fun h => h))).mono ?_
  rintro e w10 ⟨v10, rfl, hf, ho⟩
  rw [w_l4] at ho
  obtain ⟨a10, c10, rfl, _⟩ := ho.row
  have HF10 := Lib.hid (HF9.out.trans hf)
  have H10 := Lib.hid (H9.out.no hf)
  clear hf ho
  go_wp2_with fail
  refine (from_any' H10.out (HT.out.keep HF10.out (fun h => h)) 3).mono ?_
  rintro e w11 ⟨v11, rfl, hf, ho⟩
  rw [w_f4] at ho
  have HF11 := Lib.hid (HF10.out.trans hf)
  have HO := Lib.hid ho.ints
  clear hf ho
  go_wp2_with fail
  refine (sameInts_any HO.out (ints_nil w11)).mono ?_
  rintro e w12 ⟨rfl, hf⟩
  rw [show (([] : List Int) == []) = true from rfl]
  have HF12 := Lib.hid (HF11.out.trans hf)
  clear hf
  go_wp2
  go_ret
  exact ⟨rfl, HF12.out⟩
#print axioms works_any
end Go.Proofs.YtfpggeiphbekoaaGreatDoor

namespace Go.Proofs.YtfpggeiphbekoaaGreatDoor
open Go.RowKit
set_option linter.unusedVariables false

theorem nAdd (i j : Int) (w : World) : Calls Tryz.prog 15 #[.pointer none, .int .i64 i, .int .i64 j] w fun e w' => e = .returned (.tuple #[.bool false, .int .i64 1]) ∧ w = w' := by
  go_enter Tryz.func15, Tryz.ntmps15
  go_wp2
  go_ret2
  exact ⟨rfl, rfl⟩
theorem nLen (w : World) : Calls Tryz.prog 34 #[.pointer none] w fun e w' => e = .returned (.int .i64 0) ∧ w = w' := by
  go_enter Tryz.func34, Tryz.ntmps34
  go_wp2
  go_ret
  exact ⟨rfl, rfl⟩
theorem nLeads (i j : Int) (w : World) : Calls Tryz.prog 24 #[.pointer none, .int .i64 i, .int .i64 j] w fun e w' => e = .returned (.bool false) ∧ w = w' := by
  go_enter Tryz.func24, Tryz.ntmps24
  go_wp2
  go_ret
  exact ⟨rfl, rfl⟩
theorem nFrom (i : Int) (w : World) : Calls Tryz.prog 30 #[.pointer none, .int .i64 i] w fun e w' => e = .returned (.slice none 0 0) ∧ w = w' := by
  go_enter Tryz.func30, Tryz.ntmps30
  go_wp2
  go_ret
  exact ⟨rfl, rfl⟩
theorem nTo (i : Int) (w : World) : Calls Tryz.prog 31 #[.pointer none, .int .i64 i] w fun e w' => e = .returned (.slice none 0 0) ∧ w = w' := by
  go_enter Tryz.func31, Tryz.ntmps31
  go_wp2
  go_ret
  exact ⟨rfl, rfl⟩
theorem nLoops (w : World) : Calls Tryz.prog 32 #[.pointer none] w fun e w' => e = .returned (.slice none 0 0) ∧ w = w' := by
  go_enter Tryz.func32, Tryz.ntmps32
  go_wp2_with fail
  refine (nLen w).mono ?_
  rintro e w' ⟨rfl, rfl⟩
  go_wp2
  go_loopw [2, 6] (fun l i ws => l = .slice none 0 0 ∧ i = .int .i64 0 ∧ ws = w) (fun _ i _ => 0)
  case atStart => exact ⟨rfl, rfl, rfl⟩
  case round =>
    obtain ⟨rfl, rfl, rfl⟩ := hrel
    go_wp2
    go_ret
    exact ⟨rfl, rfl⟩
theorem nCyclic (w : World) : Calls Tryz.prog 20 #[.pointer none] w fun e w' => e = .returned (.bool false) ∧ w = w' := by
  go_enter Tryz.func20, Tryz.ntmps20
  go_wp2_with fail
  refine (nLoops w).mono ?_
  rintro e w' ⟨rfl, rfl⟩
  go_wp2
  go_ret
  exact ⟨rfl, rfl⟩
theorem nPairs (w : World) : Calls Tryz.prog 33 #[.pointer none] w fun e w' => e = .returned (.int .i64 0) ∧ w = w' := by
  go_enter Tryz.func33, Tryz.ntmps33
  go_wp2_with fail
  refine (nLen w).mono ?_
  rintro e w' ⟨rfl, rfl⟩
  go_wp2
  go_loopw [2, 6] (fun l i ws => l = .int .i64 0 ∧ i = .int .i64 0 ∧ ws = w) (fun _ i _ => 0)
  case atStart => exact ⟨rfl, rfl, rfl⟩
  case round =>
    obtain ⟨rfl, rfl, rfl⟩ := hrel
    go_wp2
    go_ret
    exact ⟨rfl, rfl⟩
theorem nEdges (w : World) : Calls Tryz.prog 25 #[.pointer none] w fun e w' => e = .returned (.slice none 0 0) ∧ w = w' := by
  go_enter Tryz.func25, Tryz.ntmps25
  go_wp2_with fail
  refine (nLen w).mono ?_
  rintro e w' ⟨rfl, rfl⟩
  go_wp2
  go_loopw [2, 8] (fun l i ws => l = .slice none 0 0 ∧ i = .int .i64 0 ∧ ws = w) (fun _ i _ => 0)
  case atStart => exact ⟨rfl, rfl, rfl⟩
  case round =>
    obtain ⟨rfl, rfl, rfl⟩ := hrel
    go_wp2
    go_ret
    exact ⟨rfl, rfl⟩
theorem nLeast (w : World) : Calls Tryz.prog 29 #[.pointer none] w fun e w' => e = .returned (.slice none 0 0) ∧ w = w' := by
  go_enter Tryz.func29, Tryz.ntmps29
  go_wp2_with fail
  refine (nCyclic w).mono ?_
  rintro e w' ⟨rfl, rfl⟩
  go_wp2_with fail
  refine (nEdges w).mono ?_
  rintro e w' ⟨rfl, rfl⟩
  go_wp2
  go_loopw [2, 10] (fun l i ws => l = .slice none 0 0 ∧ i = .int .i64 0 ∧ ws = w) (fun _ i _ => 0)
  case atStart => exact ⟨rfl, rfl, rfl⟩
  case round =>
    obtain ⟨rfl, rfl, rfl⟩ := hrel
    go_wp2
    go_ret
    exact ⟨rfl, rfl⟩
theorem nCopy (w : World) : Calls Tryz.prog 10 #[.pointer none] w fun e w' => e = .returned (.pointer none) ∧ w = w' := by
  go_enter Tryz.func10, Tryz.ntmps10
  go_wp2
  go_ret
  exact ⟨rfl, rfl⟩
theorem nOf (w : World) : Calls Tryz.prog 18 #[.pointer none] w fun e w' => e = .returned (.tuple #[.pointer none, .int .i64 1]) ∧ w = w' := by
  go_enter Tryz.func18, Tryz.ntmps18
  go_wp2
  go_ret2
  exact ⟨rfl, rfl⟩
set_option maxRecDepth 100000 in
set_option maxHeartbeats 4000000 in
theorem none_any {w : World} (i j : Int) (hT : TabOk w) : Calls Tryz.prog 7 #[.int .i64 i, .int .i64 j] w fun e w' => e = .returned (.bool true) ∧ Fx No w w' := by
  have HT := Lib.hid hT
  clear hT
  go_enter Tryz.func7, Tryz.ntmps7
  go_wp2_with fail
  refine (nAdd i j w).mono ?_
  rintro e w' ⟨rfl, rfl⟩
  go_wp2_with fail
  refine (nOf w).mono ?_
  rintro e w' ⟨rfl, rfl⟩
  go_wp2_with fail
  refine (nLeads i j w).mono ?_
  rintro e w' ⟨rfl, rfl⟩
  go_wp2_with fail
  refine (nFrom i w).mono ?_
  rintro e w' ⟨rfl, rfl⟩
  go_wp2_with fail
  refine (nTo i w).mono ?_
  rintro e w' ⟨rfl, rfl⟩
  go_wp2_with fail
  refine (nCyclic w).mono ?_
  rintro e w' ⟨rfl, rfl⟩
  go_wp2_with fail
  refine (nLoops w).mono ?_
  rintro e w' ⟨rfl, rfl⟩
  go_wp2_with fail
  refine (nPairs w).mono ?_
  rintro e w' ⟨rfl, rfl⟩
  go_wp2_with fail
  refine (nLen w).mono ?_
  rintro e w' ⟨rfl, rfl⟩
  go_wp2_with fail
  refine (nEdges w).mono ?_
  rintro e w' ⟨rfl, rfl⟩
  go_wp2_with fail
  refine (nLeast w).mono ?_
  rintro e w' ⟨rfl, rfl⟩
  go_wp2_with fail
  refine (nCopy w).mono ?_
  rintro e w' ⟨rfl, rfl⟩
  go_wp2_with fail
  refine (works_any HT.out).mono ?_
  rintro e w1 ⟨rfl, hf⟩
  have HF := Lib.hid hf
  clear hf
  go_wp2
  go_ret
  exact ⟨rfl, HF.out⟩
#print axioms none_any
end Go.Proofs.YtfpggeiphbekoaaGreatDoor
