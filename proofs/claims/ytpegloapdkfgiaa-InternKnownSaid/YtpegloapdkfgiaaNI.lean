/- intern: the chapter's examples; few rows. -/
import Derived.Test.YtpegloapdkfgiaaNSame
namespace Go.Proofs.Ytpegloapdkfgiaa
open Go.RowKit
set_option linter.unusedVariables false

theorem rising_any {w : World} {D : Nat → Prop} {b : Nat} {L : List Int} (h : TabU w D b L) : Calls Try.prog 18 #[.pointer (some ⟨b, 0, none⟩)] w fun e w' => ∃ v R, e = .returned v ∧ Fx No w w' ∧ Risen (ltU L) L.length R ∧ RowR w w' v R := by
  have H := Lib.hid h
  clear h
  go_enter Try.func18, Try.ntmps18
  go_wp2_with fail
  refine (rising_core H.out).mono ?_
  rintro e w1 ⟨v, R, rfl, hf, hR, hr⟩
  obtain ⟨ao, cap, rfl, _⟩ := IntsV.facts hr.1
  have HF := Lib.hid hf
  have HR := Lib.hid hR
  have Hr := Lib.hid hr
  clear hf hR hr
  go_wp2
  go_ret
  exact ⟨_, R, rfl, HF.out, HR.out, Hr.out⟩
theorem risen_works {R : List Nat} (h : Risen (ltU [9, 4, 7]) 3 R) : natsI R = [1, 2, 0] := by
  obtain ⟨hl, h⟩ := h
  obtain ⟨a, b, c, rfl⟩ : ∃ a b c, R = [a, b, c] := by
    match R, hl with
    | [a, b, c], _ => exact ⟨a, b, c, rfl⟩
  have h0 := h 0 (by omega)
  have h1 := h 1 (by omega)
  have h2 := h 2 (by omega)
  simp only [List.getD, List.getElem?_cons_zero, List.getElem?_cons_succ, Option.getD_some] at h0 h1 h2
  have A0 : aheadN (ltU [9, 4, 7]) 3 0 = 2 := by decide
  have A1 : aheadN (ltU [9, 4, 7]) 3 1 = 0 := by decide
  have A2 : aheadN (ltU [9, 4, 7]) 3 2 = 1 := by decide
  have ha : a = 1 := by
    obtain ⟨q1, q2⟩ := h0
    match a, q1 with
    | 0, _ => rw [A0] at q2; omega
    | 1, _ => rfl
    | 2, _ => rw [A2] at q2; omega
  have hb : b = 2 := by
    obtain ⟨q1, q2⟩ := h1
    match b, q1 with
    | 0, _ => rw [A0] at q2; omega
    | 1, _ => rw [A1] at q2; omega
    | 2, _ => rfl
  have hc : c = 0 := by
    obtain ⟨q1, q2⟩ := h2
    match c, q1 with
    | 0, _ => rfl
    | 1, _ => rw [A1] at q2; omega
    | 2, _ => rw [A2] at q2; omega
  subst ha hb hc
  rfl
theorem NumV.lit {w : World} {t : TypeId} (xs : List Int) (h : xs.length ≤ 1000000) : NumV (w.alloc (.cells (ncells kU xs).toArray t)) (fun j => j = w.heap.size) (.slice (some ⟨w.heap.size, 0, none⟩) xs.length xs.length) xs := by
  have hl := ncells_length fitU xs
  refine ⟨_, xs.length, rfl, Nat.le_refl _, by unfold maxLen; omega, hl, by simp, .inr ⟨w.heap.size, 0, rfl, rfl, fun i hi => ?_⟩⟩
  have hi' : i < (ncells kU xs).length := by simpa using hi
  simp [hi']
theorem IntsV.lit {w : World} {t : TypeId} (xs : List Int) (h : xs.length ≤ 1000000) : IntsV (w.alloc (.cells (ints xs).toArray t)) (fun j => j = w.heap.size) (.slice (some ⟨w.heap.size, 0, none⟩) xs.length xs.length) xs := by
  refine ⟨_, xs.length, rfl, Nat.le_refl _, by unfold maxLen; omega, by simp [ints], by simp, .inr ⟨w.heap.size, 0, rfl, rfl, fun i hi => ?_⟩⟩
  have hi' : i < (ints xs).length := by simpa using hi
  simp [hi']
set_option maxRecDepth 100000 in
set_option maxHeartbeats 4000000 in
theorem works_any (w : World) : Calls Try.prog 9 #[] w fun e w' => e = .returned (.bool true) ∧ Fx No w w' := by
  have HT : Hid (TabU ((w.alloc (.cells #[.map none, .slice none 0 0] 31)).alloc (.cells #[.int .u64 9, .int .u64 4, .int .u64 9, .int .u64 7] 23)) (fun j => j = w.heap.size) w.heap.size []) := Lib.hid ((TabV.new w _).no ((Fx.refl No _).alloc _))
  have HV : Hid (NumV ((w.alloc (.cells #[.map none, .slice none 0 0] 31)).alloc (.cells #[.int .u64 9, .int .u64 4, .int .u64 9, .int .u64 7] 23)) (fun j => j = w.heap.size + 1) (.slice (some ⟨w.heap.size + 1, 0, none⟩) 4 4) [9, 4, 9, 7]) := Lib.hid (by
    have := NumV.lit (w := w.alloc (.cells #[.map none, .slice none 0 0] 31)) (t := 23) [9, 4, 9, 7] (by simp)
    simpa [ncells, kU] using this)
  go_enter Try.func9, Try.ntmps9
  go_wp2_with fail
  refine (add_any HT.out HV.out (fun x hx => by simp at hx; unfold OkU; omega) (fun j e q => by omega) (by simp)).mono ?_
  rintro e w1 ⟨rfl, hf, D1, hT1, hD1⟩
  rw [show addN ([] : List Int) [9, 4, 9, 7] = [9, 4, 7] from by decide] at hT1
  rw [show numN ([] : List Int) [9, 4, 9, 7] (-1) = 2 from by decide]
  have HT1 := Lib.hid hT1
  have HF1 : Hid (Fx No w w1) := Lib.hid ((((Fx.refl No w).alloc _).alloc _).trans' hf fun j e h => by have h3 : j = w.heap.size := e; omega)
  clear hf hT1 hD1
  go_wp2_with fail
  refine (find_any HT1.out (x := 4) (by unfold OkU; omega)).mono ?_
  rintro e w2 ⟨rfl, hf⟩
  rw [show fnd ([9, 4, 7] : List Int) 4 = 1 from by decide, show isIn ([9, 4, 7] : List Int) 4 = true from by decide]
  have HF2 : Hid (Fx No w1 w2) := Lib.hid hf
  clear hf
  go_wp2_with fail
  refine (find_any (HT1.out.no HF2.out) (x := 5) (by unfold OkU; omega)).mono ?_
  rintro e w3 ⟨rfl, hf⟩
  rw [show fnd ([9, 4, 7] : List Int) 5 = 0 from by decide, show isIn ([9, 4, 7] : List Int) 5 = false from by decide]
  have HF3 : Hid (Fx No w1 w3) := Lib.hid (HF2.out.trans hf)
  clear hf
  go_wp2_with fail
  refine (name_any (HT1.out.no HF3.out) 3).mono ?_
  rintro e w4 ⟨rfl, hf⟩
  rw [show nam ([9, 4, 7] : List Int) 3 = 0 from by decide, show namE ([9, 4, 7] : List Int) 3 = 70 from by decide]
  have HF4 : Hid (Fx No w1 w4) := Lib.hid (HF3.out.trans hf)
  clear hf
  go_wp2_with fail
  refine (names_any (HT1.out.no HF4.out)).mono ?_
  rintro e w5 ⟨nv, rfl, hf, ho⟩
  have HF5 : Hid (Fx No w1 w5) := Lib.hid (HF4.out.trans hf)
  obtain ⟨ao, cap, rfl, _, _, hc⟩ := NumV.facts (SlV.ofOwns ho)
  obtain ⟨g, o, rfl, _, c0⟩ := hc 0 (by simp)
  obtain ⟨g2, o2, e2, _, c2⟩ := hc 2 (by simp)
  simp only [Option.some.injEq, Addr.mk.injEq] at e2
  obtain ⟨rfl, rfl, _⟩ := e2
  have c0' : w5.cell? ⟨g, o, none⟩ = some (.int .u64 9) := c0
  have c2' : w5.cell? ⟨g, o + 2, none⟩ = some (.int .u64 7) := c2
  clear hf ho hc c0 c2
  go_wp2_with fail
  refine (rising_any (HT1.out.no HF5.out)).mono ?_
  rintro e w6 ⟨rv, R, rfl, hf, hR, hr⟩
  have HF6 : Hid (Fx No w1 w6) := Lib.hid (HF5.out.trans hf)
  have hn := risen_works hR
  have Hr : Hid (IntsV w6 (fun j => w5.heap.size ≤ j) rv [1, 2, 0]) := Lib.hid (by rw [← hn]; exact hr.1)
  clear hf hR hr hn
  go_wp2_with fail
  refine (sameInts_any (a := [1, 2, 0]) (b := [1, 2, 0]) (IntsV.no Hr.out ((Fx.refl No w6).alloc _)) (E := fun j => j = w6.heap.size) (by
    have := IntsV.lit (w := w6) (t := 3) [1, 2, 0] (by simp)
    simpa [ints] using this)).mono ?_
  rintro e w7 ⟨rfl, hf⟩
  have HF7 : Hid (Fx No w w7) := Lib.hid (HF1.out.trans (HF6.out.trans (((Fx.refl No w6).alloc _).trans hf)))
  clear hf
  go_wp2
  go_ret
  exact ⟨rfl, HF7.out⟩
/-- rows of numbers behind a slice -/
def RowsU (w : World) (E : Nat → Prop) (v : Value) (ls : List (List Int)) : Prop := ∃ ao cap, v = .slice ao ls.length cap ∧ cap ≤ 9223372036854775807 ∧ ls.length ≤ cap ∧
  ∀ (k : Nat) (l : List Int), ls[k]? = some l → ∃ g o rv, ao = some ⟨g, o, none⟩ ∧ E g ∧ w.cell? ⟨g, o + k, none⟩ = some rv ∧ NumV w E rv l ∧ ∀ x ∈ l, OkU x
theorem RowsU.keep {w w' : World} {E S : Nat → Prop} {v : Value} {ls : List (List Int)} (h : RowsU w E v ls) (hf : Fx S w w') (hd : ∀ j, E j → ¬ S j) : RowsU w' E v ls := by
  obtain ⟨ao, cap, h1, h2, h3, h4⟩ := h
  refine ⟨ao, cap, h1, h2, h3, fun k l hk => ?_⟩
  obtain ⟨g, o, rv, h5, h6, h7, h8, h9⟩ := h4 k l hk
  exact ⟨g, o, rv, h5, h6, hf.cell' h7 (hd g h6), h8.keep hf hd, h9⟩
theorem few_any {w : World} {E : Nat → Prop} {v : Value} {ls : List (List Int)} (h : RowsU w E v ls) : Calls Try.prog 8 #[v] w fun e w' => ∃ B, e = .returned (.bool B) ∧ (B = true → ls.length ≤ 12 ∧ ∀ (k : Nat) (l : List Int), ls[k]? = some l → l.length ≤ 30) ∧ Fx No w w' := by
  obtain ⟨ao, cap, rfl, hcm, hcl, hc⟩ := h
  have HC := Lib.hid hc
  clear hc
  go_enter Try.func8, Try.ntmps8
  go_wp2
  go_loopw [3] (fun i ws => ∃ κ : Nat, i = .int .i64 κ ∧ κ ≤ ls.length ∧ κ ≤ 13 ∧ (∀ (k : Nat) (l : List Int), k < κ → ls[k]? = some l → l.length ≤ 30) ∧ Fx No w ws) (fun i _ => ls.length - (intOf i).toNat)
  case atStart => exact ⟨0, rfl, by omega, by omega, fun k l h => by omega, Fx.refl _ _⟩
  case round =>
    obtain ⟨κ, rfl, hκ, h13, hq, hf⟩ := hrel
    have HQ := Lib.hid hq
    have HF := Lib.hid hf
    clear hq hf
    by_cases hl : κ < ls.length
    · have d1 : decide ((κ : Int) < (ls.length : Int)) = true := decide_eq_true (by omega)
      have d1' : decide (κ < ls.length) = true := decide_eq_true hl
      by_cases hm : κ < 13
      · have d2 : decide ((κ : Int) < 13) = true := decide_eq_true (by omega)
        have d2' : decide (κ < 13) = true := decide_eq_true hm
        obtain ⟨l, hl2⟩ : ∃ l, ls[κ]? = some l := ⟨_, List.getElem?_eq_getElem hl⟩
        obtain ⟨g, o, rv, rfl, _, hcc, hv, _⟩ := HC.out κ l hl2
        obtain ⟨ra, rc, rfl, _⟩ := NumV.facts hv
        have hcc' := HF.out.cell' hcc (fun h => h)
        have HL := Lib.hid hl2
        clear hcc hv hl2
        by_cases hg : 30 < l.length
        · have d3 : decide ((30 : Int) < (l.length : Int)) = true := decide_eq_true (by omega)
          have d3' : decide (30 < l.length) = true := decide_eq_true hg
          go_wp2
          go_ret
          exact ⟨_, rfl, fun h => (by cases h), HF.out⟩
        · have d3 : decide ((30 : Int) < (l.length : Int)) = false := decide_eq_false (by omega)
          have d3' : decide (30 < l.length) = false := decide_eq_false hg
          go_wp2
          go_roundw
          case rel => exact ⟨κ + 1, by first | rfl | go_num, by omega, by omega, fun k l' hk hkl => by
            by_cases e : k = κ
            · subst e
              have := HL.out.symm.trans hkl
              simp only [Option.some.injEq] at this
              subst this; omega
            · exact HQ.out k l' (by omega) hkl, HF.out⟩
          case measure => simp [intOf]; omega
      · have d2 : decide ((κ : Int) < 13) = false := decide_eq_false (by omega)
        have d2' : decide (κ < 13) = false := decide_eq_false hm
        have d4 : decide ((ls.length : Int) ≤ 12) = false := decide_eq_false (by omega)
        have d4' : decide (ls.length ≤ 12) = false := decide_eq_false (by omega)
        go_wp2
        go_ret
        exact ⟨_, rfl, fun h => (by cases h), HF.out⟩
    · have d1 : decide ((κ : Int) < (ls.length : Int)) = false := decide_eq_false (by omega)
      have d1' : decide (κ < ls.length) = false := decide_eq_false hl
      by_cases h12 : ls.length ≤ 12
      · have d4 : decide ((ls.length : Int) ≤ 12) = true := decide_eq_true (by omega)
        have d4' : decide (ls.length ≤ 12) = true := decide_eq_true h12
        go_wp2
        go_ret
        exact ⟨_, rfl, fun _ => ⟨h12, fun k l hk => HQ.out k l (by have := (List.getElem?_eq_some_iff.1 hk).1; omega) hk⟩, HF.out⟩
      · have d4 : decide ((ls.length : Int) ≤ 12) = false := decide_eq_false (by omega)
        have d4' : decide (ls.length ≤ 12) = false := decide_eq_false h12
        go_wp2
        go_ret
        exact ⟨_, rfl, fun h => (by cases h), HF.out⟩
#print axioms works_any
#print axioms few_any
end Go.Proofs.Ytpegloapdkfgiaa
