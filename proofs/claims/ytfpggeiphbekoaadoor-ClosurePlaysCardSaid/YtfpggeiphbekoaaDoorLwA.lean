/- The laws of closures: same, works. -/
import Derived.Test.YtfpggeiphbekoaaDoorRfF
import Derived.Test.YtfpggeiphbekoaaDoorSame
namespace Go.Proofs.YtfpggeiphbekoaaDoor
open Go.RowKit
set_option linter.unusedVariables false

theorem gt_ext {a b : List (Int × Int)} (h : a.length = b.length) (hg : ∀ k, k < a.length → gt a k = gt b k) : a = b := by
  apply List.ext_getElem h
  intro k h1 h2
  have := hg k h1
  simpa [gt, h1, h2] using this
section
variable {w w' : World} {D E : Nat → Prop}
set_option maxHeartbeats 1000000 in
theorem same_any {v u : Value} {a b : List (Int × Int)} (h : PairsV w D v a) (h' : PairsV w E u b) : Calls Tryd.prog 44 #[v, u] w fun e w' => e = .returned (.bool (decide (a = b))) ∧ Fx No w w' := by
  obtain ⟨ao, cap, rfl, hal, hac, hc⟩ := h.facts
  obtain ⟨bo, bcap, rfl, hbl, hbc, hc'⟩ := h'.facts
  have HC := Lib.hid hc
  have HC' := Lib.hid hc'
  clear h h' hc hc'
  by_cases hl : a.length = b.length
  · have hn : ((a.length : Int) != (b.length : Int)) = false := by rw [hl]; simp
    have HL := Lib.hid hl
    clear hl
    go_enter Tryd.func44, Tryd.ntmps44
    go_wp2
    go_loopw [5] (fun i wr => ∃ k : Nat, k ≤ a.length ∧ i = .int .i64 k ∧ (∀ j, j < k → gt a j = gt b j) ∧ Fx No w wr) (fun i _ => a.length - (intOf i).toNat)
    case atStart => exact ⟨0, Nat.zero_le _, rfl, fun j hj => by omega, Fx.refl _ _⟩
    case round =>
      obtain ⟨k, hk, rfl, hq, hf⟩ := hrel
      have HQ := Lib.hid hq
      have HF := Lib.hid hf
      clear hq hf
      by_cases hlt : k < a.length
      · obtain ⟨b1, o1, rfl, _, x1, x2⟩ := HC.out k hlt
        obtain ⟨b2, o2, rfl, _, y1, y2⟩ := HC'.out k (by rw [← HL.out]; exact hlt)
        have x1 := HF.out.cell' x1 (fun h => h)
        have x2 := HF.out.cell' x2 (fun h => h)
        have y1 := HF.out.cell' y1 (fun h => h)
        have y2 := HF.out.cell' y2 (fun h => h)
        have hlt1 : (k : Int) < (a.length : Int) := by omega
        have hlt2 : (k : Int) < (b.length : Int) := by rw [← HL.out]; omega
        have hk0 : (0 : Int) ≤ (k : Int) := by omega
        obtain ⟨p, hp⟩ : ∃ z, z = (gt a k).1 := ⟨_, rfl⟩
        obtain ⟨q, hq⟩ : ∃ z, z = (gt a k).2 := ⟨_, rfl⟩
        obtain ⟨r, hr⟩ : ∃ z, z = (gt b k).1 := ⟨_, rfl⟩
        obtain ⟨s, hs⟩ : ∃ z, z = (gt b k).2 := ⟨_, rfl⟩
        rw [← hp] at x1
        rw [← hq] at x2
        rw [← hr] at y1
        rw [← hs] at y2
        have HGa : Hid (gt a k = (p, q)) := Lib.hid (Prod.ext hp.symm hq.symm)
        have HGb : Hid (gt b k = (r, s)) := Lib.hid (Prod.ext hr.symm hs.symm)
        clear hp hq hr hs
        by_cases he : p = r
        · have hd : (p != r) = false := by simpa using he
          by_cases he2 : q = s
          · have hd2 : (q != s) = false := by simpa using he2
            have HE : Hid (gt a k = gt b k) := Lib.hid (by rw [HGa.out, HGb.out, he, he2])
            clear he he2
            go_wp2_with fail
            go_quiet (fail)
            all_goals
              go_wp2
              go_roundw
              case rel => exact ⟨k + 1, by omega, by go_num, fun j hj => by
                by_cases e : j = k
                · subst e; exact HE.out
                · exact HQ.out j (by omega), HF.out.drewN _⟩
              case measure => simp [intOf]; omega
          · have hd2 : (q != s) = true := by simpa using he2
            have HB : Hid (decide (a = b) = false) := Lib.hid (by
              rw [decide_eq_false_iff_not]
              rintro rfl
              have := HGa.out.symm.trans HGb.out
              simp only [Prod.mk.injEq] at this
              exact he2 this.2)
            clear he he2
            go_wp2_with fail
            go_quiet (fail)
            all_goals
              go_wp2
              go_ret
              exact ⟨by rw [HB.out]; rfl, HF.out.drewN _⟩
        · have hd : (p != r) = true := by simpa using he
          have HB : Hid (decide (a = b) = false) := Lib.hid (by
            rw [decide_eq_false_iff_not]
            rintro rfl
            have := HGa.out.symm.trans HGb.out
            simp only [Prod.mk.injEq] at this
            exact he this.1)
          clear he
          go_wp2_with fail
          go_quiet (fail)
          all_goals
            go_wp2
            go_ret
            exact ⟨by rw [HB.out]; rfl, HF.out.drewN _⟩
      · have HB : Hid (decide (a = b) = true) := Lib.hid (decide_eq_true (gt_ext HL.out fun j hj => HQ.out j (by omega)))
        have hlt1 : decide ((k : Int) < (a.length : Int)) = false := decide_eq_false (by omega)
        go_wp2
        go_ret
        exact ⟨by rw [HB.out]; rfl, HF.out⟩
  · have hn : ((a.length : Int) != (b.length : Int)) = true := by simp; omega
    have HB : Hid (decide (a = b) = false) := Lib.hid (by
      rw [decide_eq_false_iff_not]
      rintro rfl
      exact hl rfl)
    clear hl
    go_enter Tryd.func44, Tryd.ntmps44
    go_wp2
    go_ret
    exact ⟨by rw [HB.out]; rfl, Fx.refl _ _⟩
end
/-! the chapter's example -/
def zM : Nat → Nat := fun _ => 0
def wD1 := addDn 4 zM zM zM 0 1
def wU1 := addUp 4 zM zM zM 0 1
def wE1 := addEd 4 zM 0 1
def wD2 := addDn 4 wD1 wU1 wE1 1 2
def wU2 := addUp 4 wD1 wU1 wE1 1 2
def wE2 := addEd 4 wE1 1 2
def wD3 := addDn 4 wD2 wU2 wE2 0 2
def wU3 := addUp 4 wD2 wU2 wE2 0 2
def wE3 := addEd 4 wE2 0 2
def wD4 := addDn 4 wD3 wU3 wE3 2 0
def wU4 := addUp 4 wD3 wU3 wE3 2 0
def wE4 := addEd 4 wE3 2 0
theorem w_c0 : cycB 4 zM = false := by decide +kernel
theorem w_c1 : cycB 4 wD1 = false := by decide +kernel
theorem w_c2 : cycB 4 wD2 = false := by decide +kernel
theorem w_c3 : cycB 4 wD3 = false := by decide +kernel
theorem w_c4 : cycB 4 wD4 = true := by decide +kernel
theorem w_l3 : leastL 4 wD3 wE3 = [(0, 1), (1, 2)] := by decide +kernel
theorem w_p3 : pairsTo 4 wD3 4 = 3 := by decide +kernel
theorem w_o4 : loopsTo wD4 4 = [0, 1, 2] := by decide +kernel
theorem w_l4 : leastL 4 wD4 wE4 = [] := by decide +kernel
theorem w_f4 : allX (ofN 4 3) (ofM 4 wD4 3) = [] := by decide +kernel
#print axioms w_l4
#print axioms same_any
end Go.Proofs.YtfpggeiphbekoaaDoor
