/- alibikit.SameInts, for the seat of chapter 07. -/
import Derived.Test.YtpegloapdkfgiaaNH
namespace Go.Proofs.Ytpegloapdkfgiaa
open Go.RowKit
set_option linter.unusedVariables false

theorem IntsV.mono {w : World} {D T : Nat → Prop} {v : Value} {l : List Int} (h : IntsV w D v l) (hd : ∀ k, D k → T k) : IntsV w T v l := SlV.mono h hd
theorem IntsV.no {w w1 : World} {D : Nat → Prop} {v : Value} {l : List Int} (h : IntsV w D v l) (hf : Fx No w w1) : IntsV w1 D v l := h.keep hf No.disj
theorem gi_ext {a b : List Int} (h : a.length = b.length) (hg : ∀ k, k < a.length → gi a k = gi b k) : a = b := by
  apply List.ext_getElem h
  intro k h1 h2
  have := hg k h1
  simpa [gi, h1, h2] using this
theorem sameInts_any {w : World} {D E : Nat → Prop} {v u : Value} {a b : List Int} (h : IntsV w D v a) (h' : IntsV w E u b) :
    Calls Try.prog 20 #[v, u] w fun e w' => e = .returned (.bool (a == b)) ∧ Fx No w w' := by
  obtain ⟨ao, cap, rfl, hal, hc⟩ := h.facts
  obtain ⟨bo, bcap, rfl, hbl, hc'⟩ := h'.facts
  have HC := Lib.hid hc
  have HC' := Lib.hid hc'
  clear h h' hc hc'
  by_cases hl : a.length = b.length
  · have hn : ((a.length : Int) != (b.length : Int)) = false := by rw [hl]; simp
    have HL := Lib.hid hl
    clear hl
    go_enter Try.func20, Try.ntmps20
    go_wp2
    go_loopw [5] (fun i wr => ∃ k : Nat, k ≤ a.length ∧ i = .int .i64 k ∧ (∀ j, j < k → gi a j = gi b j) ∧ Fx No w wr) (fun i _ => a.length - (intOf i).toNat)
    case atStart => exact ⟨0, Nat.zero_le _, rfl, fun j hj => by omega, Fx.refl _ _⟩
    case round =>
      obtain ⟨k, hk, rfl, hq, hf⟩ := hrel
      have HQ := Lib.hid hq
      have HF := Lib.hid hf
      clear hq hf
      by_cases hlt : k < a.length
      · obtain ⟨b1, o1, rfl, _, hcell1⟩ := HC.out k hlt
        obtain ⟨b2, o2, rfl, _, hcell2⟩ := HC'.out k (by rw [← HL.out]; exact hlt)
        have h1 := HF.out.cell' hcell1 (fun h => h)
        have h2 := HF.out.cell' hcell2 (fun h => h)
        have hlt2 : (k : Int) < (b.length : Int) := by rw [← HL.out]; omega
        clear hcell1 hcell2
        by_cases he : gi a k = gi b k
        · have hd : (gi a k != gi b k) = false := by simpa using he
          have HE := Lib.hid he
          clear he
          go_wp2
          go_quiet (fail)
          go_wp2
          go_roundw
          case rel => exact ⟨k + 1, by omega, by go_num, fun j hj => by
            by_cases e : j = k
            · subst e; exact HE.out
            · exact HQ.out j (by omega), HF.out.drewN _⟩
          case measure => simp [intOf]; omega
        · have hd : (gi a k != gi b k) = true := by simpa using he
          have HB : Hid ((a == b) = false) := by
            show (a == b) = false
            rw [beq_eq_false_iff_ne]
            rintro rfl
            exact he rfl
          clear he
          go_wp2
          go_quiet (fail)
          go_wp2
          go_ret
          exact ⟨by rw [HB.out]; rfl, HF.out.drewN _⟩
      · have HB : Hid ((a == b) = true) := by
          show (a == b) = true
          rw [beq_iff_eq]
          exact gi_ext HL.out fun j hj => HQ.out j (by omega)
        go_wp2
        go_ret
        exact ⟨by rw [HB.out]; rfl, HF.out⟩
  · have hn : ((a.length : Int) != (b.length : Int)) = true := by simp; omega
    have HB : Hid ((a == b) = false) := by
      show (a == b) = false
      rw [beq_eq_false_iff_ne]
      rintro rfl
      exact hl rfl
    clear hl
    go_enter Try.func20, Try.ntmps20
    go_wp2
    go_ret
    exact ⟨by rw [HB.out]; rfl, Fx.refl _ _⟩
#print axioms sameInts_any
end Go.Proofs.Ytpegloapdkfgiaa
