/- Contracts of package alibiref08: in, Do. -/
import Derived.Test.YthbfpcheljaeaaaDoorRefE
namespace Go.Proofs.YthbfpcheljaeaaaDoor
open Go.RowKit
set_option linter.unusedVariables false

def sn (L : List (Nat × Nat)) (k : Nat) : Nat := (L.getD k (0, 0)).1
def sX (L : List (Nat × Nat)) (k : Nat) : Nat := (L.getD k (0, 0)).2
/-- Rows of truths, a row of them: each reads as its number. -/
def SetsV (w : World) (D : Nat → Prop) (v : Value) (L : List (Nat × Nat)) : Prop :=
  ∃ vs : List Value, vs.length = L.length ∧ SlV w D v 1 L.length vs ∧ ∀ k, k < L.length → IsR w D (vs.getD k undef) (sn L k) (sX L k)
theorem SetsV.keep {w w1 : World} {D S : Nat → Prop} {v : Value} {L : List (Nat × Nat)} (h : SetsV w D v L) (hf : Fx S w w1) (hd : ∀ k, D k → ¬ S k) : SetsV w1 D v L := by
  obtain ⟨vs, h1, h2, h3⟩ := h
  exact ⟨vs, h1, h2.keep hf hd, fun k hk => (h3 k hk).keep hf hd⟩
theorem SetsV.facts {w : World} {D : Nat → Prop} {v : Value} {L : List (Nat × Nat)} (h : SetsV w D v L) : ∃ ao cap, v = .slice ao L.length cap ∧ L.length ≤ 9223372036854775807 ∧
    ∀ k, k < L.length → ∃ b o co cp, ao = some ⟨b, o, none⟩ ∧ w.cell? ⟨b, o + k, none⟩ = some (.slice co (sn L k) cp) ∧ IsR w D (.slice co (sn L k) cp) (sn L k) (sX L k) := by
  obtain ⟨vs, h1, ⟨ao, cap, h2, h3, h4, h5, h6, h7⟩, h8⟩ := h
  unfold maxLen at h4
  refine ⟨ao, cap, h2, by omega, fun k hk => ?_⟩
  obtain ⟨b, o, h9, h10, h11⟩ := h7.addr (by omega)
  have := h11 k (by omega)
  have hr := h8 k hk
  obtain ⟨co, cp, hv⟩ := hr.shape
  rw [hv] at hr this
  exact ⟨b, o, co, cp, h9, this, hr⟩

/-- is i in one of them; in each? -/
def oneB (L : List (Nat × Nat)) (i : Int) : Bool := L.any fun p => hasB p.2 i
def eachB (L : List (Nat × Nat)) (i : Int) : Bool := L.all fun p => hasB p.2 i
theorem take_getD {α : Type} {L : List α} {k : Nat} (d : α) (h : k < L.length) : L.take (k + 1) = L.take k ++ [L.getD k d] := by
  rw [List.take_succ_eq_append_getElem h]; simp [h]
theorem oneB_take {L : List (Nat × Nat)} {k : Nat} (i : Int) (h : k < L.length) : oneB (L.take (k + 1)) i = (oneB (L.take k) i || hasB (sX L k) i) := by
  unfold oneB sX; rw [take_getD (0, 0) h, List.any_append]; simp
theorem eachB_take {L : List (Nat × Nat)} {k : Nat} (i : Int) (h : k < L.length) : eachB (L.take (k + 1)) i = (eachB (L.take k) i && hasB (sX L k) i) := by
  unfold eachB sX; rw [take_getD (0, 0) h, List.all_append]; simp

theorem refIn_any {w : World} {D : Nat → Prop} {v : Value} {L : List (Nat × Nat)} (h : SetsV w D v L) (i : Int) :
    Calls Tryd.prog 53 #[v, .int .i64 i] w fun e w' => e = .returned (.tuple #[.bool (oneB L i), .bool (eachB L i)]) ∧ Fx No w w' := by
  obtain ⟨ao, cap, rfl, hlen, hc⟩ := h.facts
  have HC := Lib.hid hc
  clear hc h
  go_enter Tryd.func53, Tryd.ntmps53
  go_wp2
  go_loopw [6, 7, 8] (fun p q j wr => ∃ k : Nat, k ≤ L.length ∧ j = .int .i64 k ∧ p = .bool (oneB (L.take k) i) ∧ q = .bool (eachB (L.take k) i) ∧ Fx No w wr) (fun _ _ j _ => L.length - (intOf j).toNat)
  case atStart => exact ⟨0, Nat.zero_le _, rfl, rfl, rfl, Fx.refl _ _⟩
  case round =>
    obtain ⟨k, hk, rfl, rfl, rfl, hf⟩ := hrel
    have HF := Lib.hid hf
    clear hf
    by_cases hlt : k < L.length
    · obtain ⟨b, o, co, cp, rfl, hcell, hr⟩ := HC.out k hlt
      have hcell' := HF.out.cell' hcell (fun h => h)
      have HR := Lib.hid hr
      have H1 := Lib.hid (oneB_take i hlt)
      have H2 := Lib.hid (eachB_take i hlt)
      clear hcell hr
      rcases h1 : oneB (L.take k) i with _ | _
      · rcases h2 : eachB (L.take k) i with _ | _
        · go_wp2_with fail
          refine (refHas_any (HR.out.no HF.out) _).mono ?_
          rintro e w1 ⟨rfl, hf⟩
          have HF1 := Lib.hid (HF.out.trans hf)
          clear hf
          go_wp2
          go_roundw
          case rel => exact ⟨k + 1, by omega, by go_num, by rw [H1.out, h1]; simp, by rw [H2.out, h2]; simp, HF1.out⟩
          case measure => simp [intOf]; omega
        · go_wp2_with fail
          refine (refHas_any (HR.out.no HF.out) _).mono ?_
          rintro e w1 ⟨rfl, hf⟩
          have hcell2 := hf.cell' hcell' (fun h => h)
          have HF1 := Lib.hid (HF.out.trans hf)
          clear hf
          go_wp2_with fail
          refine (refHas_any (HR.out.no HF1.out) _).mono ?_
          rintro e w2 ⟨rfl, hf⟩
          have HF2 := Lib.hid (HF1.out.trans hf)
          clear hf
          go_wp2
          go_roundw
          case rel => exact ⟨k + 1, by omega, by go_num, by rw [H1.out, h1]; simp, by rw [H2.out, h2]; simp, HF2.out⟩
          case measure => simp [intOf]; omega
      · rcases h2 : eachB (L.take k) i with _ | _
        · go_wp2
          go_roundw
          case rel => exact ⟨k + 1, by omega, by go_num, by rw [H1.out, h1]; simp, by rw [H2.out, h2]; simp, HF.out⟩
          case measure => simp [intOf]; omega
        · go_wp2_with fail
          refine (refHas_any (HR.out.no HF.out) _).mono ?_
          rintro e w1 ⟨rfl, hf⟩
          have HF1 := Lib.hid (HF.out.trans hf)
          clear hf
          go_wp2
          go_roundw
          case rel => exact ⟨k + 1, by omega, by go_num, by rw [H1.out, h1]; simp, by rw [H2.out, h2]; simp, HF1.out⟩
          case measure => simp [intOf]; omega
    · obtain rfl : k = L.length := by omega
      go_wp2
      go_ret2
      exact ⟨by simp [List.take_length], HF.out⟩
#print axioms refIn_any
end Go.Proofs.YthbfpcheljaeaaaDoor
