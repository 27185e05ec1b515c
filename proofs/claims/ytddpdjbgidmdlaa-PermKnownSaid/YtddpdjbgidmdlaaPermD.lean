/- Pairs; the reference's Respects; perm.Respects and what it calls. -/
import Derived.Test.YtddpdjbgidmdlaaPermC
namespace Go.Proofs.Ytddpdjbgidmdlaa
open Go.RowKit
set_option linter.unusedVariables false

def pcells (ps : List (Int × Int)) : List Value := ps.flatMap fun q => [.int .i64 q.1, .int .i64 q.2]
def gp (ps : List (Int × Int)) (k : Nat) : Int × Int := ps.getD k (0, 0)
theorem pcells_length (ps : List (Int × Int)) : (pcells ps).length = ps.length * 2 := by
  induction ps with
  | nil => rfl
  | cons q ps ih =>
    have e : pcells (q :: ps) = [.int .i64 q.1, .int .i64 q.2] ++ pcells ps := rfl
    rw [e, List.length_append, ih]; simp; omega
theorem pcells_at : ∀ {ps : List (Int × Int)} {k : Nat}, k < ps.length → (pcells ps)[k * 2]? = some (.int .i64 (gp ps k).1) ∧ (pcells ps)[k * 2 + 1]? = some (.int .i64 (gp ps k).2)
  | [], k, h => by simp at h
  | q :: ps, 0, _ => by simp [pcells, gp]
  | q :: ps, k + 1, h => by
    have ih := pcells_at (ps := ps) (k := k) (by simpa using h)
    have e : pcells (q :: ps) = [.int .i64 q.1, .int .i64 q.2] ++ pcells ps := rfl
    have g : gp (q :: ps) (k + 1) = gp ps k := by simp [gp]
    rw [e, g, show (k + 1) * 2 = k * 2 + 2 by omega, show k * 2 + 2 + 1 = (k * 2 + 1) + 2 by omega]
    simp only [List.cons_append, List.nil_append, List.getElem?_cons_succ]
    exact ih
def PairsV (w : World) (D : Nat → Prop) (v : Value) (ps : List (Int × Int)) : Prop := SlV w D v 2 ps.length (pcells ps)
theorem PairsV.keep {w w1 : World} {D S : Nat → Prop} {v : Value} {ps : List (Int × Int)} (h : PairsV w D v ps) (hf : Fx S w w1) (hd : ∀ k, D k → ¬ S k) : PairsV w1 D v ps := SlV.keep h hf hd
theorem PairsV.no {w w1 : World} {D : Nat → Prop} {v : Value} {ps : List (Int × Int)} (h : PairsV w D v ps) (hf : Fx No w w1) : PairsV w1 D v ps := SlV.keep h hf No.disj
theorem PairsV.facts {w : World} {D : Nat → Prop} {v : Value} {ps : List (Int × Int)} (h : PairsV w D v ps) : ∃ ao cap, v = .slice ao ps.length cap ∧ ps.length ≤ 9223372036854775807 ∧
    ∀ k, k < ps.length → ∃ b o, ao = some ⟨b, o, none⟩ ∧ D b ∧ w.cell? ⟨b, o + k * 2, none⟩ = some (.int .i64 (gp ps k).1) ∧ w.cell? ⟨b, o + k * 2 + 1, none⟩ = some (.int .i64 (gp ps k).2) := by
  obtain ⟨ao, cap, h1, h2, h3, h4, h5, h6⟩ := h
  unfold maxLen at h3
  refine ⟨ao, cap, h1, by omega, fun k hk => ?_⟩
  obtain ⟨b, o, h7, h8, h9⟩ := h6.addr (by rw [pcells_length]; omega)
  obtain ⟨g1, g2⟩ := pcells_at hk
  have e1 := h9 (k * 2) (by rw [pcells_length]; omega)
  have e2 := h9 (k * 2 + 1) (by rw [pcells_length]; omega)
  refine ⟨b, o, h7, h8, by rw [e1]; simp [List.getD, g1], ?_⟩
  rw [show o + k * 2 + 1 = o + (k * 2 + 1) by omega, e2]; simp [List.getD, g2]

/-- a pair is respected -/
def pairB (p : List Int) (q : Int × Int) : Bool := decide (0 ≤ placeI p q.1 ∧ 0 ≤ placeI p q.2 ∧ placeI p q.1 < placeI p q.2)
theorem pairB_iff (p : List Int) (q : Int × Int) : pairB p q = true ↔ 0 ≤ placeI p q.1 ∧ 0 ≤ placeI p q.2 ∧ placeI p q.1 < placeI p q.2 := by simp [pairB]
def respB (p : List Int) (ps : List (Int × Int)) : Bool := ps.all (pairB p) && okB p
theorem respB_false {p : List Int} {ps : List (Int × Int)} {k : Nat} (hk : k < ps.length) (h : pairB p (gp ps k) = false) : respB p ps = false := by
  unfold respB
  have : ps.all (pairB p) = false := by
    rw [List.all_eq_false]
    exact ⟨gp ps k, by simp [gp, hk], by simp [h]⟩
  rw [this]; rfl
theorem respB_ok {p : List Int} {ps : List (Int × Int)} (h : ∀ k, k < ps.length → pairB p (gp ps k) = true) : respB p ps = okB p := by
  unfold respB
  have : ps.all (pairB p) = true := by
    rw [List.all_eq_true]
    intro q hq
    obtain ⟨k, hk, rfl⟩ := List.getElem_of_mem hq
    have := h k hk
    simpa [gp, hk] using this
  rw [this]; rfl
theorem placeI_ge (p : List Int) (n : Int) : -1 ≤ placeI p n ∧ (placeI p n < p.length ∨ placeI p n = -1) := by
  unfold placeI; split <;> omega
set_option maxHeartbeats 1000000 in
theorem refRespects_any {w : World} {D E : Nat → Prop} {v u : Value} {p : List Int} {ps : List (Int × Int)} (h : IntsV w D v p) (h' : PairsV w E u ps) (hp : p.length ≤ 1000000) :
    Calls Try.prog 14 #[v, u] w fun e w' => e = .returned (.bool (respB p ps)) ∧ Fx No w w' := by
  obtain ⟨ao, cap, rfl, hl, hc⟩ := h.facts
  obtain ⟨uo, ucap, rfl, hul, hc'⟩ := h'.facts
  have H := Lib.hid h
  have HC' := Lib.hid hc'
  obtain ⟨len, hlen⟩ : ∃ k, k = p.length := ⟨_, rfl⟩
  obtain ⟨ul, hulen⟩ : ∃ k, k = ps.length := ⟨_, rfl⟩
  rw [← hlen] at hl hp ⊢
  rw [← hulen] at hul ⊢
  have HLen := Lib.hid hlen
  have HUl := Lib.hid hulen
  have H : Hid (IntsV w D (.slice ao len cap) p) := by rw [hlen]; exact H
  have HRS : Hid (rightB p (len : Int) = okB p) := by rw [hlen]; exact Lib.hid (rightB_self p)
  clear hc hc' h h' hlen hulen
  go_enter Try.func14, Try.ntmps14
  go_wp2
  go_loopw [5] (fun i wr => ∃ k : Nat, i = .int .i64 k ∧ k ≤ ul ∧ Fx No w wr ∧ ∀ j, j < k → pairB p (gp ps j) = true) (fun i _ => ul - (intOf i).toNat)
  case atStart => exact ⟨0, rfl, Nat.zero_le _, Fx.refl _ _, fun j hj => by omega⟩
  case round =>
    obtain ⟨k, rfl, hk, hf, hn⟩ := hrel
    have HF := Lib.hid hf
    have HN := Lib.hid hn
    clear hf hn
    by_cases hlt : k < ul
    · obtain ⟨b, o, rfl, _, c1, c2⟩ := HC'.out k (by rw [← HUl.out]; exact hlt)
      have hkp : Hid (k < ps.length) := by rw [← HUl.out]; exact hlt
      obtain ⟨x, hx⟩ : ∃ x, x = (gp ps k).1 := ⟨_, rfl⟩
      obtain ⟨y, hy⟩ : ∃ x, x = (gp ps k).2 := ⟨_, rfl⟩
      rw [← hx] at c1
      rw [← hy] at c2
      have q1 : ∀ w', Fx No wr w' → w'.cell? ⟨b, o + k * 2, none⟩ = some (.int .i64 x) := fun w' h => (HF.out.trans h).cell' c1 (fun h => h)
      have q2 : ∀ w', Fx No wr w' → w'.cell? ⟨b, o + k * 2 + 1, none⟩ = some (.int .i64 y) := fun w' h => (HF.out.trans h).cell' c2 (fun h => h)
      have hk0 : (0 : Int) ≤ (k : Int) := by omega
      have hk1 : (k : Int) < (ul : Int) := by omega
      have s0 : Fx No wr wr := Fx.refl _ _
      have CP : Hid (∀ w' n, Fx No wr w' → Calls Try.prog 38 #[.slice ao len cap, .int .i64 n] w' fun e w'' => e = .returned (.int .i64 (placeI p n)) ∧ Fx No w' w'') := fun w' n h =>
        (refPlace_any (H.out.no (HF.out.trans h)) n).mono (by rintro e w'' ⟨rfl, rfl⟩; exact ⟨rfl, Fx.refl _ _⟩)
      obtain ⟨px, hpx⟩ : ∃ z, z = placeI p x := ⟨_, rfl⟩
      obtain ⟨py, hpy⟩ : ∃ z, z = placeI p y := ⟨_, rfl⟩
      have HPB : Hid (pairB p (gp ps k) = decide (0 ≤ px ∧ 0 ≤ py ∧ px < py)) := by rw [hpx, hpy, hx, hy]; exact Lib.hid rfl
      have CX : Hid (∀ w', Fx No wr w' → Calls Try.prog 38 #[.slice ao len cap, .int .i64 x] w' fun e w'' => e = .returned (.int .i64 px) ∧ Fx No w' w'') := fun w' h => by rw [hpx]; exact CP.out w' x h
      have CY : Hid (∀ w', Fx No wr w' → Calls Try.prog 38 #[.slice ao len cap, .int .i64 y] w' fun e w'' => e = .returned (.int .i64 py) ∧ Fx No w' w'') := fun w' h => by rw [hpy]; exact CP.out w' y h
      clear c1 c2 hx hy hpx hpy CP
      go_wp2_with fail
      go_region_held3 (fun w' => Fx No wr w')
        (first
          | exact s0.drew
          | exact Fx.transNo (by assumption) hfi)
        (first
          | (go_at_call 38; with_reducible refine (CX.out _ (by assumption)).mono ?_; rintro e w' ⟨rfl, hfi⟩)
          | (go_at_call 38; with_reducible refine (CY.out _ (by assumption)).mono ?_; rintro e w' ⟨rfl, hfi⟩))
      all_goals
        have HK : Hid (Fx No wr w') := by assumption
        clear q1 q2 s0
        by_cases h1 : 0 ≤ px
        · by_cases h2 : 0 ≤ py
          · by_cases h3 : px < py
            · have HB : Hid (pairB p (gp ps k) = true) := by rw [HPB.out]; exact decide_eq_true ⟨h1, h2, h3⟩
              go_wp2
              go_roundw
              case rel => exact ⟨k + 1, by go_num, by omega, HF.out.transNo HK.out, fun j hj => by
                by_cases e : j = k
                · subst e; exact HB.out
                · exact HN.out j (by omega)⟩
              case measure => simp [intOf]; omega
            · have HB : Hid (respB p ps = false) := respB_false hkp.out (by rw [HPB.out]; exact decide_eq_false fun h => h3 h.2.2)
              have h3' : py ≤ px := by omega
              clear h3
              go_wp2
              go_ret
              exact ⟨by rw [HB.out]; rfl, HF.out.transNo HK.out⟩
          · have HB : Hid (respB p ps = false) := respB_false hkp.out (by rw [HPB.out]; exact decide_eq_false fun h => h2 h.2.1)
            have h2' : py < 0 := by omega
            clear h2
            go_wp2
            go_ret
            exact ⟨by rw [HB.out]; rfl, HF.out.transNo HK.out⟩
        · have HB : Hid (respB p ps = false) := respB_false hkp.out (by rw [HPB.out]; exact decide_eq_false fun h => h1 h.1)
          have h1' : px < 0 := by omega
          clear h1
          go_wp2
          go_ret
          exact ⟨by rw [HB.out]; rfl, HF.out.transNo HK.out⟩
    · obtain rfl : k = ul := by omega
      have HB : Hid (respB p ps = okB p) := respB_ok (by rw [← HUl.out]; exact HN.out)
      go_wp2_with fail
      refine (refRight_any (H.out.no HF.out) _).mono ?_
      rintro e w' ⟨rfl, rfl⟩
      rw [HRS.out]
      go_wp2
      go_ret
      exact ⟨by rw [HB.out]; rfl, HF.out⟩
#print axioms refRespects_any
end Go.Proofs.Ytddpdjbgidmdlaa
