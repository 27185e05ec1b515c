/- slices.ContainsFunc at pairs that are not respected; perm.Respects. -/
import Derived.Test.YtddpdjbgidmdlaaPermE
import Derived.Laws.EntriesVeiled
namespace Go.Proofs.Ytddpdjbgidmdlaa
open Go.RowKit
set_option linter.unusedVariables false

def IdxR (l : List Int) (ps : List (Int × Int)) (w : World) (e : Ending) (w' : World) : Prop := ∃ r : Int, e = .returned (.int .i64 r) ∧ decide (0 ≤ r) = ps.any (badB l) ∧ Fx No w w'
theorem indexBad_any {w : World} {D E : Nat → Prop} {A B cap : Nat} {ao : Option Addr} {l : List Int} {u : Value} {ps : List (Int × Int)} (hl : IntsV w D (.slice ao l.length cap) l) (hc : w.cell? ⟨A, 0, none⟩ = some (.slice ao l.length cap))
    (hB : w.cell? ⟨B, 0, none⟩ = some (.func (.func 42) #[] #[.pointer (some ⟨A, 0, none⟩)])) (hp : PairsV w E u ps) :
    Calls Try.prog 48 #[u, .func (.func 44) #[] #[.pointer (some ⟨B, 0, none⟩), .pointer (some ⟨A, 0, none⟩)]] w (IdxR l ps w) := by
  obtain ⟨uo, ucap, rfl, hul, hcell⟩ := hp.facts
  have HP := Lib.hid hcell
  have C44 : Hid (∀ w' q, Fx No w w' → Calls Try.prog 44 #[.agg #[.int .i64 (Prod.fst q), .int .i64 (Prod.snd q)], .pointer (some ⟨B, 0, none⟩), .pointer (some ⟨A, 0, none⟩)] w' fun e w'' => e = .returned (.bool (badB l q)) ∧ Fx No w' w'') := fun w' q h =>
    bad_any (n := 0) (hl.no h) (h.cell' hc (fun h => h)) (h.cell' hB (fun h => h)) q
  obtain ⟨ul, hulen⟩ : ∃ k, k = ps.length := ⟨_, rfl⟩
  rw [← hulen] at hul ⊢
  have HUl := Lib.hid hulen
  clear hcell hl hc hB hp hulen
  go_enter Try.func48, Try.ntmps48
  go_wp2
  go_loopw [8] (fun i wr => ∃ k : Nat, i = .int .i64 k ∧ k ≤ ul ∧ Fx No w wr ∧ ∀ j, j < k → badB l (gp ps j) = false) (fun i _ => ul - (intOf i).toNat)
  case atStart => exact ⟨0, rfl, Nat.zero_le _, Fx.refl _ _, fun j hj => by omega⟩
  case round =>
    obtain ⟨k, rfl, hk, hf, hn⟩ := hrel
    have HF := Lib.hid hf
    have HN := Lib.hid hn
    clear hf hn
    by_cases hlt : k < ul
    · have hkp : Hid (k < ps.length) := by rw [← HUl.out]; exact hlt
      obtain ⟨b, o, rfl, _, c1, c2⟩ := HP.out k hkp.out
      obtain ⟨q, hq⟩ : ∃ q, q = gp ps k := ⟨_, rfl⟩
      have HQ := Lib.hid hq
      have c1 := HF.out.cell' c1 (fun h => h)
      have c2 := HF.out.cell' c2 (fun h => h)
      rw [← hq] at c1 c2
      clear hq
      go_wp2_with fail
      refine (C44.out _ q HF.out).mono ?_
      rintro e w1 ⟨rfl, hf⟩
      have HF1 := Lib.hid (HF.out.transNo hf)
      clear hf
      rcases hb : badB l q with _ | _
      · have HB : Hid (badB l (gp ps k) = false) := by rw [← HQ.out]; exact hb
        clear hb
        go_wp2
        go_roundw
        case rel => exact ⟨k + 1, by go_num, by omega, HF1.out, fun j hj => by
          by_cases e : j = k
          · subst e; exact HB.out
          · exact HN.out j (by omega)⟩
        case measure => simp [intOf]; omega
      · have HB : Hid (ps.any (badB l) = true) := by
          show ps.any (badB l) = true
          rw [List.any_eq_true]
          exact ⟨q, by rw [HQ.out]; simp [gp, hkp.out], hb⟩
        clear hb
        go_wp2
        go_ret
        exact ⟨_, rfl, by rw [HB.out]; simp, HF1.out⟩
    · obtain rfl : k = ul := by omega
      have HB : Hid (ps.any (badB l) = false) := by
        show ps.any (badB l) = false
        rw [List.any_eq_false]
        intro q hq
        obtain ⟨j, hj, rfl⟩ := List.getElem_of_mem hq
        have := HN.out j (by rw [HUl.out]; exact hj)
        simpa [gp, hj] using this
      go_wp2
      go_ret
      exact ⟨_, rfl, by rw [HB.out]; simp, HF.out⟩
theorem containsBad_any {w : World} {D E : Nat → Prop} {A B cap : Nat} {ao : Option Addr} {l : List Int} {u : Value} {ps : List (Int × Int)} (hl : IntsV w D (.slice ao l.length cap) l) (hc : w.cell? ⟨A, 0, none⟩ = some (.slice ao l.length cap))
    (hB : w.cell? ⟨B, 0, none⟩ = some (.func (.func 42) #[] #[.pointer (some ⟨A, 0, none⟩)])) (hp : PairsV w E u ps) :
    Calls Try.prog 43 #[u, .func (.func 44) #[] #[.pointer (some ⟨B, 0, none⟩), .pointer (some ⟨A, 0, none⟩)]] w fun e w' => e = .returned (.bool (ps.any (badB l))) ∧ Fx No w w' := by
  have H := Lib.hid (indexBad_any hl hc hB hp)
  clear hl hc hB hp
  go_enter Try.func43, Try.ntmps43
  go_wp2_with fail
  refine H.out.mono ?_
  rintro e w1 ⟨r, rfl, hr, hf⟩
  have HF := Lib.hid hf
  have HR := Lib.hid hr
  clear hf hr
  go_wp2
  go_ret
  exact ⟨by rw [← HR.out]; rfl, HF.out⟩
theorem mem_of_ok {p : List Int} (h : okP p) {i : Int} : i ∈ p ↔ 0 ≤ i ∧ i < p.length := by
  constructor
  · intro hi; exact ((good_iff p).2 h).1 i hi
  · rintro ⟨h0, h1⟩
    have := h i.toNat (by omega)
    rw [Int.toNat_of_nonneg h0] at this
    exact List.count_pos_iff.1 (by omega)
theorem placeI_nonneg {p : List Int} {i : Int} : 0 ≤ placeI p i ↔ i ∈ p := by
  unfold placeI
  rw [← List.idxOf_lt_length_iff]
  split <;> simp_all <;> omega
theorem bad_pair {p : List Int} (h : okP p) (q : Int × Int) : badB (invL p) q = !pairB p q := by
  obtain ⟨x, y⟩ := q
  have hx : inB (invL p).length x = decide (0 ≤ placeI p x) := by
    unfold inB; rw [invL_length]; exact decide_eq_decide.2 (by rw [placeI_nonneg, mem_of_ok h])
  have hy : inB (invL p).length y = decide (0 ≤ placeI p y) := by
    unfold inB; rw [invL_length]; exact decide_eq_decide.2 (by rw [placeI_nonneg, mem_of_ok h])
  unfold badB pairB
  simp only [hx, hy]
  by_cases h1 : 0 ≤ placeI p x
  · by_cases h2 : 0 ≤ placeI p y
    · obtain ⟨a0, a1⟩ := (mem_of_ok h).1 (placeI_nonneg.1 h1)
      obtain ⟨b0, b1⟩ := (mem_of_ok h).1 (placeI_nonneg.1 h2)
      have e1 : gi (invL p) x.toNat = placeI p x := by
        have : x.toNat < p.length := by omega
        simp only [gi, invL, List.getD, List.getElem?_map, List.getElem?_range this, Option.map_some, Option.getD_some, Int.toNat_of_nonneg a0]
      have e2 : gi (invL p) y.toNat = placeI p y := by
        have : y.toNat < p.length := by omega
        simp only [gi, invL, List.getD, List.getElem?_map, List.getElem?_range this, Option.map_some, Option.getD_some, Int.toNat_of_nonneg b0]
      rw [e1, e2]
      simp only [h1, h2, decide_true, Bool.not_true, Bool.false_or, true_and]
      rw [← decide_not]
      exact decide_eq_decide.2 (by omega)
    · simp [h2]
  · simp [h1]
theorem any_bad {p : List Int} (h : okP p) (ps : List (Int × Int)) : (!ps.any (badB (invL p))) = respB p ps := by
  have : okB p = true := (okB_iff p).2 h
  unfold respB
  rw [this, Bool.and_true]
  induction ps with
  | nil => rfl
  | cons q ps ih => rw [List.any_cons, List.all_cons, ← ih, bad_pair h]; cases pairB p q <;> simp
theorem respects_any {w : World} {D E : Nat → Prop} {v u : Value} {p : List Int} {ps : List (Int × Int)} (h : IntsV w D v p) (h' : PairsV w E u ps) (hp : p.length ≤ 1000000) :
    Calls Try.prog 28 #[v, u] w fun e w' => e = .returned (.bool (respB p ps)) ∧ Fx No w w' := by
  have H := Lib.hid h
  have H' := Lib.hid h'
  have HPp := Lib.hid hp
  clear h h' hp
  by_cases hok : okP p
  · have HB : Hid (okB p = true) := (okB_iff p).2 hok
    have HI : Hid (invR p = invL p) := if_pos hok
    have HA : Hid ((!ps.any (badB (invL p))) = respB p ps) := any_bad hok ps
    clear hok
    go_enter Try.func28, Try.ntmps28
    go_wp2_with fail
    refine (inverse_any H.out HPp.out).mono ?_
    rintro e w1 ⟨v1, rfl, hf, ho⟩
    rw [HB.out]
    rw [HI.out] at ho
    have hI := ho.ints
    obtain ⟨ao, cap, rfl, hal, _⟩ := hI.facts
    have HO := Lib.hid hI
    have HF := Lib.hid hf
    obtain ⟨n, hn⟩ : ∃ n, n = (invL p).length := ⟨_, rfl⟩
    rw [← hn]
    have HNl := Lib.hid hn
    clear hf ho hI hn hal
    go_wp2_with fail
    generalize hw2 : (w1.alloc (Obj.cells #[Value.slice ao n cap] 29)).alloc (Obj.cells #[Value.func (.func 42) #[] #[Value.pointer (some ⟨w1.heap.size, 0, none⟩)]] 70) = w2
    have hf2 : Fx No w1 w2 := by rw [← hw2]; exact ((Fx.refl No w1).alloc _).alloc _
    have c5 : w2.cell? ⟨w1.heap.size, 0, none⟩ = some (.slice ao (invL p).length cap) := by rw [← hw2, ← HNl.out]; simp
    have c7 : w2.cell? ⟨w1.heap.size + 1, 0, none⟩ = some (.func (.func 42) #[] #[.pointer (some ⟨w1.heap.size, 0, none⟩)]) := by rw [← hw2]; simp
    have HF2 := Lib.hid (HF.out.trans hf2)
    have HC := Lib.hid (containsBad_any (HO.out.no hf2) c5 c7 (H'.out.no HF2.out))
    clear hw2 hf2 c5 c7
    refine HC.out.mono ?_
    rintro e w3 ⟨rfl, hf⟩
    have HF3 := Lib.hid (HF2.out.transNo hf)
    clear hf
    go_wp2
    go_ret
    exact ⟨by rw [← HA.out]; rfl, HF3.out⟩
  · have HB : Hid (okB p = false) := (okB_false p).2 hok
    have HA : Hid (respB p ps = false) := by show respB p ps = false; unfold respB; rw [HB.out]; simp
    have HI : Hid (invR p = []) := if_neg hok
    clear hok
    go_enter Try.func28, Try.ntmps28
    go_wp2_with fail
    refine (inverse_any H.out HPp.out).mono ?_
    rintro e w1 ⟨v1, rfl, hf, ho⟩
    rw [HB.out]
    obtain ⟨ao, cap, rfl, _, _⟩ := ho.ints.facts
    have HF := Lib.hid hf
    clear hf ho
    go_wp2
    go_ret
    exact ⟨by rw [HA.out]; rfl, ((HF.out.alloc _).alloc _)⟩
#print axioms respects_any
end Go.Proofs.Ytddpdjbgidmdlaa
