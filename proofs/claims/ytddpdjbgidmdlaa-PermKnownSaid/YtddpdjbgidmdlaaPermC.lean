/- Contracts: perm.Right, Inverse. -/
import Derived.Test.YtddpdjbgidmdlaaPermB
namespace Go.Proofs.Ytddpdjbgidmdlaa
open Go.RowKit
set_option linter.unusedVariables false

theorem right_any {w : World} {D : Nat → Prop} {v : Value} {p : List Int} (h : IntsV w D v p) (n : Int) (hp : p.length ≤ 1000000) :
    Calls Try.prog 27 #[v, .int .i64 n] w fun e w' => e = .returned (.bool (rightB p n)) ∧ Fx No w w' := by
  obtain ⟨ao, cap, rfl, hl, hc⟩ := h.facts
  have HC := Lib.hid hc
  obtain ⟨len, hlen⟩ : ∃ k, k = p.length := ⟨_, rfl⟩
  rw [← hlen] at hl hp ⊢
  have HLen := Lib.hid hlen
  have HRS : Hid (rightB p (len : Int) = okB p) := by rw [hlen]; exact Lib.hid (rightB_self p)
  clear hc h hlen
  by_cases hln : (len : Int) = n
  · subst hln
    have hn0 : ((len : Int) != (len : Int)) = false := by simp
    have hmk := makeBools (E := (len : Int)) (k := len) (by omega) (by omega) (by omega)
    go_enter Try.func27, Try.ntmps27
    go_wp2
    go_loopw [16] (fun i wr => ∃ k : Nat, i = .int .i64 k ∧ k ≤ len ∧ Fx No w wr ∧ OwnB wr w.heap.size (.slice (some ⟨w.heap.size, 0, none⟩) len len) (seenL p len k) ∧ (∀ j, j < k → 0 ≤ gi p j ∧ gi p j < len) ∧ (∀ j, j < k → gi p j ∉ p.take j)) (fun i _ => len - (intOf i).toNat)
    case atStart => exact ⟨0, rfl, Nat.zero_le _, (Fx.refl No w).alloc _, by rw [seenL_zero]; exact ownB_made w _ _ hp (Nat.le_refl _), fun j hj => by omega, fun j hj => by omega⟩
    case round =>
      obtain ⟨k, rfl, hk, hf, ho, h1, h2⟩ := hrel
      have HF := Lib.hid hf
      have HO := Lib.hid ho
      have H1 := Lib.hid h1
      have H2 := Lib.hid h2
      clear hf ho h1 h2
      by_cases hlt : k < len
      · obtain ⟨b, o, rfl, _, hcell⟩ := HC.out k (by rw [← HLen.out]; exact hlt)
        have hcell' := HF.out.cell' hcell (fun h => h)
        clear hcell
        have hkp : Hid (k < p.length) := by rw [← HLen.out]; exact hlt
        by_cases hr : 0 ≤ gi p k ∧ gi p k < len
        · obtain ⟨hr0, hr1⟩ := hr
          obtain ⟨x, hx⟩ := Int.eq_ofNat_of_zero_le hr0
          have HX := Lib.hid hx
          rw [hx] at hcell'
          have hxl : x < len := by omega
          obtain ⟨sc, sz⟩ := HO.out.at (k := x) (by rw [seenL_length]; exact hxl)
          rw [seenL_gb hxl] at sc
          clear hr0 hr1 hx
          by_cases hs : (x : Int) ∈ p.take k
          · have hd : decide ((x : Int) ∈ p.take k) = true := by simpa using hs
            rw [hd] at sc
            have HB : Hid (rightB p (len : Int) = false) := by rw [HRS.out]; exact (okB_false p).2 (not_ok_twice hkp.out (by rw [HX.out]; exact hs))
            clear hd hs
            go_wp2
            go_ret
            exact ⟨by rw [HB.out]; rfl, HF.out⟩
          · have hd : decide ((x : Int) ∈ p.take k) = false := by simpa using hs
            rw [hd] at sc
            have HS := Lib.hid hs
            clear hd hs
            have HO1 : Hid (OwnB (wr.setCell ⟨w.heap.size, x, none⟩ (.bool true)) w.heap.size (.slice (some ⟨w.heap.size, 0, none⟩) len len) (seenL p len (k + 1))) := by
              have h9 := HO.out
              unfold OwnB at h9 ⊢
              rw [seenL_length] at h9 ⊢
              have := (h9.stored x (.bool true)).1
              rw [seenL_set hkp.out HX.out] at this
              exact this
            go_wp2
            go_roundw
            case rel => exact ⟨k + 1, by go_num, by omega, HF.out.setCell (.inl (by simp)) _, HO1.out, fun j hj => by
                by_cases e : j = k
                · subst e; rw [HX.out]; omega
                · exact H1.out j (by omega), fun j hj => by
                by_cases e : j = k
                · subst e; rw [HX.out]; exact HS.out
                · exact H2.out j (by omega)⟩
            case measure => simp [intOf]; omega
        · have HB : Hid (rightB p (len : Int) = false) := by rw [HRS.out]; exact (okB_false p).2 (not_ok_range hkp.out (by rw [← HLen.out]; exact hr))
          by_cases hr0 : gi p k < 0
          · clear hr
            go_wp2
            go_ret
            exact ⟨by rw [HB.out]; rfl, HF.out⟩
          · have hr1 : (len : Int) ≤ gi p k := by omega
            clear hr
            go_wp2
            go_ret
            exact ⟨by rw [HB.out]; rfl, HF.out⟩
      · obtain rfl : k = len := by omega
        have HB : Hid (rightB p (k : Int) = true) := by
          rw [HRS.out]; exact (okB_iff p).2 (ok_of_seen (fun j hj => by have := H1.out j (by rw [HLen.out]; exact hj); rw [← HLen.out]; exact this) (fun j hj => H2.out j (by rw [HLen.out]; exact hj)))
        go_wp2
        go_ret
        exact ⟨by rw [HB.out]; rfl, HF.out⟩
  · have hd : ((len : Int) != n) = true := by simpa using hln
    have HB : Hid (rightB p n = false) := by
      show rightB p n = false
      unfold rightB
      rw [decide_eq_false_iff_not]
      rintro ⟨h1, _⟩
      exact hln (by rw [HLen.out]; exact h1)
    clear hln
    go_enter Try.func27, Try.ntmps27
    go_wp2
    go_ret
    exact ⟨by rw [HB.out]; rfl, Fx.refl _ _⟩

/-- where each stands, behind k steps -/
def outL (p : List Int) (k : Nat) : List Int := (List.range p.length).map fun j : Nat => if (j : Int) ∈ p.take k then placeI p (j : Int) else 0
theorem outL_length (p : List Int) (k : Nat) : (outL p k).length = p.length := by simp [outL]
theorem outL_zero (p : List Int) : outL p 0 = List.replicate p.length 0 := by
  apply List.ext_getElem
  · simp [outL]
  · intro i h1 h2; simp [outL]
theorem outL_all {p : List Int} (h : okP p) : outL p p.length = invL p := by
  unfold outL invL
  rw [List.take_length]
  apply List.map_congr_left
  intro j hj
  have hj' : j < p.length := List.mem_range.1 hj
  have : (j : Int) ∈ p := by
    have := h j hj'
    exact List.count_pos_iff.1 (by omega)
  rw [if_pos this]
theorem placeI_self {p : List Int} {k : Nat} (h : okP p) (hk : k < p.length) : placeI p (gi p k) = k := by
  refine placeI_hit hk rfl fun j hj e => ?_
  have hn := ((good_iff p).2 h).2
  have h1 : j < p.length := by omega
  have := (List.getElem_inj (xs := p) (i := j) (j := k) (h₀ := h1) (h₁ := hk) hn).1 (by simpa [gi, h1, hk] using e)
  omega
theorem outL_set {p : List Int} {k x : Nat} (h : okP p) (hk : k < p.length) (hx : gi p k = (x : Int)) : (ints (outL p k)).set x (.int .i64 (k : Int)) = ints (outL p (k + 1)) := by
  have hpl := placeI_self h hk
  rw [hx] at hpl
  apply List.ext_getElem
  · simp [ints, outL]
  · intro j h1 h2
    rw [List.getElem_set]
    simp only [ints, outL, List.getElem_map, List.getElem_range, take_gi hk, List.mem_append, List.mem_singleton, hx]
    by_cases e : x = j
    · subst e; simp [hpl]
    · have : ¬ (j : Int) = (x : Int) := by omega
      simp [e, this]
theorem inverse_any {w : World} {D : Nat → Prop} {v : Value} {p : List Int} (h : IntsV w D v p) (hp : p.length ≤ 1000000) :
    Calls Try.prog 23 #[v] w (InvR w p) := by
  obtain ⟨ao, cap, rfl, hl, hc⟩ := h.facts
  have H := Lib.hid h
  have HC := Lib.hid hc
  obtain ⟨len, hlen⟩ : ∃ k, k = p.length := ⟨_, rfl⟩
  have HP := Lib.hid hp
  rw [← hlen] at hl hp ⊢
  have HLen := Lib.hid hlen
  have H : Hid (IntsV w D (.slice ao len cap) p) := by rw [hlen]; exact H
  have HRS : Hid (rightB p (len : Int) = okB p) := by rw [hlen]; exact Lib.hid (rightB_self p)
  clear hc h hlen
  by_cases hok : okP p
  · have HB : Hid (okB p = true) := (okB_iff p).2 hok
    have HI : Hid (invR p = invL p) := if_pos hok
    have HOk := Lib.hid hok
    have hmk := makeInts (E := (len : Int)) (k := len) (by omega) (by omega) (by omega)
    clear hok
    go_enter Try.func23, Try.ntmps23
    go_wp2_with fail
    refine (right_any H.out _ HP.out).mono ?_
    rintro e w1 ⟨rfl, hf⟩
    rw [HRS.out, HB.out]
    have HF1 := Lib.hid hf
    have hz1 := hf.size
    clear hf
    go_wp2
    go_loopw [17] (fun i wr => ∃ k : Nat, i = .int .i64 k ∧ k ≤ len ∧ Fx No w wr ∧ OwnI wr w1.heap.size (.slice (some ⟨w1.heap.size, 0, none⟩) len len) (outL p k)) (fun i _ => len - (intOf i).toNat)
    case atStart => exact ⟨0, rfl, Nat.zero_le _, HF1.out.alloc _, by rw [outL_zero, ← HLen.out]; exact ownI_made w1 _ _ hp (Nat.le_refl _)⟩
    case round =>
      obtain ⟨k, rfl, hk, hf, ho⟩ := hrel
      have HF := Lib.hid hf
      have HO := Lib.hid ho
      clear hf ho
      by_cases hlt : k < len
      · obtain ⟨b, o, rfl, _, hcell⟩ := HC.out k (by rw [← HLen.out]; exact hlt)
        have hcell' := HF.out.cell' hcell (fun h => h)
        clear hcell
        have hkp : Hid (k < p.length) := by rw [← HLen.out]; exact hlt
        obtain ⟨hr0, hr1⟩ := ((good_iff p).2 HOk.out).1 _ (gi_mem hkp.out)
        obtain ⟨x, hx⟩ := Int.eq_ofNat_of_zero_le hr0
        have HX := Lib.hid hx
        rw [hx] at hcell' hr1
        rw [← HLen.out] at hr1
        have hxl : x < len := by omega
        have h9 := HO.out
        unfold OwnI at h9
        rw [outL_length, ← HLen.out] at h9
        have sc := h9.cellAt x (by omega)
        have sz := h9.frozenAt x
        obtain ⟨u, hu⟩ : ∃ u, (ints (outL p k))[x]? = some u := ⟨_, List.getElem?_eq_getElem (by simp only [ints, List.length_map, outL_length]; rw [← HLen.out]; exact hxl)⟩
        rw [hu] at sc
        have HO1 : Hid (OwnI (wr.setCell ⟨w1.heap.size, x, none⟩ (.int .i64 (k : Int))) w1.heap.size (.slice (some ⟨w1.heap.size, 0, none⟩) len len) (outL p (k + 1))) := by
          show OwnI _ _ _ _
          unfold OwnI
          rw [outL_length, ← HLen.out]
          have := (h9.stored x (.int .i64 (k : Int))).1
          rw [outL_set HOk.out hkp.out HX.out] at this
          exact this
        clear h9 hr0 hr1 hx hu
        go_wp2
        go_roundw
        case rel => exact ⟨k + 1, by go_num, by omega, HF.out.setCell (.inl (by simp; omega)) _, HO1.out⟩
        case measure => simp [intOf]; omega
      · obtain rfl : k = len := by omega
        have ht : outL p k = invL p := by rw [HLen.out]; exact outL_all HOk.out
        go_wp2
        go_ret2
        exact ⟨_, by rw [HB.out]; rfl, HF.out, by rw [HI.out, ← ht]; exact ownsRow_base HO.out hz1⟩
  · have HB : Hid (okB p = false) := (okB_false p).2 hok
    have HI : Hid (invR p = []) := if_neg hok
    clear hok
    go_enter Try.func23, Try.ntmps23
    go_wp2_with fail
    refine (right_any H.out _ HP.out).mono ?_
    rintro e w1 ⟨rfl, hf⟩
    rw [HRS.out, HB.out]
    have HF1 := Lib.hid hf
    clear hf
    go_wp2
    go_ret2
    exact ⟨_, by rw [HB.out]; rfl, HF1.out, by rw [HI.out]; exact OwnI.nil _ _⟩
#print axioms right_any
#print axioms inverse_any
end Go.Proofs.Ytddpdjbgidmdlaa
