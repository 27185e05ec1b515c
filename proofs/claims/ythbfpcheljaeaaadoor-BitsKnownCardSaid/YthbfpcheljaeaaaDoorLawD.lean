/- The law's is: a set is the reference's. -/
import Derived.Test.YthbfpcheljaeaaaDoorLawC
import Derived.Deep.RegionHeld3
namespace Go.Proofs.YthbfpcheljaeaaaDoor
open Go.RowKit
set_option linter.unusedVariables false

def KeepI (w : World) (w' : World) : Prop := Fx No w w'
/-- a row of so many cells, that may be written -/
def Room (w : World) (b len : Nat) : Prop := ∃ cs t, w.heap[b]? = some (.cells cs t (0, 0)) ∧ len ≤ cs.size
theorem Room.cell {w : World} {b len k : Nat} (h : Room w b len) (hk : k < len) : ∃ x, w.cell? ⟨b, k, none⟩ = some x ∧ w.frozen? ⟨b, k, none⟩ = false := by
  obtain ⟨cs, t, h1, h2⟩ := h
  have : k < cs.size := by omega
  exact ⟨cs[k], by simp [World.cell?, h1, this], by simp [World.frozen?, h1]⟩
theorem Room.set {w : World} {b len j : Nat} {v : Value} (h : Room w b len) : Room (w.setCell ⟨b, j, none⟩ v) b len := by
  obtain ⟨cs, t, h1, h2⟩ := h
  exact ⟨cs.setIfInBounds j v, t, by simp [World.setCell, Array.getElem?_modify, h1], by simpa using h2⟩
theorem Room.no {w w1 : World} {b len : Nat} (h : Room w b len) (hf : Fx No w w1) : Room w1 b len := by
  obtain ⟨cs, t, h1, h2⟩ := h
  exact ⟨cs, t, hf.at_ h1 (fun h => h), h2⟩
theorem Room.ofOwn {w : World} {base : Nat} {u : Value} {l : List Int} (h : OwnI w base u l) (hl : 0 < l.length) : ∃ b cap, u = .slice (some ⟨b, 0, none⟩) l.length cap ∧ base ≤ b ∧ Room w b l.length := by
  have h' : w.ownsRow base 3 1 u l.length (ints l) := h
  rcases h'.2 with ⟨_, h0⟩ | ⟨g, cap, cur, hv, hb, hg, h3, h4, h5, h6⟩
  · omega
  · refine ⟨g, cap, hv, hb, cur, _, hg, ?_⟩
    omega
theorem nextN_bound (n X : Nat) (i : Int) : 0 ≤ nextN n X i ∧ nextN n X i ≤ n := by
  unfold nextN
  cases h : nextX n X i with
  | none => simp; 
  | some k =>
    unfold nextX at h
    have := List.mem_of_find?_eq_some h
    simp at this
    simp; omega

set_option maxRecDepth 100000 in
set_option maxHeartbeats 4000000 in
theorem is_any {w : World} {D E : Nat → Prop} {p : Option Addr} {rv : Value} {n X : Nat} (h : SetP w D p n X) (hr : IsR w E rv n X) (hT : TabOk w) :
    Calls Tryd.prog 29 #[.pointer p, .agg #[rv]] w fun e w' => e = .returned (.bool true) ∧ Fx No w w' := by
  have hn := hr.1
  obtain ⟨ro, rcap, rfl, _⟩ := hr.facts
  have H := Lib.hid h
  have HR := Lib.hid hr
  have HT := Lib.hid hT
  have hcl := cntX_le n X
  clear h hr hT
  go_enter Tryd.func29, Tryd.ntmps29
  go_wp2_with fail
  obtain ⟨w0, hw0⟩ : ∃ w0, w0 = w.alloc (.cells #[.slice ro n rcap] 28) := ⟨_, rfl⟩
  rw [← hw0]
  have hf0 : Fx No w w0 := by rw [hw0]; exact (Fx.refl No w).alloc _
  have hc0 : w0.cell? ⟨w.heap.size, 0, none⟩ = some (.slice ro n rcap) := by rw [hw0]; simp
  refine (refAll_any (HR.out.no hf0)).mono ?_
  rintro e w1 ⟨u, rfl, hf, ho⟩
  have hU := ho.ints
  obtain ⟨uo, ucap, rfl, hul, _⟩ := hU.facts
  have hc1 := hf.cell' hc0 (fun h => h)
  have hf1 : Fx No w w1 := hf0.transNo hf
  have HF1 := Lib.hid hf1
  have H1 := Lib.hid (H.out.no' hf1)
  have HR1 := Lib.hid (HR.out.no hf1)
  have HT1 := Lib.hid (HT.out.no hf1)
  obtain ⟨g, hg⟩ : ∃ g, g = w.heap.size := ⟨_, rfl⟩
  obtain ⟨len, hlen⟩ : ∃ len, len = (allX n X).length := ⟨_, rfl⟩
  have hlc : cntX n X = len := by rw [hlen]; rfl
  rw [← hg] at hc1
  rw [← hg, ← hlen]
  rw [← hlen] at hU
  have HU := Lib.hid hU
  have HLen := Lib.hid hlen
  have HLc := Lib.hid hlc
  have hlb : len ≤ 65536 := by omega
  rw [← hlen] at hul
  clear hf ho hU hf0 hc0 hw0 hf1 hg hlen hlc hcl H HR HT
  go_wp2
  go_loopw [6] (fun t wr => ∃ k : Nat, t = .int .i64 k ∧ k ≤ 2 ∧ Fx No w1 wr) (fun t _ => 2 - (intOf t).toNat)
  case atStart => exact ⟨0, rfl, by omega, Fx.refl _ _⟩
  case round =>
    obtain ⟨t, rfl, ht, hf⟩ := hrel
    have HF := Lib.hid hf
    clear hf
    by_cases hlt : t < 2
    · go_wp2_with fail
      refine (all_any (H1.out.no' HF.out) (HT1.out.no HF.out)).mono ?_
      rintro e w2 ⟨v, rfl, hf, ho⟩
      have HO := Lib.hid ho
      have HF2 := Lib.hid (HF.out.transNo hf)
      have hz := hf.size
      clear hf ho
      go_wp2_with fail
      refine (sameInts_any HO.out.ints (HU.out.keep HF2.out No.disj)).mono ?_
      rintro e w3 ⟨rfl, hf⟩
      rw [beq_self_eq_true]
      have HF3 := Lib.hid (HF2.out.transNo hf)
      have hz3 := hf.size
      by_cases h0 : 0 < len
      · obtain ⟨b, cap, rfl, hb, hroom⟩ := Room.ofOwn HO.out (by rw [← HLen.out]; exact h0)
        have HRm := Lib.hid (hroom.no hf)
        have hll := HLen.out
        rw [← hll]
        try rw [← hll] at hz
        try rw [← hll] at hz3
        have HRm : Hid (Room w3 b len) := by have := HRm.out; rwa [← hll] at this
        clear hll
        have hzz := HF.out.size
        clear hf hroom HO
        obtain ⟨wo, rfl⟩ : ∃ wo : World, wo = w3 := ⟨_, rfl⟩
        go_wp2
        go_loopw [8] (fun i wq => ∃ j : Nat, i = .int .i64 j ∧ j ≤ len ∧ Fx No w1 wq ∧ Room wq b len) (fun i _ => len - (intOf i).toNat)
        case atStart => exact ⟨0, rfl, Nat.zero_le _, HF3.out, HRm.out⟩
        case round =>
          obtain ⟨j, rfl, hj, hfq, hrq⟩ := hrel
          have HFq := Lib.hid hfq
          have HRq := Lib.hid hrq
          clear hfq hrq
          by_cases hjl : j < len
          · obtain ⟨x, hx1, hx2⟩ := HRq.out.cell hjl
            go_wp2
            go_roundw
            case rel => exact ⟨j + 1, by go_num, by omega, HFq.out.setCell (.inl (by simp; omega)) _, HRq.out.set⟩
            case measure => simp [intOf]; omega
          · obtain rfl : j = len := by omega
            go_wp2
            go_roundw
            case rel => exact ⟨t + 1, by go_num, by omega, HFq.out⟩
            case measure => simp [intOf]; omega
      · obtain ⟨vo, vcap, rfl, _, _⟩ := HO.out.ints.facts
        rw [← HLen.out]
        obtain rfl : len = 0 := by omega
        clear hf HO
        go_wp2
        go_loopw [8] (fun i wq => i = .int .i64 0 ∧ Fx No w1 wq) (fun _ _ => 0)
        case atStart => exact ⟨rfl, HF3.out⟩
        case round =>
          obtain ⟨rfl, hfq⟩ := hrel
          have HFq := Lib.hid hfq
          clear hfq
          go_wp2
          go_roundw
          case rel => exact ⟨t + 1, by go_num, by omega, HFq.out⟩
          case measure => simp [intOf]; omega
    · obtain rfl : t = 2 := by omega
      have hcw := HF.out.cell' hc1 (fun h => h)
      have C1 : Hid (∀ w', KeepI w1 w' → Calls Tryd.prog 18 #[.pointer p] w' fun e w'' => e = .returned (.int .i64 (n : Int)) ∧ Fx No w' w'') := fun w' h =>
        (size_any (H1.out.no' h)).mono (by rintro e w'' ⟨rfl, rfl⟩; exact ⟨rfl, Fx.refl _ _⟩)
      have C2 : Hid (∀ w', KeepI w1 w' → Calls Tryd.prog 17 #[.pointer p] w' fun e w'' => e = .returned (.int .i64 (len : Int)) ∧ Fx No w' w'') := fun w' h =>
        (len_any (H1.out.no' h)).mono (by rintro e w'' ⟨rfl, rfl⟩; exact ⟨by rw [HLc.out], Fx.refl _ _⟩)
      go_wp2
      have hkr : KeepI w1 wr := HF.out
      go_region_held3 (fun w' => w'.cell? ⟨g, 0, none⟩ = some (.slice ro n rcap) ∧ KeepI w1 w')
        (first
          | exact ⟨hcw, Fx.drew hkr⟩
          | (go_split_ands; exact ⟨hf.cell' (by assumption) (fun h => h), Fx.transNo (by assumption) hf⟩))
        (first
          | (go_at_call 18; go_split_ands; with_reducible refine (C1.out _ (by assumption)).mono ?_; rintro e w' ⟨rfl, hf⟩)
          | (go_at_call 17; go_split_ands; with_reducible refine (C2.out _ (by assumption)).mono ?_; rintro e w' ⟨rfl, hf⟩))
      go_split_ands
      have HKw : Hid (KeepI w1 w') := by assumption
      have HCw : Hid (w'.cell? ⟨g, 0, none⟩ = some (.slice ro n rcap)) := by assumption
      have hG : g < w1.heap.size := World.block_lt_of_cell? w1 _ hc1
      try clear C1
      try clear C2
      try clear HF
      try clear HU
      go_wp2
      go_loopw [9, 10] (fun a i ws => ∃ (A : Int) (k : Nat), a = .int .i64 A ∧ i = .int .i64 k ∧ -3 ≤ A ∧ A ≤ 65537 ∧ k ≤ len + 1 ∧ Fx No w1 ws) (fun _ i _ => len + 1 - (intOf i).toNat)
      case atStart => exact ⟨-3, 0, rfl, rfl, by omega, by omega, by omega, HKw.out⟩
      case round =>
        obtain ⟨A, k, rfl, rfl, hA1, hA2, hk, hf⟩ := hrel
        have HFl := Lib.hid hf
        clear hf
        by_cases hkl : k ≤ len
        · go_wp2_with fail
          refine (next_any (H1.out.no' HFl.out) (HT1.out.no HFl.out) A (by omega)).mono ?_
          rintro e w5 ⟨rfl, hf⟩
          have HF5 := Lib.hid (HFl.out.transNo hf)
          have nb := nextN_bound n X A
          obtain ⟨N, hN⟩ : ∃ N, N = nextN n X A := ⟨_, rfl⟩
          obtain ⟨B, hB⟩ : ∃ B, B = nextB n X A := ⟨_, rfl⟩
          have HN := Lib.hid hN
          have HB := Lib.hid hB
          rw [← hN, ← hB]
          rw [← hN] at nb
          have hc5 := HF5.out.cell' hc1 (fun h => h)
          clear hf hN hB
          go_wp2_with fail
          refine (refNext_any (HR1.out.no HF5.out) A (by omega)).mono ?_
          rintro e w6 ⟨rfl, hf⟩
          rw [← HN.out, ← HB.out]
          have HF6 := Lib.hid (HF5.out.transNo hf)
          have hc6 := HF6.out.cell' hc1 (fun h => h)
          clear hf hc5
          have C3 : Hid (∀ w' (i : Int), KeepI w1 w' → Calls Tryd.prog 19 #[.pointer p, .int .i64 i] w' fun e w'' => e = .returned (.bool (hasB X i)) ∧ Fx No w' w'') := fun w' i h =>
            (has_any (H1.out.no' h) i).mono (by rintro e w'' ⟨rfl, rfl⟩; exact ⟨rfl, Fx.refl _ _⟩)
          have C4 : Hid (∀ w' (i : Int), KeepI w1 w' → Calls Tryd.prog 34 #[.agg #[.slice ro n rcap], .int .i64 i] w' fun e w'' => e = .returned (.bool (hasB X i)) ∧ Fx No w' w'') := fun w' i h =>
            refHas_any (HR1.out.no h) i
          have hk6 : KeepI w1 w6 := HF6.out
          go_wp2_with fail
          go_region_held3 (fun w' => w'.cell? ⟨g, 0, none⟩ = some (.slice ro n rcap) ∧ KeepI w1 w')
            (first
              | exact ⟨hc6, Fx.drew hk6⟩
              | (go_split_ands; exact ⟨hf.cell' (by assumption) (fun h => h), Fx.transNo (by assumption) hf⟩))
            (first
              | (go_at_call 19; go_split_ands; with_reducible refine (C3.out _ _ (by assumption)).mono ?_; rintro e w' ⟨rfl, hf⟩)
              | (go_at_call 34; go_split_ands; with_reducible refine (C4.out _ _ (by assumption)).mono ?_; rintro e w' ⟨rfl, hf⟩))
          all_goals
            go_split_ands
            have HK7 : Hid (KeepI w1 w') := by assumption
            go_wp2
            go_roundw
            case rel => exact ⟨N + 1, k + 1, by go_num, by go_num, by omega, by omega, by omega, HK7.out⟩
            case measure => simp [intOf]; omega
        · go_wp2
          go_ret
          exact ⟨rfl, (HF1.out.transNo HFl.out)⟩
#print axioms is_any
end Go.Proofs.YthbfpcheljaeaaaDoor
