/- The document's Walk, Closed, Of, Simple, Nodes; the code's Nodes. | The nodes of a walk: the document's and the code's. | The library's sort of ints, laid at this seat's numbers (those of the seat of CycleKnown; written by the kit's lay-plain). | A walk's nodes, sorted and freed of what comes twice: plain; the library's sort of ints; Simple. -/
import Derived.Test.YtgacknphjeiojaaGreatM10
import Derived.Test.YtgacknphjeiojaaGreatM11
import Derived.Shelf.Sort.Plain
import Derived.Test.YtgacknphjeiojaaGreatProg
import Derived.Sort.OwnSortedInts

namespace Go.Proofs.YtgacknphjeiojaaGreat
open Go.RowKit
set_option linter.unusedVariables false

/-- no node twice -/
def apartB (l : List Ed) : Bool := (List.range l.length).all fun i => (List.range i).all fun k => !((gt l i).f == (gt l k).f)
theorem apart_iff {l : List Ed} : apartB l = true ↔ ∀ i k, k < i → i < l.length → (gt l i).f ≠ (gt l k).f := by
  unfold apartB
  rw [List.all_eq_true]
  constructor
  · intro h i k hk hi
    have h1 := List.all_eq_true.1 (h i (List.mem_range.2 hi)) k (List.mem_range.2 hk)
    simpa using h1
  · intro h i hi
    rw [List.all_eq_true]
    intro k hk
    have := h i k (List.mem_range.1 hk) (List.mem_range.1 hi)
    simpa using this
theorem apart_no {l : List Ed} {i k : Nat} (hk : k < i) (hi : i < l.length) (he : (gt l i).f = (gt l k).f) : apartB l = false := by
  cases h : apartB l with
  | false => rfl
  | true => exact absurd he (apart_iff.1 h i k hk hi)
/-- the nodes of a walk -/
def nodesL (l : List Ed) : List Int := if chainB l = true then (if 0 < l.length ∧ roundB l = false then l.map (·.f) ++ [(gt l (l.length - 1)).t] else l.map (·.f)) else []
theorem nodes_len (l : List Ed) : (nodesL l).length ≤ l.length + 1 := by
  unfold nodesL
  split
  · split <;> simp
  · simp
section
variable {w w' : World} {D S T E : Nat → Prop} {b N : Nat} {L l : List Ed} {v rv : Value}
set_option maxRecDepth 100000 in
set_option maxHeartbeats 1000000 in
theorem refWalkQ (h : EdsV w D v l) : Calls Tryz.prog 15 #[v] w fun e w' => e = .returned (.bool (chainB l)) ∧ ∃ m, w' = w.drewN m := by
  obtain ⟨ao, cap, rfl, hcl, hcm, hc⟩ := EdsV.facts h
  have HC := Lib.hid hc
  clear h hc
  go_enter Tryz.func15, Tryz.ntmps15
  go_wp2
  go_loopw [3] (fun i ws => ∃ k : Nat, i = .int .i64 k ∧ 0 < k ∧ (k ≤ l.length ∨ k = 1) ∧ (∃ m, ws = w.drewN m) ∧ Hid (∀ j, 0 < j → j < k → j < l.length → (gt l (j - 1)).t = (gt l j).f)) (fun i _ => l.length - (intOf i).toNat)
  case atStart => exact ⟨1, rfl, by omega, .inr rfl, ⟨0, rfl⟩, Lib.hid fun j h1 h2 => by omega⟩
  case round =>
    obtain ⟨k, rfl, hk0, hk, ⟨m, rfl⟩, HK⟩ := hrel
    by_cases hlt : k < l.length
    · obtain ⟨b1, o1, e1, _, p0, p1, p2⟩ := HC.out (k - 1) (by omega)
      obtain ⟨b2, o2, e2, _, q0, q1, q2⟩ := HC.out k hlt
      subst e1
      obtain ⟨rfl, rfl⟩ : b1 = b2 ∧ o1 = o2 := by simpa using e2
      obtain ⟨k, rfl⟩ : ∃ j, k = j + 1 := ⟨k - 1, by omega⟩
      rw [Nat.add_sub_cancel] at p0 p1 p2
      have hz0 : (0 : Int) ≤ ((k + 1 : Nat) : Int) := by omega
      have hz1 : ((k + 1 : Nat) : Int) < (l.length : Int) := by omega
      have hW : IntKind.i64.wrap (((k + 1 : Nat) : Int) - 1) = (k : Int) := by rw [IntKind.wrap_i64]; omega
      have hW' : IntKind.i64.wrap ((k : Int) + 1 - 1) = (k : Int) := by rw [IntKind.wrap_i64]; omega
      have hz2 : (0 : Int) ≤ (k : Int) := by omega
      have hz3 : (k : Int) < (l.length : Int) := by omega
      have hz4 : (k : Int) + 1 < (l.length : Int) := by omega
      have hz5 : (0 : Int) ≤ (k : Int) + 1 := by omega
      clear p0 p2 q1 q2 e2
      by_cases he : (gt l k).t = (gt l (k + 1)).f
      · have hd : ((gt l (k + 1)).f != (gt l k).t) = false := by simp [he]
        have HE := Lib.hid he
        clear he
        go_wp2
        go_quiet (fail)
        go_wp2
        go_roundw
        case rel => exact ⟨k + 2, by go_num, by omega, .inl (by omega), ⟨_, rfl⟩, Lib.hid fun j h1 h2 h3 => by
          by_cases e : j = k + 1
          · subst e; exact HE.out
          · exact HK.out j h1 (by omega) h3⟩
        case measure => simp [intOf]; omega
      · have hd : ((gt l (k + 1)).f != (gt l k).t) = true := by simpa using fun q => he q.symm
        have HB : Hid (chainB l = false) := Lib.hid (chain_no (i := k + 1) (by omega) hlt he)
        clear he
        go_wp2
        go_quiet (fail)
        go_wp2
        go_ret
        exact ⟨by rw [HB.out]; rfl, ⟨_, World.drewN_drewN _ _ _⟩⟩
    · have hlt' : ¬ ((k : Int) < (l.length : Int)) := by omega
      have HB : Hid (chainB l = true) := Lib.hid (chain_iff.2 fun j h1 h2 => HK.out j h1 (by omega) h2)
      go_wp2
      go_ret
      exact ⟨by rw [HB.out]; rfl, ⟨_, rfl⟩⟩
set_option maxRecDepth 100000 in
set_option maxHeartbeats 1000000 in
theorem refClosedQ (h : EdsV w D v l) : Calls Tryz.prog 18 #[v] w fun e w' => e = .returned (.bool (roundB l)) ∧ ∃ m, w' = w.drewN m := by
  have CC : Hid (∀ n, Calls Tryz.prog 15 #[v] (w.drewN n) fun e w' => e = .returned (.bool (chainB l)) ∧ ∃ m, w' = (w.drewN n).drewN m) := Lib.hid fun n => refWalkQ (RowV.no h (drewN_fx w n))
  obtain ⟨ao, cap, rfl, hcl, hcm, hc⟩ := EdsV.facts h
  have HC := Lib.hid hc
  clear h hc
  by_cases h0 : 0 < l.length
  · have d0 : decide ((0 : Int) < (l.length : Int)) = true := decide_eq_true (by omega)
    have d0' : decide (0 < l.length) = true := decide_eq_true h0
    obtain ⟨b1, o1, e1, _, p0, p1, p2⟩ := HC.out (l.length - 1) (by omega)
    obtain ⟨b2, o2, e2, _, q0, q1, q2⟩ := HC.out 0 h0
    subst e1
    obtain ⟨rfl, rfl⟩ : b1 = b2 ∧ o1 = o2 := by simpa using e2
    cases hch : chainB l with
    | false =>
      have HB : Hid (roundB l = false) := Lib.hid (by unfold roundB; rw [hch]; simp)
      rw [hch] at CC
      rw [HB.out]
      clear p0 p1 p2 q0 q1 q2 e2 hch HB
      go_enter Tryz.func18, Tryz.ntmps18
      go_wp2
      go_quiet (first | (go_at_call 15; refine Calls.quiet_of (CC.out _)))
      go_wp2
      go_ret
      exact ⟨rfl, _, rfl⟩
    | true =>
      obtain ⟨t, ht⟩ : ∃ t, t = ((gt l (l.length - 1)).t == (gt l 0).f) := ⟨_, rfl⟩
      have HB : Hid (roundB l = t) := Lib.hid (by unfold roundB; rw [hch, decide_eq_true h0, ht]; simp)
      rw [hch] at CC
      rw [HB.out]
      obtain ⟨x1, hx1⟩ : ∃ x, x = (gt l (l.length - 1)).t := ⟨_, rfl⟩
      obtain ⟨x2, hx2⟩ : ∃ x, x = (gt l 0).f := ⟨_, rfl⟩
      rw [← hx1] at p1 ht
      rw [← hx2] at q0 ht
      obtain ⟨k, hk⟩ : ∃ k, l.length = k + 1 := ⟨l.length - 1, by omega⟩
      rw [hk, Nat.add_sub_cancel] at p1
      rw [Nat.zero_mul, Nat.add_zero] at q0
      have hW : IntKind.i64.wrap (((k + 1 : Nat) : Int) - 1) = (k : Int) := by rw [IntKind.wrap_i64]; omega
      have hW' : IntKind.i64.wrap ((k : Int) + 1 - 1) = (k : Int) := by rw [IntKind.wrap_i64]; omega
      have hz2 : (0 : Int) ≤ (k : Int) := by omega
      have hz3 : (k : Int) < (k : Int) + 1 := by omega
      have hW3 : IntKind.i64.wrap (k : Int) = (k : Int) := by rw [IntKind.wrap_i64]; omega
      rw [hk] at d0 d0' CC HC ⊢
      have ht' : (x1 == x2) = t := ht.symm
      clear p0 p2 q1 q2 e2 hch HB hx1 hx2 hk ht
      go_enter Tryz.func18, Tryz.ntmps18
      go_wp2
      go_quiet (first | (go_at_call 15; refine Calls.quiet_of (CC.out _)))
      go_wp2
      go_ret
      exact ⟨rfl, _, rfl⟩
  · have d0 : decide ((0 : Int) < (l.length : Int)) = false := decide_eq_false (by omega)
    have d0' : decide (0 < l.length) = false := decide_eq_false h0
    have HB : Hid (roundB l = false) := Lib.hid (by unfold roundB; rw [d0']; simp)
    rw [HB.out]
    go_enter Tryz.func18, Tryz.ntmps18
    go_wp2
    go_quiet (fail)
    go_wp2
    go_ret
    exact ⟨rfl, _, rfl⟩
theorem refWalkE_any (h : EdsV w D v l) : Calls Tryz.prog 15 #[v] w fun e w' => e = .returned (.bool (chainB l)) ∧ Fx No w w' :=
  (refWalkQ h).mono fun _ _ ⟨h1, m, h2⟩ => ⟨h1, by rw [h2]; exact drewN_fx w m⟩
theorem refClosed_any (h : EdsV w D v l) : Calls Tryz.prog 18 #[v] w fun e w' => e = .returned (.bool (roundB l)) ∧ Fx No w w' :=
  (refClosedQ h).mono fun _ _ ⟨h1, m, h2⟩ => ⟨h1, by rw [h2]; exact drewN_fx w m⟩
set_option maxRecDepth 100000 in
set_option maxHeartbeats 2000000 in
theorem refOf_any (h : EdsV w D rv L) (h' : EdsV w E v l) (hl : l.length ≤ 1000000) : Calls Tryz.prog 16 #[.agg #[.int .i64 (N : Nat), rv], v] w fun e w' => e = .returned (.bool (l.all fun x => decide (x ∈ L))) ∧ Fx No w w' := by
  have H := Lib.hid h
  obtain ⟨ro, rc, rfl, _⟩ := EdsV.facts h
  obtain ⟨ao, cap, rfl, hcl, hcm, hc⟩ := EdsV.facts h'
  have HC := Lib.hid hc
  clear h h' hc
  go_enter Tryz.func16, Tryz.ntmps16
  go_wp2_with fail
  refine wp_hold (fun W => Fx No w W ∧ W.cell? ⟨w.heap.size, 0, none⟩ = some (.int .i64 (N : Nat)) ∧ W.cell? ⟨w.heap.size, 1, none⟩ = some (.slice ro L.length rc)) ⟨(Fx.refl No _).alloc _, by go_simp, by go_simp⟩ ?_
  rintro w1 ⟨hF1, c0, c1⟩
  obtain ⟨cb, hcb⟩ : ∃ q, q = w.heap.size := ⟨_, rfl⟩
  rw [← hcb] at c0 c1 ⊢
  have HF1 := Lib.hid hF1
  have HC0 := Lib.hid c0
  have HC1 := Lib.hid c1
  clear hF1 c0 c1 hcb
  go_loopw [5] (fun i ws => ∃ k : Nat, i = .int .i64 k ∧ k ≤ l.length ∧ Fx No w1 ws ∧ Hid ((l.take k).all (fun x => decide (x ∈ L)) = true)) (fun i _ => l.length - (intOf i).toNat)
  case atStart => exact ⟨0, rfl, Nat.zero_le _, Fx.refl _ _, Lib.hid rfl⟩
  case round =>
    obtain ⟨k, rfl, hk, hf, HK⟩ := hrel
    obtain ⟨wo, hwo⟩ : ∃ x, x = wr := ⟨_, rfl⟩
    subst hwo
    have HF := Lib.hid hf
    clear hf
    by_cases hlt : k < l.length
    · obtain ⟨bb, oo, rfl, _, p0, p1, p2⟩ := HC.out k hlt
      have HTk := Lib.hid (take_gt hlt)
      have HMem := Lib.hid (gt_mem hlt)
      obtain ⟨x, hx⟩ : ∃ x, x = gt l k := ⟨_, rfl⟩
      rw [← hx] at p0 p1 p2 HTk HMem
      have HP := Lib.hid (And.intro p0 (And.intro p1 p2))
      have hk0 : (0 : Int) ≤ (k : Int) := by omega
      have hk1 : (k : Int) < (l.length : Int) := by omega
      obtain ⟨tv, htv⟩ : ∃ y, y = decide (x ∈ L) := ⟨_, rfl⟩
      have CH : Hid (∀ W, Fx No wo W → Calls Tryz.prog 45 #[.agg #[.int .i64 (N : Nat), .slice ro L.length rc], .agg #[.int .i64 x.f, .int .i64 x.t, .int .i64 x.l]] W fun e w' => e = .returned (.bool tv) ∧ Fx No W w') := Lib.hid fun W hW => by
        rw [htv]
        exact refHas_any (RowV.no H.out (HF1.out.trans (HF.out.trans hW))) (N : Int) x
      have q0 : ∀ W, Fx No wo W → W.cell? ⟨cb, 0, none⟩ = some (.int .i64 (N : Nat)) := fun W h => (HF.out.trans h).cell' HC0.out (fun q => q)
      have q1 : ∀ W, Fx No wo W → W.cell? ⟨cb, 1, none⟩ = some (.slice ro L.length rc) := fun W h => (HF.out.trans h).cell' HC1.out (fun q => q)
      have g0 : ∀ W, Fx No wo W → W.cell? ⟨bb, oo + k * 3, none⟩ = some (.int .i64 x.f) := fun W h => (HF1.out.trans (HF.out.trans h)).cell' HP.out.1 (fun q => q)
      have g1 : ∀ W, Fx No wo W → W.cell? ⟨bb, oo + k * 3 + 1, none⟩ = some (.int .i64 x.t) := fun W h => (HF1.out.trans (HF.out.trans h)).cell' HP.out.2.1 (fun q => q)
      have g2 : ∀ W, Fx No wo W → W.cell? ⟨bb, oo + k * 3 + 2, none⟩ = some (.int .i64 x.l) := fun W h => (HF1.out.trans (HF.out.trans h)).cell' HP.out.2.2 (fun q => q)
      have HT := Lib.hid htv
      clear p0 p1 p2 hx htv
      go_wp2
      refine wp_region_H (fun W => Fx No wo W) (by kernel_rfl) ((Fx.refl _ _).drew) ?_
      intro hS
      refine wpAnyH_hold (fun W' => Fx No wo W') hS ?_
      clear hS
      rintro y0 hS
      have hS0 := hS
      refine wpAnyH_take (i := 0) (v := ?_) rfl (by kernel_rfl) (by kernel_rfl) (by kernel_rfl) (fun _ _ _ h => h) (Or.inl ⟨by rfl, ?_⟩) hS ?_
      rotate_left
      · (intro W hs; go_simp; first | done | with_reducible rfl)
      try simp only [Act.put, List.getElem_toArray, List.getElem_cons_zero, List.setIfInBounds_toArray, List.set_cons_zero, List.set_cons_succ]
      refine wpAnyH_take (i := 1) (v := ?_) rfl (by kernel_rfl) (by kernel_rfl) (by kernel_rfl) (fun _ _ _ h => h) (Or.inl ⟨by rfl, ?_⟩) hS ?_
      rotate_left
      · (intro W hs; go_simp; first | done | with_reducible rfl)
      try simp only [Act.put, List.getElem_toArray, List.getElem_cons_zero, List.getElem_cons_succ, List.setIfInBounds_toArray, List.set_cons_zero, List.set_cons_succ]
      refine wpAnyH_take (i := 2) (v := ?_) rfl (by kernel_rfl) (by kernel_rfl) (by kernel_rfl) (fun _ _ _ h => h) (Or.inl ⟨by rfl, ?_⟩) hS ?_
      rotate_left
      · (intro W hs; go_simp; first | done | with_reducible rfl)
      try simp only [Act.put, List.getElem_toArray, List.getElem_cons_zero, List.getElem_cons_succ, List.setIfInBounds_toArray, List.set_cons_zero, List.set_cons_succ]
      refine wpAnyH_take (i := 3) (v := ?_) rfl (by kernel_rfl) (by kernel_rfl) (by kernel_rfl) (fun _ _ _ h => h) (Or.inl ⟨by rfl, ?_⟩) hS ?_
      rotate_left
      · (intro W hs; go_simp; first | done | with_reducible rfl)
      try simp only [Act.put, List.getElem_toArray, List.getElem_cons_zero, List.getElem_cons_succ, List.setIfInBounds_toArray, List.set_cons_zero, List.set_cons_succ]
      refine wpAnyH_take (i := 4) (v := ?_) rfl (by kernel_rfl) (by kernel_rfl) (by kernel_rfl) (fun _ _ _ h => h) (Or.inl ⟨by rfl, ?_⟩) hS ?_
      rotate_left
      · (intro W hs; go_simp; first | done | with_reducible rfl)
      try simp only [Act.put, List.getElem_toArray, List.getElem_cons_zero, List.getElem_cons_succ, List.setIfInBounds_toArray, List.set_cons_zero, List.set_cons_succ]
      refine wpH_one (i := 5) (by kernel_rfl) rfl (fun K hK => ?_)
      go_simp
      refine (CH.out _ hS).mono ?_
      rintro e y1 ⟨rfl, hfi⟩
      have HZy1 : Hid (y0.heap.size ≤ y1.heap.size) := Lib.hid hfi.size
      have HSy1 : Hid (Fx No y0 y1) := Lib.hid hfi
      refine hK.out _ _ (hS.trans hfi) (fun hS' => ?_)
      clear hK K hS hfi 
      have hS := hS'
      clear hS'
      try simp only [Act.put, List.getElem_toArray, List.getElem_cons_zero, List.getElem_cons_succ, List.setIfInBounds_toArray, List.set_cons_zero, List.set_cons_succ]
      refine wpAnyH_take (i := 6) (v := ?_) rfl (by kernel_rfl) (by kernel_rfl) (by kernel_rfl) (fun _ _ _ h => h) (Or.inl ⟨by rfl, ?_⟩) hS ?_
      rotate_left
      · (intro W hs; go_simp; first | done | with_reducible rfl)
      try simp only [Act.put, List.getElem_toArray, List.getElem_cons_zero, List.getElem_cons_succ, List.setIfInBounds_toArray, List.set_cons_zero, List.set_cons_succ]
      refine wpAnyH_done (by kernel_rfl) ?_ _
      have HZ := Lib.hid hS
      clear hS hS0 q0 q1 g0 g1 g2
      cases tv
      · go_wp2
        go_ret
        refine ⟨?_, HF1.out.trans (HF.out.trans HZ.out)⟩
        have h1 : l.all (fun x => decide (x ∈ L)) = false := by
          cases hh : l.all (fun x => decide (x ∈ L)) with
          | false => rfl
          | true =>
            have := List.all_eq_true.1 hh x HMem.out
            rw [← HT.out] at this
            cases this
        rw [h1]; rfl
      · go_wp2
        go_roundw
        case rel => exact ⟨k + 1, by go_num, by omega, HF.out.trans HZ.out, Lib.hid (by rw [HTk.out, List.all_append, HK.out]; simp; exact of_decide_eq_true HT.out.symm)⟩
        case measure => simp [intOf]; omega
    · obtain rfl : k = l.length := by omega
      go_wp2
      go_ret
      refine ⟨?_, HF1.out.trans HF.out⟩
      have h1 := HK.out
      rw [List.take_length] at h1
      rw [h1]; rfl
set_option maxRecDepth 100000 in
set_option maxHeartbeats 2000000 in
theorem refSimple_any (h : EdsV w D v l) (hl : l.length ≤ 1000000) : Calls Tryz.prog 20 #[v] w fun e w' => e = .returned (.bool (apartB l && roundB l)) ∧ Fx No w w' := by
  have H := Lib.hid h
  obtain ⟨ao, cap, rfl, hcl, hcm, hc⟩ := EdsV.facts h
  have HC := Lib.hid hc
  clear h hc
  go_enter Tryz.func20, Tryz.ntmps20
  go_wp2
  go_loopw [3] (fun i ws => ∃ k : Nat, i = .int .i64 k ∧ k ≤ l.length ∧ Fx No w ws ∧ Hid (∀ a c, c < a → a < k → (gt l a).f ≠ (gt l c).f)) (fun i _ => l.length - (intOf i).toNat)
  case atStart => exact ⟨0, rfl, Nat.zero_le _, Fx.refl _ _, Lib.hid fun a c h1 h2 => by omega⟩
  case round =>
    obtain ⟨k, rfl, hk, hf, HK⟩ := hrel
    obtain ⟨wo, hwo⟩ : ∃ x, x = wr := ⟨_, rfl⟩
    subst hwo
    have HF := Lib.hid hf
    clear hf
    by_cases hlt : k < l.length
    · have hk0 : (0 : Int) ≤ (k : Int) := by omega
      have hk1 : (k : Int) < (l.length : Int) := by omega
      go_wp2
      go_loopw [4] (fun i ws => ∃ j : Nat, i = .int .i64 j ∧ j ≤ k ∧ Fx No w ws ∧ Hid (∀ c, c < j → (gt l k).f ≠ (gt l c).f)) (fun i _ => k - (intOf i).toNat)
      case atStart => exact ⟨0, rfl, Nat.zero_le _, HF.out, Lib.hid fun c h1 => by omega⟩
      case round =>
        obtain ⟨j, rfl, hj, hf, HJ⟩ := hrel
        have HF2 := Lib.hid hf
        clear hf
        by_cases hjl : j < k
        · obtain ⟨b1, o1, e1, _, p0, p1, p2⟩ := HC.out k hlt
          obtain ⟨b2, o2, e2, _, r0, r1, r2⟩ := HC.out j (by omega)
          subst e1
          obtain ⟨rfl, rfl⟩ : b1 = b2 ∧ o1 = o2 := by simpa using e2
          have p0 := HF2.out.cell' p0 (fun q => q)
          have r0 := HF2.out.cell' r0 (fun q => q)
          have hj0 : (0 : Int) ≤ (j : Int) := by omega
          have hj1 : (j : Int) < (k : Int) := by omega
          have hj2 : (j : Int) < (l.length : Int) := by omega
          clear p1 p2 r1 r2 e2
          by_cases he : (gt l k).f = (gt l j).f
          · have d1 : ((gt l k).f == (gt l j).f) = true := by simpa using he
            have HB : Hid (apartB l = false) := Lib.hid (apart_no hjl hlt he)
            clear he
            go_wp2
            go_quiet (fail)
            go_wp2
            go_ret
            exact ⟨by rw [HB.out]; rfl, HF2.out.drewN _⟩
          · have d1 : ((gt l k).f == (gt l j).f) = false := by simpa using he
            have HN := Lib.hid he
            clear he
            go_wp2
            go_quiet (fail)
            go_wp2
            go_roundw
            case rel => exact ⟨j + 1, by go_num, by omega, HF2.out.drewN _, Lib.hid fun c h1 => by
              by_cases e : c = j
              · subst e; exact HN.out
              · exact HJ.out c (by omega)⟩
            case measure => simp [intOf]; omega
        · obtain rfl : j = k := by omega
          go_wp2
          go_roundw
          case rel => exact ⟨j + 1, by go_num, by omega, HF2.out, Lib.hid fun a c h1 h2 => by
            by_cases e : a = j
            · subst e; exact HJ.out c h1
            · exact HK.out a c h1 (by omega)⟩
          case measure => simp [intOf]; omega
    · obtain rfl : k = l.length := by omega
      have HB : Hid (apartB l = true) := Lib.hid (apart_iff.2 fun a c h1 h2 => HK.out a c h1 h2)
      go_wp2_with fail
      refine (refClosed_any (RowV.no H.out HF.out)).mono ?_
      rintro e w2 ⟨rfl, hf⟩
      have HF2 := Lib.hid (HF.out.trans hf)
      clear hf
      go_wp2
      go_ret
      exact ⟨by rw [HB.out]; simp, HF2.out⟩
end
#print axioms refSimple_any
end Go.Proofs.YtgacknphjeiojaaGreat

namespace Go.Proofs.YtgacknphjeiojaaGreat
open Go.RowKit
set_option linter.unusedVariables false

section
variable {w w' : World} {D S T E : Nat → Prop} {b N : Nat} {L l : List Ed} {v rv : Value}
set_option maxRecDepth 100000 in
set_option maxHeartbeats 2000000 in
theorem refNodes_any (h : EdsV w D v l) (hl : l.length ≤ 1000000) : Calls Tryz.prog 23 #[v] w fun e w' => ∃ v', e = .returned v' ∧ Fx No w w' ∧ w'.ownsRow w.heap.size 3 1 v' (nodesL l).length (ints (nodesL l)) := by
  obtain ⟨ii, hi, hz, hs, hbb⟩ := info_intY
  have H := Lib.hid h
  obtain ⟨ao, cap, rfl, hcl, hcm, hc⟩ := EdsV.facts h
  have HC := Lib.hid hc
  clear h hc
  cases hch : chainB l with
  | false =>
    have HE : Hid (nodesL l = []) := Lib.hid (by unfold nodesL; rw [hch, if_neg (by simp)])
    rw [HE.out]
    have HCh := Lib.hid hch
    go_enter Tryz.func23, Tryz.ntmps23
    go_wp2_with fail
    refine (refWalkE_any H.out).mono ?_
    rw [HCh.out]
    rintro e w1 ⟨rfl, hf⟩
    have HF := Lib.hid hf
    clear hf hch
    go_wp2
    go_ret
    exact ⟨_, rfl, HF.out, World.ownsRow_nil _ _ _ _⟩
  | true =>
    have HCh := Lib.hid hch
    have HE : Hid (nodesL l = if 0 < l.length ∧ roundB l = false then l.map (·.f) ++ [(gt l (l.length - 1)).t] else l.map (·.f)) := Lib.hid (by unfold nodesL; rw [hch, if_pos rfl])
    clear hch
    go_enter Tryz.func23, Tryz.ntmps23
    go_wp2_with fail
    refine (refWalkE_any H.out).mono ?_
    rw [HCh.out]
    rintro e w1 ⟨rfl, hf⟩
    have HF1 := Lib.hid hf
    have z1 := hf.size
    clear hf
    go_wp2
    go_loopw [3, 4] (fun o i ws => ∃ k : Nat, i = .int .i64 k ∧ k ≤ l.length ∧ Fx No w1 ws ∧ ws.ownsRow w1.heap.size 3 1 o k (ints ((l.map (·.f)).take k))) (fun _ i _ => l.length - (intOf i).toNat)
    case atStart => exact ⟨0, rfl, Nat.zero_le _, Fx.refl _ _, World.ownsRow_nil _ _ _ _⟩
    case round =>
      obtain ⟨k, rfl, hk, hf, ho⟩ := hrel
      have HF := Lib.hid hf
      have HO := Lib.hid ho
      have hzr := hf.size
      clear hf ho
      by_cases hlt : k < l.length
      · obtain ⟨bb, oo, rfl, _, p0, p1, p2⟩ := HC.out k hlt
        have HTk := Lib.hid (take_gt hlt)
        have p0 := (HF1.out.trans HF.out).cell' p0 (fun q => q)
        have p1 := (HF1.out.trans HF.out).cell' p1 (fun q => q)
        have p2 := (HF1.out.trans HF.out).cell' p2 (fun q => q)
        obtain ⟨x, hx⟩ : ∃ x, x = gt l k := ⟨_, rfl⟩
        rw [← hx] at p0 p1 p2 HTk
        have HTm : Hid ((l.map (·.f)).take (k + 1) = (l.map (·.f)).take k ++ [x.f]) := Lib.hid (by rw [← List.map_take, ← List.map_take, HTk.out]; simp)
        have hk0 : (0 : Int) ≤ (k : Int) := by omega
        have hk1 : (k : Int) < (l.length : Int) := by omega
        clear hx
        go_wp2_with (at_builtin; refine wpList_append_sl rfl _ _ 23 rfl w1.heap.size 3 Tryz.underlying23 hi hz hs hbb rfl (by decide) rfl (World.ownsRow.alloc HO.out _) rfl (SlV.lit _ 3 #[.int .i64 x.f] 1 1 rfl (by unfold maxLen; omega)) (ints_one [_]) (by unfold maxLen; omega) (by omega) (by simp; omega) ?_)
        intro v2 w2 ho hf _
        have HO2 : Hid (w2.ownsRow w1.heap.size 3 1 v2 (k + 1) (ints ((l.map (·.f)).take (k + 1)))) := Lib.hid (by
          have h1 := ho
          rw [show ints ((l.map (·.f)).take (k + 1)) = ints ((l.map (·.f)).take k) ++ [.int .i64 x.f] by rw [HTm.out]; simp [ints]]
          exact h1)
        have HF2 : Hid (Fx No w1 w2) := Lib.hid (Fx.trans' (HF.out.alloc _) hf fun j h1 h2 => by have := (World.ownsRow.lt HO.out j h1).1; omega)
        clear ho hf p0 p1 p2
        go_wp2
        go_roundw
        case rel => exact ⟨k + 1, by go_num, by omega, HF2.out, HO2.out⟩
        case measure => simp [intOf]; omega
      · obtain rfl : k = l.length := by omega
        have HO3 : Hid (wr.ownsRow w1.heap.size 3 1 u3 l.length (ints (l.map (·.f)))) := Lib.hid (by have h1 := HO.out; rw [show (l.map (·.f)).take l.length = l.map (·.f) from List.take_of_length_le (by simp)] at h1; exact h1)
        clear HO
        by_cases h0 : 0 < l.length
        · have d0 : decide ((0 : Int) < (l.length : Int)) = true := decide_eq_true (by omega)
          cases hr : roundB l with
          | true =>
            have HRr := Lib.hid hr
            have HE2 : Hid (nodesL l = l.map (·.f)) := Lib.hid (HE.out.trans (if_neg (fun q => by rw [hr] at q; cases q.2)))
            clear hr HE
            go_wp2_with fail
            refine (refClosed_any (RowV.no H.out (HF1.out.trans HF.out))).mono ?_
            rw [HRr.out]
            rintro e w2 ⟨rfl, hf⟩
            have HF2 := Lib.hid (HF1.out.trans (HF.out.trans hf))
            have HO4 := Lib.hid (ownsRow_fx HO3.out hf fun _ _ q => q)
            clear hf
            go_wp2
            go_ret
            refine ⟨_, rfl, HF2.out, ?_⟩
            rw [HE2.out, List.length_map]
            exact ownsRow_base HO4.out z1
          | false =>
            have HRr := Lib.hid hr
            have HE2 : Hid (nodesL l = l.map (·.f) ++ [(gt l (l.length - 1)).t]) := Lib.hid (HE.out.trans (if_pos ⟨h0, hr⟩))
            obtain ⟨bb, oo, rfl, _, p0, p1, p2⟩ := HC.out (l.length - 1) (by omega)
            obtain ⟨y, hy⟩ : ∃ y, y = (gt l (l.length - 1)).t := ⟨_, rfl⟩
            rw [← hy] at p1 HE2
            obtain ⟨n, hn⟩ : ∃ n, l.length = n + 1 := ⟨l.length - 1, by omega⟩
            rw [hn, Nat.add_sub_cancel] at p1
            have HP := Lib.hid p1
            have hw1 : IntKind.i64.wrap (n : Int) = (n : Int) := by rw [IntKind.wrap_i64]; omega
            have hn0 : (0 : Int) ≤ (n : Int) := by omega
            have hn1 : (n : Int) < (n : Int) + 1 := by omega
            have HN := Lib.hid hn
            have hnb : n ≤ 1000000 := by omega
            clear hr HE p0 p1 p2 hy hn
            go_wp2_with fail
            refine (refClosed_any (RowV.no H.out (HF1.out.trans HF.out))).mono ?_
            rw [HRr.out]
            rintro e w2 ⟨rfl, hf⟩
            have HF2 := Lib.hid (HF1.out.trans (HF.out.trans hf))
            have HF2' := Lib.hid (HF.out.trans hf)
            have HO4 := Lib.hid (ownsRow_fx HO3.out hf fun _ _ q => q)
            have p1 := HF2.out.cell' HP.out (fun q => q)
            have hzw : w1.heap.size ≤ w2.heap.size := Nat.le_trans hzr hf.size
            clear hf
            rw [HN.out] at HO4 ⊢
            go_wp2_with (at_builtin; refine wpList_append_sl rfl _ _ 23 rfl w1.heap.size 3 Tryz.underlying23 hi hz hs hbb rfl (by decide) rfl (World.ownsRow.alloc HO4.out _) rfl (SlV.lit _ 3 #[.int .i64 y] 1 1 rfl (by unfold maxLen; omega)) (ints_one [_]) (by unfold maxLen; omega) (by omega) (by simp; omega) ?_)
            intro v3 w3 ho hf _
            have HO5 : Hid (w3.ownsRow w1.heap.size 3 1 v3 (n + 1 + 1) (ints (l.map (·.f) ++ [y]))) := Lib.hid (by
              have h1 := ho
              rw [show ints (l.map (·.f) ++ [y]) = ints (l.map (·.f)) ++ [.int .i64 y] by simp [ints]]
              exact h1)
            have HF3 : Hid (Fx No w w3) := Lib.hid (HF1.out.trans ((HF2'.out.alloc _).trans' hf fun j h1 h2 => by have := (World.ownsRow.lt HO4.out j h1).1; omega))
            clear ho hf p1
            go_wp2
            go_ret
            refine ⟨_, rfl, HF3.out, ?_⟩
            rw [HE2.out]
            rw [show (l.map (·.f) ++ [y]).length = n + 1 + 1 by simp [HN.out]]
            exact ownsRow_base HO5.out z1
        · have d0 : decide ((0 : Int) < (l.length : Int)) = false := decide_eq_false (by omega)
          have HE2 : Hid (nodesL l = l.map (·.f)) := Lib.hid (HE.out.trans (if_neg (fun q => h0 q.1)))
          clear HE
          go_wp2
          go_ret
          refine ⟨_, rfl, HF1.out.trans HF.out, ?_⟩
          rw [HE2.out, List.length_map]
          exact ownsRow_base HO3.out z1
set_option maxRecDepth 100000 in
set_option maxHeartbeats 2000000 in
theorem nodes_any (h : EdsV w D v l) (hl : l.length ≤ 1000000) : Calls Tryz.prog 22 #[v] w fun e w' => ∃ v', e = .returned v' ∧ Fx No w w' ∧ w'.ownsRow w.heap.size 3 1 v' (nodesL l).length (ints (nodesL l)) := by
  obtain ⟨ii, hi, hz, hs, hbb⟩ := info_intY
  have H := Lib.hid h
  obtain ⟨ao, cap, rfl, hcl, hcm, hc⟩ := EdsV.facts h
  have HC := Lib.hid hc
  clear h hc
  cases hch : chainB l with
  | false =>
    have HE : Hid (nodesL l = []) := Lib.hid (by unfold nodesL; rw [hch, if_neg (by simp)])
    rw [HE.out]
    have HCh := Lib.hid hch
    go_enter Tryz.func22, Tryz.ntmps22
    go_wp2_with fail
    refine (chain_any H.out).mono ?_
    rw [HCh.out]
    rintro e w1 ⟨rfl, hf⟩
    have HF := Lib.hid hf
    clear hf hch
    go_wp2
    go_ret
    exact ⟨_, rfl, HF.out, World.ownsRow_nil _ _ _ _⟩
  | true =>
    have HCh := Lib.hid hch
    have HE : Hid (nodesL l = if 0 < l.length ∧ roundB l = false then l.map (·.f) ++ [(gt l (l.length - 1)).t] else l.map (·.f)) := Lib.hid (by unfold nodesL; rw [hch, if_pos rfl])
    clear hch
    go_enter Tryz.func22, Tryz.ntmps22
    go_wp2_with fail
    refine (chain_any H.out).mono ?_
    rw [HCh.out]
    rintro e w1 ⟨rfl, hf⟩
    have HF1 := Lib.hid hf
    have z1 := hf.size
    clear hf
    go_wp2
    go_loopw [2, 10] (fun o i ws => ∃ k : Nat, i = .int .i64 k ∧ k ≤ l.length ∧ Fx No w1 ws ∧ ws.ownsRow w1.heap.size 3 1 o k (ints ((l.map (·.f)).take k))) (fun _ i _ => l.length - (intOf i).toNat)
    case atStart => exact ⟨0, rfl, Nat.zero_le _, Fx.refl _ _, World.ownsRow_nil _ _ _ _⟩
    case round =>
      obtain ⟨k, rfl, hk, hf, ho⟩ := hrel
      have HF := Lib.hid hf
      have HO := Lib.hid ho
      have hzr := hf.size
      clear hf ho
      by_cases hlt : k < l.length
      · obtain ⟨bb, oo, rfl, _, p0, p1, p2⟩ := HC.out k hlt
        have HTk := Lib.hid (take_gt hlt)
        have p0 := (HF1.out.trans HF.out).cell' p0 (fun q => q)
        have p1 := (HF1.out.trans HF.out).cell' p1 (fun q => q)
        have p2 := (HF1.out.trans HF.out).cell' p2 (fun q => q)
        obtain ⟨x, hx⟩ : ∃ x, x = gt l k := ⟨_, rfl⟩
        rw [← hx] at p0 p1 p2 HTk
        have HTm : Hid ((l.map (·.f)).take (k + 1) = (l.map (·.f)).take k ++ [x.f]) := Lib.hid (by rw [← List.map_take, ← List.map_take, HTk.out]; simp)
        have hk0 : (0 : Int) ≤ (k : Int) := by omega
        have hk1 : (k : Int) < (l.length : Int) := by omega
        clear hx
        have HLt : Hid (SlV ((wr.alloc (.cells #[.int .i64 x.f, .int .i64 x.t, .int .i64 x.l] 25)).alloc (.cells #[.int .i64 x.f] 3)) (fun _ => True) (.slice (some ⟨wr.heap.size + 1, 0, none⟩) 1 1) 1 1 [.int .i64 x.f]) := Lib.hid (by
          have h1 := SlV.lit (wr.alloc (.cells #[.int .i64 x.f, .int .i64 x.t, .int .i64 x.l] 25)) 3 #[.int .i64 x.f] 1 1 rfl (by unfold maxLen; omega)
          simp only [World.size_alloc] at h1
          exact h1)
        go_wp2_with (at_builtin; refine wpList_append_sl rfl _ _ 23 rfl w1.heap.size 3 Tryz.underlying23 hi hz hs hbb rfl (by decide) rfl (World.ownsRow.alloc (World.ownsRow.alloc HO.out (.cells #[.int .i64 x.f, .int .i64 x.t, .int .i64 x.l] 25)) (.cells #[.int .i64 x.f] 3)) rfl HLt.out (ints_one [_]) (by unfold maxLen; omega) (by omega) (by simp; omega) ?_)
        intro v2 w2 ho hf _
        have HO2 : Hid (w2.ownsRow w1.heap.size 3 1 v2 (k + 1) (ints ((l.map (·.f)).take (k + 1)))) := Lib.hid (by
          have h1 := ho
          rw [show ints ((l.map (·.f)).take (k + 1)) = ints ((l.map (·.f)).take k) ++ [.int .i64 x.f] by rw [HTm.out]; simp [ints]]
          exact h1)
        have HF2 : Hid (Fx No w1 w2) := Lib.hid (Fx.trans' ((HF.out.alloc _).alloc _) hf fun j h1 h2 => by have := (World.ownsRow.lt HO.out j h1).1; omega)
        clear ho hf p0 p1 p2
        go_wp2
        go_roundw
        case rel => exact ⟨k + 1, by go_num, by omega, HF2.out, HO2.out⟩
        case measure => simp [intOf]; omega
      · obtain rfl : k = l.length := by omega
        have HO3 : Hid (wr.ownsRow w1.heap.size 3 1 u2 l.length (ints (l.map (·.f)))) := Lib.hid (by have h1 := HO.out; rw [show (l.map (·.f)).take l.length = l.map (·.f) from List.take_of_length_le (by simp)] at h1; exact h1)
        clear HO
        by_cases h0 : 0 < l.length
        · have d0 : decide ((0 : Int) < (l.length : Int)) = true := decide_eq_true (by omega)
          cases hr : roundB l with
          | true =>
            have HRr := Lib.hid hr
            have HE2 : Hid (nodesL l = l.map (·.f)) := Lib.hid (HE.out.trans (if_neg (fun q => by rw [hr] at q; cases q.2)))
            clear hr HE
            go_wp2_with fail
            refine (round_any (RowV.no H.out (HF1.out.trans HF.out))).mono ?_
            rw [HRr.out]
            rintro e w2 ⟨rfl, hf⟩
            have HF2 := Lib.hid (HF1.out.trans (HF.out.trans hf))
            have HO4 := Lib.hid (ownsRow_fx HO3.out hf fun _ _ q => q)
            clear hf
            go_wp2
            go_ret
            refine ⟨_, rfl, HF2.out, ?_⟩
            rw [HE2.out, List.length_map]
            exact ownsRow_base HO4.out z1
          | false =>
            have HRr := Lib.hid hr
            have HE2 : Hid (nodesL l = l.map (·.f) ++ [(gt l (l.length - 1)).t]) := Lib.hid (HE.out.trans (if_pos ⟨h0, hr⟩))
            obtain ⟨bb, oo, rfl, _, p0, p1, p2⟩ := HC.out (l.length - 1) (by omega)
            obtain ⟨y, hy⟩ : ∃ y, y = (gt l (l.length - 1)).t := ⟨_, rfl⟩
            rw [← hy] at p1 HE2
            obtain ⟨n, hn⟩ : ∃ n, l.length = n + 1 := ⟨l.length - 1, by omega⟩
            rw [hn, Nat.add_sub_cancel] at p1
            have HP := Lib.hid p1
            have hw1 : IntKind.i64.wrap (n : Int) = (n : Int) := by rw [IntKind.wrap_i64]; omega
            have hn0 : (0 : Int) ≤ (n : Int) := by omega
            have hn1 : (n : Int) < (n : Int) + 1 := by omega
            have HN := Lib.hid hn
            have hnb : n ≤ 1000000 := by omega
            clear hr HE p0 p1 p2 hy hn
            go_wp2_with fail
            refine (round_any (RowV.no H.out (HF1.out.trans HF.out))).mono ?_
            rw [HRr.out]
            rintro e w2 ⟨rfl, hf⟩
            have HF2 := Lib.hid (HF1.out.trans (HF.out.trans hf))
            have HF2' := Lib.hid (HF.out.trans hf)
            have HO4 := Lib.hid (ownsRow_fx HO3.out hf fun _ _ q => q)
            have p1 := HF2.out.cell' HP.out (fun q => q)
            have hzw : w1.heap.size ≤ w2.heap.size := Nat.le_trans hzr hf.size
            clear hf
            rw [HN.out] at HO4 ⊢
            go_wp2_with (at_builtin; refine wpList_append_sl rfl _ _ 23 rfl w1.heap.size 3 Tryz.underlying23 hi hz hs hbb rfl (by decide) rfl (World.ownsRow.alloc HO4.out _) rfl (SlV.lit _ 3 #[.int .i64 y] 1 1 rfl (by unfold maxLen; omega)) (ints_one [_]) (by unfold maxLen; omega) (by omega) (by simp; omega) ?_)
            intro v3 w3 ho hf _
            have HO5 : Hid (w3.ownsRow w1.heap.size 3 1 v3 (n + 1 + 1) (ints (l.map (·.f) ++ [y]))) := Lib.hid (by
              have h1 := ho
              rw [show ints (l.map (·.f) ++ [y]) = ints (l.map (·.f)) ++ [.int .i64 y] by simp [ints]]
              exact h1)
            have HF3 : Hid (Fx No w w3) := Lib.hid (HF1.out.trans ((HF2'.out.alloc _).trans' hf fun j h1 h2 => by have := (World.ownsRow.lt HO4.out j h1).1; omega))
            clear ho hf p1
            go_wp2
            go_ret
            refine ⟨_, rfl, HF3.out, ?_⟩
            rw [HE2.out]
            rw [show (l.map (·.f) ++ [y]).length = n + 1 + 1 by simp [HN.out]]
            exact ownsRow_base HO5.out z1
        · have d0 : decide ((0 : Int) < (l.length : Int)) = false := decide_eq_false (by omega)
          have HE2 : Hid (nodesL l = l.map (·.f)) := Lib.hid (HE.out.trans (if_neg (fun q => h0 q.1)))
          clear HE
          go_wp2
          go_ret
          refine ⟨_, rfl, HF1.out.trans HF.out, ?_⟩
          rw [HE2.out, List.length_map]
          exact ownsRow_base HO3.out z1
end
#print axioms refNodes_any
#print axioms nodes_any
end Go.Proofs.YtgacknphjeiojaaGreat

namespace Go.Proofs.YtgacknphjeiojaaGreat
open Go.Shelf
def sortI_ren : Go.Shelf.Ren := ⟨fun | 189 => 47 | 125 => 67 | 257 => 66 | 128 => 84 | 129 => 85 | 294 => 75 | 295 => 76 | 296 => 77 | 297 => 78 | 298 => 79 | 299 => 80 | 216 => 81 | 300 => 82 | 301 => 83 | 328 => 93 | 329 => 94 | 330 => 95 | 331 => 96 | 332 => 97 | 215 => 98 | 343 => 103 | n => n, fun | 28 => 23 | 3 => 3 | 46 => 112 | 0 => 0 | 51 => 130 | 53 => 132 | 4 => 4 | 183 => 123 | 182 => 122 | 131 => 116 | 5 => 5 | 9 => 9 | 218 => 142 | 222 => 146 | 228 => 152 | 229 => 153 | n => n, fun | n => n⟩
theorem sortI : Go.Proofs.Lays.n189 Tryz.prog sortI_ren := {
  mixed := by kernel_rfl
  f125 := Tryz.func67.trans (congrArg some (by kernel_rfl))
  f128 := Tryz.func84.trans (congrArg some (by kernel_rfl))
  f129 := Tryz.func85.trans (congrArg some (by kernel_rfl))
  f189 := Tryz.func47.trans (congrArg some (by kernel_rfl))
  f215 := Tryz.func98.trans (congrArg some (by kernel_rfl))
  f216 := Tryz.func81.trans (congrArg some (by kernel_rfl))
  f257 := Tryz.func66.trans (congrArg some (by kernel_rfl))
  f294 := Tryz.func75.trans (congrArg some (by kernel_rfl))
  f295 := Tryz.func76.trans (congrArg some (by kernel_rfl))
  f296 := Tryz.func77.trans (congrArg some (by kernel_rfl))
  f297 := Tryz.func78.trans (congrArg some (by kernel_rfl))
  f298 := Tryz.func79.trans (congrArg some (by kernel_rfl))
  f299 := Tryz.func80.trans (congrArg some (by kernel_rfl))
  f300 := Tryz.func82.trans (congrArg some (by kernel_rfl))
  f301 := Tryz.func83.trans (congrArg some (by kernel_rfl))
  f328 := Tryz.func93.trans (congrArg some (by kernel_rfl))
  f329 := Tryz.func94.trans (congrArg some (by kernel_rfl))
  f330 := Tryz.func95.trans (congrArg some (by kernel_rfl))
  f331 := Tryz.func96.trans (congrArg some (by kernel_rfl))
  f332 := Tryz.func97.trans (congrArg some (by kernel_rfl))
  f343 := Tryz.func103.trans (congrArg some (by kernel_rfl))
  t0 := Tryz.underlying0
  a0 := Tryz.isAgg0
  z0 := Tryz.sizeOf0
  v0 := Tryz.zeroValue0
  t3 := Tryz.underlying3
  a3 := Tryz.isAgg3
  z3 := Tryz.sizeOf3
  v3 := Tryz.zeroValue3
  t4 := Tryz.underlying4
  a4 := Tryz.isAgg4
  z4 := Tryz.sizeOf4
  v4 := Tryz.zeroValue4
  t5 := Tryz.underlying5
  a5 := Tryz.isAgg5
  z5 := Tryz.sizeOf5
  v5 := Tryz.zeroValue5
  t9 := Tryz.underlying9
  a9 := Tryz.isAgg9
  z9 := Tryz.sizeOf9
  v9 := Tryz.zeroValue9
  t28 := Tryz.underlying23
  a28 := Tryz.isAgg23
  z28 := Tryz.sizeOf23
  v28 := Tryz.zeroValue23
  t46 := Tryz.underlying112
  a46 := Tryz.isAgg112
  z46 := Tryz.sizeOf112
  v46 := Tryz.zeroValue112
  t51 := Tryz.underlying130
  a51 := Tryz.isAgg130
  z51 := Tryz.sizeOf130
  v51 := Tryz.zeroValue130
  t53 := Tryz.underlying132
  a53 := Tryz.isAgg132
  z53 := Tryz.sizeOf132
  v53 := Tryz.zeroValue132
  t131 := Tryz.underlying116
  a131 := Tryz.isAgg116
  z131 := Tryz.sizeOf116
  v131 := Tryz.zeroValue116
  t182 := Tryz.underlying122
  a182 := Tryz.isAgg122
  z182 := Tryz.sizeOf122
  v182 := Tryz.zeroValue122
  t183 := Tryz.underlying123
  a183 := Tryz.isAgg123
  z183 := Tryz.sizeOf123
  v183 := Tryz.zeroValue123
  t218 := Tryz.underlying142
  a218 := Tryz.isAgg142
  z218 := Tryz.sizeOf142
  v218 := Tryz.zeroValue142
  t222 := Tryz.underlying146
  a222 := Tryz.isAgg146
  z222 := Tryz.sizeOf146
  v222 := Tryz.zeroValue146
  t228 := Tryz.underlying152
  a228 := Tryz.isAgg152
  z228 := Tryz.sizeOf152
  v228 := Tryz.zeroValue152
  t229 := Tryz.underlying153
  a229 := Tryz.isAgg153
  z229 := Tryz.sizeOf153
  v229 := Tryz.zeroValue153 }
end Go.Proofs.YtgacknphjeiojaaGreat

namespace Go.Proofs.YtgacknphjeiojaaGreat
open Go.RowKit
set_option linter.unusedVariables false

theorem compTo_step (s : List Int) (a : Nat) : (compTo s (a + 1)).length ≤ (compTo s a).length + 1 := by
  rw [compTo, List.length_append]
  split <;> simp
theorem compTo_lost {s : List Int} {k : Nat} (h0 : 0 < k) (h : gi s k = gi s (k - 1)) : ∀ a, k + 1 ≤ a → (compTo s a).length < a
  | 0, ha => by omega
  | a + 1, ha => by
    by_cases e : a = k
    · subst e
      rw [compTo_old h0 h]
      have := compTo_len s a
      omega
    · have h1 := compTo_lost h0 h a (by omega)
      have h2 := compTo_step s a
      omega
theorem compTo_full {s : List Int} (h : ∀ k, 0 < k → k < s.length → gi s k ≠ gi s (k - 1)) : ∀ a, a ≤ s.length → (compTo s a).length = a
  | 0, _ => rfl
  | a + 1, ha => by
    have ih := compTo_full h a (by omega)
    by_cases e : a = 0
    · subst e; simp [compTo]
    · rw [compTo_new (h a (by omega) (by omega)), List.length_append, ih]; rfl
theorem comp_full {s : List Int} : (comp s).length = s.length ↔ ∀ k, 0 < k → k < s.length → gi s k ≠ gi s (k - 1) := by
  constructor
  · intro h k h0 hk he
    have h1 := compTo_lost h0 he s.length (by omega)
    unfold comp at h
    omega
  · intro h
    exact compTo_full h s.length (Nat.le_refl _)
theorem gi_get {s : List Int} {k : Nat} (h : k < s.length) : gi s k = s[k] := by simp [gi, h]
theorem sorted_nodup {s : List Int} (hs : s.Pairwise (· ≤ ·)) : (∀ k, 0 < k → k < s.length → gi s k ≠ gi s (k - 1)) ↔ s.Nodup := by
  rw [List.pairwise_iff_getElem] at hs
  constructor
  · intro h
    unfold List.Nodup
    rw [List.pairwise_iff_getElem]
    intro i j hi hj hij he
    have h1 := h j (by omega) hj
    rw [gi_get hj, gi_get (by omega : j - 1 < s.length)] at h1
    have h2 := hs (j - 1) j (by omega) hj (by omega)
    by_cases e : i = j - 1
    · subst e; exact h1 he.symm
    · have h3 := hs i (j - 1) hi (by omega) (by omega)
      omega
  · intro h k h0 hk he
    unfold List.Nodup at h
    rw [List.pairwise_iff_getElem] at h
    rw [gi_get hk, gi_get (by omega : k - 1 < s.length)] at he
    exact h (k - 1) k (by omega) hk (by omega) he.symm
def srt (l : List Int) : List Int := l.mergeSort fun x y => decide (x ≤ y)
theorem srt_perm (l : List Int) : (srt l).Perm l := List.mergeSort_perm l _
theorem srt_len (l : List Int) : (srt l).length = l.length := (srt_perm l).length_eq
theorem srt_sorted (l : List Int) : (srt l).Pairwise (· ≤ ·) := by
  have h := List.pairwise_mergeSort (le := fun x y : Int => decide (x ≤ y)) (fun a b c h1 h2 => by simp at h1 h2 ⊢; omega) (fun a b => by simp; omega) l
  exact h.imp fun q => by simpa using q
theorem srt_comp (l : List Int) : (comp (srt l)).length = l.length ↔ l.Nodup := by
  rw [← srt_len l, comp_full, sorted_nodup (srt_sorted l)]
  exact (srt_perm l).nodup_iff
theorem apart_nodup {l : List Ed} : apartB l = true ↔ (l.map (·.f)).Nodup := by
  rw [apart_iff]
  unfold List.Nodup
  rw [List.pairwise_iff_getElem]
  have hg : ∀ k (h : k < l.length), (gt l k).f = l[k].f := fun k h => by simp [gt, h]
  constructor
  · intro h i j hi hj hij he
    have hi' : i < l.length := by simpa using hi
    have hj' : j < l.length := by simpa using hj
    have := h j i hij hj'
    rw [hg j hj', hg i hi'] at this
    exact this (by simpa using he.symm)
  · intro h i k hk hi he
    rw [hg i hi, hg k (by omega)] at he
    exact h k i (by simp; omega) (by simpa using hi) hk (by simpa using he.symm)
/-- the library's sort -/
theorem sort_any {w : World} {B : Nat} {v : Value} {l : List Int} (h : w.ownsRow B 3 1 v l.length (ints l)) (h0 : 0 < l.length) (hl : l.length ≤ 1000000) :
    Calls Tryz.prog 47 #[v] w fun e w' => e = .returned (.tuple #[]) ∧ Fx (fun k => v.ownBlock = some k) w w' ∧ w'.ownsRow B 3 1 v l.length (ints (srt l)) := by
  have hr := RowI.ofOwn h
  rcases h.2 with ⟨rfl, h1⟩ | ⟨g, cap, cur, rfl, hb, hg, h1, h2, h3, h4⟩
  · omega
  have hglt : g < w.heap.size := (Array.getElem?_eq_some_iff.1 hg).1
  have hH : Sort.Holds (Value.int .i64) w g 0 l.toArray := fun j hj => by
    have hj' : j < l.length := by simpa using hj
    obtain ⟨ao, c, e1, _, _, _, e5⟩ := hr
    simp only [Value.slice.injEq] at e1
    obtain ⟨rfl, _⟩ := e1
    rcases e5 with rfl | ⟨g', e6, _, _, e7⟩
    · simp at hj'
    · simp only [Option.some.injEq, Addr.mk.injEq] at e6
      obtain ⟨rfl, _⟩ := e6
      have := e7 j hj'
      rw [this.1]
      exact ⟨by simp [gi, hj'], this.2⟩
  have hc := Any.slices_Sort_int sortI g 0 cap l w hH hglt (by omega)
  refine Calls.mono (hc : Calls Tryz.prog 47 _ _ _) ?_
  rintro e w' ⟨rfl, n, os, rfl⟩
  refine ⟨rfl, Fx.ofGrown (grownBy_sortedI _) fun k hk _ => ?_, ?_⟩
  · simpa [Value.ownBlock] using hk
  · exact ownsRow_sortedI (srt_len l) hb hg h1 h2 h3
theorem round_chain {l : List Ed} (h : roundB l = true) : 0 < l.length ∧ chainB l = true := by
  unfold roundB at h
  simp only [Bool.and_eq_true, decide_eq_true_eq] at h
  exact h.1
section
variable {w w' : World} {D S T E : Nat → Prop} {b N : Nat} {L l : List Ed} {v rv : Value}
set_option maxRecDepth 100000 in
set_option maxHeartbeats 2000000 in
theorem simple_any (h : EdsV w D v l) (hl : l.length ≤ 100000) : Calls Tryz.prog 19 #[v] w fun e w' => e = .returned (.bool (apartB l && roundB l)) ∧ Fx No w w' := by
  have H := Lib.hid h
  obtain ⟨ao, cap, rfl, hcl, hcm, _⟩ := EdsV.facts h
  clear h
  cases hr : roundB l with
  | false =>
    have HR := Lib.hid hr
    rw [Bool.and_false]
    go_enter Tryz.func19, Tryz.ntmps19
    go_wp2_with fail
    refine (round_any H.out).mono ?_
    rw [HR.out]
    rintro e w1 ⟨rfl, hf⟩
    have HF := Lib.hid hf
    clear hf hr
    go_wp2
    go_ret
    exact ⟨rfl, HF.out⟩
  | true =>
    have HR := Lib.hid hr
    obtain ⟨h0, hch⟩ := round_chain hr
    have HN : Hid (nodesL l = l.map (·.f)) := Lib.hid (by unfold nodesL; rw [if_pos hch, if_neg (fun q => by rw [hr] at q; cases q.2)])
    have HA : Hid (decide (((comp (srt (l.map (·.f)))).length : Int) = (l.length : Int)) = apartB l) := Lib.hid (by
      have h1 := srt_comp (l.map (·.f))
      rw [List.length_map] at h1
      cases ha : apartB l with
      | true => exact decide_eq_true (by exact_mod_cast h1.2 (apart_nodup.1 ha))
      | false => exact decide_eq_false (fun q => by
          have h2 := apart_nodup.2 (h1.1 (by exact_mod_cast q))
          rw [ha] at h2
          cases h2))
    rw [Bool.and_true]
    clear hr hch
    go_enter Tryz.func19, Tryz.ntmps19
    go_wp2_with fail
    refine (round_any H.out).mono ?_
    rw [HR.out]
    rintro e w1 ⟨rfl, hf⟩
    have HF := Lib.hid hf
    clear hf
    go_wp2_with fail
    refine (nodes_any (RowV.no H.out HF.out) (by omega)).mono ?_
    rw [HN.out]
    rintro e w2 ⟨nv, rfl, hf, ho⟩
    have HF1 := Lib.hid hf
    have HO := Lib.hid ho
    clear hf ho
    go_wp2_with fail
    refine (sort_any HO.out (by simpa using h0) (by simp; omega)).mono ?_
    rintro e w3 ⟨rfl, hf, ho⟩
    have HF2 : Hid (Fx No w1 w3) := Lib.hid (HF1.out.trans' hf fun j h1 h2 => by have := (World.ownsRow.lt HO.out j h1).1; omega)
    have HO3 : Hid (RowI w3 w1.heap.size nv (srt (l.map (·.f)))) := Lib.hid (RowI.ofOwn (by rw [srt_len]; exact ho))
    clear hf ho
    go_wp2_with fail
    refine (compact_any HO3.out (by rw [srt_len]; simp; omega)).mono ?_
    rintro e w4 ⟨cv, rfl, hf, ho⟩
    have HF4 : Hid (Fx No w1 w4) := Lib.hid (HF2.out.trans' hf fun j h1 h2 => by omega)
    obtain ⟨co, cc, rfl, _⟩ := ho
    obtain ⟨cn, hcn⟩ : ∃ x, x = (comp (srt (l.map (·.f)))).length := ⟨_, rfl⟩
    rw [← hcn] at HA ⊢
    obtain ⟨tv, htv⟩ : ∃ x, x = apartB l := ⟨_, rfl⟩
    rw [← htv] at HA
    have d1 : ((cn : Int) == (l.length : Int)) = tv := HA.out
    have HT := Lib.hid htv
    clear hf hcn htv HA
    go_wp2
    go_ret
    exact ⟨by rw [HT.out]; rfl, HF.out.trans HF4.out⟩
end
#print axioms simple_any
end Go.Proofs.YtgacknphjeiojaaGreat
