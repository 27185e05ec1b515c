/- cycle: chain, round, Walk, Closed. | cycle: Walk, Closed. | alibilaw15.works. | The law CycleNone: a graph that is not there answers so. | What the statements' rows give to the laws' walks: slices of integers and of pairs that came in. -/
import Derived.Test.YtgacknphjeiojaaGreatM9
import Derived.Test.YtgacknphjeiojaaGreatM5
import Derived.Test.YtgacknphjeiojaaGreatRows
import Derived.WalkKit
import Derived.ProofKit
import Derived.OpenShut
import Derived.ChangeOld
import Derived.Below
import Derived.Deep.DeepHandedRow
import Derived.Deep.Slices
import Derived.Deep.Fields
import Derived.ChangeSame
import Derived.Lib.SmallJoins

namespace Go.Proofs.YtgacknphjeiojaaGreat
open Go.RowKit
set_option linter.unusedVariables false

def chainB (l : List Ed) : Bool := (List.range l.length).all fun i => decide (i = 0) || ((gt l (i - 1)).t == (gt l i).f)
theorem chain_iff {l : List Ed} : chainB l = true ↔ ∀ i, 0 < i → i < l.length → (gt l (i - 1)).t = (gt l i).f := by
  unfold chainB
  rw [List.all_eq_true]
  constructor
  · intro h i h0 hi
    have := h i (List.mem_range.2 hi)
    have h2 : ¬ i = 0 := by omega
    simpa [h2] using this
  · intro h i hi
    by_cases e : i = 0
    · simp [e]
    · simp [e, h i (by omega) (List.mem_range.1 hi)]
theorem chain_no {l : List Ed} {i : Nat} (h0 : 0 < i) (hi : i < l.length) (hn : (gt l (i - 1)).t ≠ (gt l i).f) : chainB l = false := by
  cases h : chainB l with
  | false => rfl
  | true => exact absurd (chain_iff.1 h i h0 hi) hn
def roundB (l : List Ed) : Bool := decide (0 < l.length) && chainB l && ((gt l (l.length - 1)).t == (gt l 0).f)
section
variable {w w' : World} {D S T : Nat → Prop} {b N : Nat} {L l : List Ed} {v : Value}
set_option maxRecDepth 100000 in
set_option maxHeartbeats 1000000 in
theorem chain_quiet (h : EdsV w D v l) : Calls Tryz.prog 41 #[v] w fun e w' => e = .returned (.bool (chainB l)) ∧ ∃ m, w' = w.drewN m := by
  obtain ⟨ao, cap, rfl, hcl, hcm, hc⟩ := EdsV.facts h
  have HC := Lib.hid hc
  clear h hc
  go_enter Tryz.func41, Tryz.ntmps41
  go_wp2
  go_loopw [3] (fun i ws => ∃ k : Nat, i = .int .i64 k ∧ 0 < k ∧ (k ≤ l.length ∨ k = 1) ∧ (∃ m, ws = w.drewN m) ∧ Hid (∀ j, 0 < j → j < k → j < l.length → (gt l (j - 1)).t = (gt l j).f)) (fun i _ => l.length - (intOf i).toNat)
  case atStart => exact ⟨1, rfl, by omega, .inr rfl, ⟨0, rfl⟩, Lib.hid fun j h1 h2 => by omega⟩
  case round =>
    obtain ⟨k, rfl, hk0, hk, ⟨m, rfl⟩, HK⟩ := hrel
    by_cases hlt : k < l.length
    · obtain ⟨b1, o1, e1, _, p0, p1, p2⟩ := HC.out (k - 1) (by omega)
      obtain ⟨b2, o2, e2, _, q0, q1, q2⟩ := HC.out k hlt
      subst e1
      obtain ⟨rfl, rfl⟩ : b1 = b2 ∧ o1 = o2 := by simpa using e2
      obtain ⟨k, rfl⟩ : ∃ j, k = j + 1 := ⟨k - 1, by omega⟩
      rw [Nat.add_sub_cancel] at p0 p1 p2
      have hz0 : (0 : Int) ≤ ((k + 1 : Nat) : Int) := by omega
      have hz1 : ((k + 1 : Nat) : Int) < (l.length : Int) := by omega
      have hW : IntKind.i64.wrap (((k + 1 : Nat) : Int) - 1) = (k : Int) := by rw [IntKind.wrap_i64]; omega
      have hW' : IntKind.i64.wrap ((k : Int) + 1 - 1) = (k : Int) := by rw [IntKind.wrap_i64]; omega
      have hz2 : (0 : Int) ≤ (k : Int) := by omega
      have hz3 : (k : Int) < (l.length : Int) := by omega
      have hz4 : (k : Int) + 1 < (l.length : Int) := by omega
      have hz5 : (0 : Int) ≤ (k : Int) + 1 := by omega
      clear p0 p2 q1 q2 e2
      by_cases he : (gt l k).t = (gt l (k + 1)).f
      · have hd : ((gt l k).t != (gt l (k + 1)).f) = false := by simp [he]
        have HE := Lib.hid he
        clear he
        go_wp2
        go_quiet (fail)
        go_wp2
        go_roundw
        case rel => exact ⟨k + 2, by go_num, by omega, .inl (by omega), ⟨_, rfl⟩, Lib.hid fun j h1 h2 h3 => by
          by_cases e : j = k + 1
          · subst e; exact HE.out
          · exact HK.out j h1 (by omega) h3⟩
        case measure => simp [intOf]; omega
      · have hd : ((gt l k).t != (gt l (k + 1)).f) = true := by simpa using he
        have HB : Hid (chainB l = false) := Lib.hid (chain_no (i := k + 1) (by omega) hlt he)
        clear he
        go_wp2
        go_quiet (fail)
        go_wp2
        go_ret
        exact ⟨by rw [HB.out]; rfl, ⟨_, World.drewN_drewN _ _ _⟩⟩
    · have hlt' : ¬ ((k : Int) < (l.length : Int)) := by omega
      have HB : Hid (chainB l = true) := Lib.hid (chain_iff.2 fun j h1 h2 => HK.out j h1 (by omega) h2)
      go_wp2
      go_ret
      exact ⟨by rw [HB.out]; rfl, ⟨_, rfl⟩⟩
theorem drewN_fx (w : World) (m : Nat) : Fx No w (w.drewN m) := (Fx.refl _ _).drewN m
theorem chain_any (h : EdsV w D v l) : Calls Tryz.prog 41 #[v] w fun e w' => e = .returned (.bool (chainB l)) ∧ Fx No w w' :=
  (chain_quiet h).mono fun _ _ ⟨h1, m, h2⟩ => ⟨h1, by rw [h2]; exact drewN_fx w m⟩
set_option maxRecDepth 100000 in
set_option maxHeartbeats 1000000 in
theorem round_quiet (h : EdsV w D v l) : Calls Tryz.prog 46 #[v] w fun e w' => e = .returned (.bool (roundB l)) ∧ ∃ m, w' = w.drewN m := by
  have CC : Hid (∀ n, Calls Tryz.prog 41 #[v] (w.drewN n) fun e w' => e = .returned (.bool (chainB l)) ∧ ∃ m, w' = (w.drewN n).drewN m) := Lib.hid fun n => chain_quiet (RowV.no h (drewN_fx w n))
  obtain ⟨ao, cap, rfl, hcl, hcm, hc⟩ := EdsV.facts h
  have HC := Lib.hid hc
  clear h hc
  by_cases h0 : 0 < l.length
  · have d0 : decide ((0 : Int) < (l.length : Int)) = true := decide_eq_true (by omega)
    have d0' : decide (0 < l.length) = true := decide_eq_true h0
    obtain ⟨b1, o1, e1, _, p0, p1, p2⟩ := HC.out (l.length - 1) (by omega)
    obtain ⟨b2, o2, e2, _, q0, q1, q2⟩ := HC.out 0 h0
    subst e1
    obtain ⟨rfl, rfl⟩ : b1 = b2 ∧ o1 = o2 := by simpa using e2
    cases hch : chainB l with
    | false =>
      have HB : Hid (roundB l = false) := Lib.hid (by unfold roundB; rw [hch]; simp)
      rw [hch] at CC
      rw [HB.out]
      clear p0 p1 p2 q0 q1 q2 e2 hch HB
      go_enter Tryz.func46, Tryz.ntmps46
      go_wp2
      go_quiet (first | (go_at_call 41; refine Calls.quiet_of (CC.out _)))
      go_wp2
      go_ret
      exact ⟨rfl, _, rfl⟩
    | true =>
      obtain ⟨t, ht⟩ : ∃ t, t = ((gt l (l.length - 1)).t == (gt l 0).f) := ⟨_, rfl⟩
      have HB : Hid (roundB l = t) := Lib.hid (by unfold roundB; rw [hch, decide_eq_true h0, ht]; simp)
      rw [hch] at CC
      rw [HB.out]
      obtain ⟨x1, hx1⟩ : ∃ x, x = (gt l (l.length - 1)).t := ⟨_, rfl⟩
      obtain ⟨x2, hx2⟩ : ∃ x, x = (gt l 0).f := ⟨_, rfl⟩
      rw [← hx1] at p1 ht
      rw [← hx2] at q0 ht
      obtain ⟨k, hk⟩ : ∃ k, l.length = k + 1 := ⟨l.length - 1, by omega⟩
      rw [hk, Nat.add_sub_cancel] at p1
      rw [Nat.zero_mul, Nat.add_zero] at q0
      have hW : IntKind.i64.wrap (((k + 1 : Nat) : Int) - 1) = (k : Int) := by rw [IntKind.wrap_i64]; omega
      have hW' : IntKind.i64.wrap ((k : Int) + 1 - 1) = (k : Int) := by rw [IntKind.wrap_i64]; omega
      have hz2 : (0 : Int) ≤ (k : Int) := by omega
      have hz3 : (k : Int) < (k : Int) + 1 := by omega
      have hW3 : IntKind.i64.wrap (k : Int) = (k : Int) := by rw [IntKind.wrap_i64]; omega
      rw [hk] at d0 d0' CC HC ⊢
      have ht' : (x1 == x2) = t := ht.symm
      clear p0 p2 q1 q2 e2 hch HB hx1 hx2 hk ht
      go_enter Tryz.func46, Tryz.ntmps46
      go_wp2
      go_quiet (first | (go_at_call 41; refine Calls.quiet_of (CC.out _)))
      go_wp2
      go_ret
      exact ⟨rfl, _, rfl⟩
  · have d0 : decide ((0 : Int) < (l.length : Int)) = false := decide_eq_false (by omega)
    have d0' : decide (0 < l.length) = false := decide_eq_false h0
    have HB : Hid (roundB l = false) := Lib.hid (by unfold roundB; rw [d0']; simp)
    rw [HB.out]
    go_enter Tryz.func46, Tryz.ntmps46
    go_wp2
    go_quiet (fail)
    go_wp2
    go_ret
    exact ⟨rfl, _, rfl⟩
theorem round_any (h : EdsV w D v l) : Calls Tryz.prog 46 #[v] w fun e w' => e = .returned (.bool (roundB l)) ∧ Fx No w w' :=
  (round_quiet h).mono fun _ _ ⟨h1, m, h2⟩ => ⟨h1, by rw [h2]; exact drewN_fx w m⟩
end
#print axioms round_any
end Go.Proofs.YtgacknphjeiojaaGreat

namespace Go.Proofs.YtgacknphjeiojaaGreat
open Go.RowKit
set_option linter.unusedVariables false

section
variable {w w' : World} {D S T : Nat → Prop} {b N : Nat} {L l : List Ed} {v : Value}
/-- whether a graph has edges: whatever graph, none too -/
def HasP (w : World) (gp : Option Addr) (l : List Ed) (hasP : Ed → Bool) : Prop := ∀ W, Fx No w W → ∀ x ∈ l, Calls Tryz.prog 44 #[.pointer gp, evE x] W fun r w' => r = .returned (.bool (hasP x)) ∧ Fx No W w'
theorem HasP.no {gp : Option Addr} {hasP : Ed → Bool} (h : HasP w gp l hasP) (hf : Fx No w w') : HasP w' gp l hasP := fun W hW => h W (hf.trans hW)
theorem HasP.graph (h : GraphV w D b N L) (hok : ∀ x ∈ l, x.ok) : HasP w (some ⟨b, 0, none⟩) l fun x => decide (x ∈ L) := fun W hW x hx => gHas_any (h.no hW) x (hok x hx)
theorem HasP.nil : HasP w none l fun _ => false := fun W _ x _ => nilHas_any W x
theorem walk1_any {gp : Option Addr} {hasP : Ed → Bool} {cb : Nat} (hc : w.cell? ⟨cb, 0, none⟩ = some (.pointer gp)) (h : HasP w gp l hasP) (x : Ed) (hx : x ∈ l) :
    Calls Tryz.prog 43 #[evE x, .pointer (some ⟨cb, 0, none⟩)] w fun r w' => r = .returned (.bool (!hasP x)) ∧ Fx No w w' := by
  have hF : Fx No w (w.alloc (.cells #[.int .i64 x.f, .int .i64 x.t, .int .i64 x.l] 25)) := (Fx.refl _ _).alloc _
  have hc' := hF.cell' hc (fun q => q)
  have CH := Lib.hid (h _ hF x hx)
  have HF := Lib.hid hF
  unfold evE at CH ⊢
  clear hc h hF
  go_enter Tryz.func43, Tryz.ntmps43
  go_wp2_with fail
  refine CH.out.mono ?_
  rintro r w1 ⟨rfl, hf⟩
  have HF1 := Lib.hid (HF.out.trans hf)
  clear hf CH
  go_wp2
  go_ret
  exact ⟨rfl, HF1.out⟩
set_option maxRecDepth 100000 in
set_option maxHeartbeats 1000000 in
theorem indexWalk_any {v : Value} {xs : List Ed} {c1 : Value} {p : Ed → Bool} (h : EdsV w D v xs) (hC : ∀ W, Fx No w W → ∀ x ∈ xs, Calls Tryz.prog 43 #[evE x, c1] W fun r w' => r = .returned (.bool (p x)) ∧ Fx No W w') :
    Calls Tryz.prog 65 #[v, .func (.func 43) #[] #[c1]] w fun r w' => r = .returned (.int .i64 (fIdx p xs 0)) ∧ Fx No w w' := by
  have HC := Lib.hid hC
  obtain ⟨ao, cap, rfl, hcl, hcm, hc⟩ := EdsV.facts h
  have HX := Lib.hid hc
  have H0 : Hid (fIdx p xs 0 = fIdx p (xs.drop 0) 0) := Lib.hid (by simp)
  clear hC hc h
  go_enter Tryz.func65, Tryz.ntmps65
  go_wp2
  go_loopw [8] (fun i ws => ∃ k : Nat, i = .int .i64 k ∧ k ≤ xs.length ∧ Fx No w ws ∧ Hid (fIdx p xs 0 = fIdx p (xs.drop k) k)) (fun i _ => xs.length - (intOf i).toNat)
  case atStart => exact ⟨0, rfl, Nat.zero_le _, Fx.refl _ _, H0⟩
  case round =>
    obtain ⟨k, rfl, hk, hf, HK⟩ := hrel
    have HF := Lib.hid hf
    clear hf
    by_cases hlt : k < xs.length
    · obtain ⟨bb, oo, rfl, _, p0, p1, p2⟩ := HX.out k hlt
      have HS := Lib.hid (fIdx_drop p hlt)
      have hmem := gt_mem hlt
      obtain ⟨x, hx⟩ : ∃ x, x = gt xs k := ⟨_, rfl⟩
      rw [← hx] at p0 p1 p2 HS hmem
      have k0 := HF.out.cell' p0 (fun h => h)
      have k1 := HF.out.cell' p1 (fun h => h)
      have k2 := HF.out.cell' p2 (fun h => h)
      have CX : Hid (Calls Tryz.prog 43 #[.agg #[.int .i64 x.f, .int .i64 x.t, .int .i64 x.l], c1] wr fun r w' => r = .returned (.bool (p x)) ∧ Fx No wr w') := Lib.hid (HC.out wr HF.out x hmem)
      have hk0 : (0 : Int) ≤ (k : Int) := by omega
      have hk1 : (k : Int) < (xs.length : Int) := by omega
      clear p0 p1 p2 hx
      obtain ⟨px, hpx⟩ : ∃ t, t = p x := ⟨_, rfl⟩
      rw [← hpx] at HS CX
      clear hpx
      go_wp2_with fail
      refine CX.out.mono ?_
      rintro r w1 ⟨rfl, hf⟩
      have HF1 := Lib.hid (HF.out.trans hf)
      clear hf CX
      cases px
      · go_wp2
        go_roundw
        case rel => exact ⟨k + 1, by go_num, by omega, HF1.out, Lib.hid (by rw [HK.out, HS.out]; simp)⟩
        case measure => simp [intOf]; omega
      · go_wp2
        go_ret
        refine ⟨?_, HF1.out⟩
        rw [HK.out, HS.out]; rfl
    · obtain rfl : k = xs.length := by omega
      go_wp2
      go_ret
      refine ⟨?_, HF.out⟩
      rw [HK.out]; simp [fIdx]
theorem containsWalk_any {v : Value} {xs : List Ed} {c : Value} {p : Ed → Bool} (h : EdsV w D v xs) (hC : ∀ W, Fx No w W → ∀ x ∈ xs, Calls Tryz.prog 43 #[evE x, c] W fun r w' => r = .returned (.bool (p x)) ∧ Fx No W w') :
    Calls Tryz.prog 42 #[v, .func (.func 43) #[] #[c]] w fun r w' => r = .returned (.bool (xs.any p)) ∧ Fx No w w' := by
  have H := Lib.hid h
  have HC := Lib.hid hC
  have d1 : decide (0 ≤ fIdx p xs 0) = xs.any p := fIdx_any p xs 0
  obtain ⟨z, hz⟩ : ∃ z, z = fIdx p xs 0 := ⟨_, rfl⟩
  have HZ := Lib.hid hz
  rw [← hz] at d1
  obtain ⟨t, ht⟩ : ∃ t, t = xs.any p := ⟨_, rfl⟩
  rw [← ht] at d1 ⊢
  clear h hC hz ht
  go_enter Tryz.func42, Tryz.ntmps42
  go_wp2_with fail
  refine (indexWalk_any H.out HC.out).mono ?_
  rintro r w1 ⟨rfl, hf⟩
  have HF := Lib.hid hf
  rw [← HZ.out]
  clear hf
  go_wp2
  go_ret
  exact ⟨rfl, HF.out⟩
def walkB (hasP : Ed → Bool) (l : List Ed) : Bool := chainB l && l.all hasP
set_option maxRecDepth 100000 in
set_option maxHeartbeats 1000000 in
theorem walk_any {gp : Option Addr} {hasP : Ed → Bool} (h : EdsV w D v l) (hP : HasP w gp l hasP) : Calls Tryz.prog 14 #[.pointer gp, v] w fun e w' => e = .returned (.bool (walkB hasP l)) ∧ Fx No w w' := by
  have hF : Fx No w (w.alloc (.cells #[.pointer gp] 31)) := (Fx.refl _ _).alloc _
  have HF := Lib.hid hF
  have hcb : (w.alloc (.cells #[.pointer gp] 31)).cell? ⟨w.heap.size, 0, none⟩ = some (.pointer gp) := (cell_newY rfl).trans rfl
  have CC := Lib.hid (chain_quiet (RowV.no h hF))
  have HB : Hid (walkB hasP l = (chainB l && !(l.any fun x => !hasP x))) := Lib.hid (by
    unfold walkB
    congr 1
    rw [List.not_any_eq_all_not]
    simp)
  have CW : Hid (∀ m, Calls Tryz.prog 42 #[v, .func (.func 43) #[] #[.pointer (some ⟨w.heap.size, 0, none⟩)]] ((w.alloc (.cells #[.pointer gp] 31)).drewN m) fun r w' => r = .returned (.bool (l.any fun x => !hasP x)) ∧ Fx No ((w.alloc (.cells #[.pointer gp] 31)).drewN m) w') := Lib.hid fun m =>
    containsWalk_any (RowV.no h (hF.drewN m)) fun W hW x hx => walk1_any (hW.cell' ((drewN_fx _ m).cell' hcb (fun q => q)) (fun q => q)) (hP.no ((hF.drewN m).trans hW)) x hx
  obtain ⟨ao, cap, rfl, hcl, hcm, _⟩ := EdsV.facts h
  rw [HB.out]
  obtain ⟨t, ht⟩ : ∃ t, t = chainB l := ⟨_, rfl⟩
  obtain ⟨u, hu⟩ : ∃ u, u = l.any fun x => !hasP x := ⟨_, rfl⟩
  rw [← ht] at CC ⊢
  rw [← hu] at CW ⊢
  clear h hP hF hcb HB ht hu
  go_enter Tryz.func14, Tryz.ntmps14
  go_wp2_with fail
  refine CC.out.mono ?_
  rintro e w1 ⟨rfl, m, rfl⟩
  cases t
  · go_wp2
    go_ret
    exact ⟨rfl, HF.out.drewN m⟩
  · go_wp2_with fail
    refine (CW.out m).mono ?_
    rintro e w1 ⟨rfl, hf⟩
    have HF1 := Lib.hid ((HF.out.drewN m).trans hf)
    clear hf CW
    go_wp2
    go_ret
    exact ⟨by simp, HF1.out⟩
def closedB (hasP : Ed → Bool) (l : List Ed) : Bool := roundB l && walkB hasP l
set_option maxRecDepth 100000 in
set_option maxHeartbeats 1000000 in
theorem closed_any {gp : Option Addr} {hasP : Ed → Bool} (h : EdsV w D v l) (hP : HasP w gp l hasP) : Calls Tryz.prog 17 #[.pointer gp, v] w fun e w' => e = .returned (.bool (closedB hasP l)) ∧ Fx No w w' := by
  have CR := Lib.hid (round_any h)
  have CW : Hid (∀ W, Fx No w W → Calls Tryz.prog 14 #[.pointer gp, v] W fun e w' => e = .returned (.bool (walkB hasP l)) ∧ Fx No W w') := Lib.hid fun W hW => walk_any (RowV.no h hW) (hP.no hW)
  obtain ⟨ao, cap, rfl, hcl, hcm, _⟩ := EdsV.facts h
  have HB : Hid (closedB hasP l = (roundB l && walkB hasP l)) := Lib.hid rfl
  rw [HB.out]
  obtain ⟨t, ht⟩ : ∃ t, t = roundB l := ⟨_, rfl⟩
  obtain ⟨u, hu⟩ : ∃ u, u = walkB hasP l := ⟨_, rfl⟩
  rw [← ht] at CR ⊢
  rw [← hu] at CW ⊢
  clear h hP HB ht hu
  go_enter Tryz.func17, Tryz.ntmps17
  go_wp2_with fail
  refine CR.out.mono ?_
  rintro e w1 ⟨rfl, hf⟩
  have HF := Lib.hid hf
  clear hf CR
  cases t
  · go_wp2
    go_ret
    exact ⟨rfl, HF.out⟩
  · go_wp2_with fail
    refine (CW.out _ HF.out).mono ?_
    rintro e w2 ⟨rfl, hf⟩
    have HF1 := Lib.hid (HF.out.trans hf)
    clear hf CW
    go_wp2
    go_ret
    exact ⟨by simp, HF1.out⟩
end
#print axioms closed_any
end Go.Proofs.YtgacknphjeiojaaGreat

namespace Go.Proofs.YtgacknphjeiojaaGreat
open Go.RowKit
set_option linter.unusedVariables false

/-- first, told by a bound that falls: so that it may be reckoned -/
def firstF (L : List Ed) (t N m : Nat) : Nat → Nat → Int
  | 0, _ => -1
  | f + 1, least => if least ≤ N then (if jB L t least m = true then (least : Int) else firstF L t N m f (least + 1)) else -1
theorem firstJ_fuel (L : List Ed) (t N m : Nat) : ∀ f least, N + 1 - least ≤ f → firstJ L t N m least = firstF L t N m f least
  | 0, least, h => by
    rw [firstJ, dif_neg (by omega)]
    rfl
  | f + 1, least, h => by
    rw [firstJ, firstF]
    by_cases hl : least ≤ N
    · rw [dif_pos hl, if_pos hl, firstJ_fuel L t N m f (least + 1) (by omega)]
    · rw [dif_neg hl, if_neg hl]
theorem firstJ_F (L : List Ed) (t N m least : Nat) : firstJ L t N m least = firstF L t N m (N + 1) least := firstJ_fuel L t N m (N + 1) least (by omega)
def exW : List Ed := [⟨0, 1, 0⟩, ⟨1, 2, -1⟩, ⟨1, 2, 0⟩, ⟨2, 0, 0⟩, ⟨2, 1, 0⟩, ⟨3, 3, 0⟩]
theorem exW_short : shortR exW 4 = ([⟨3, 3, 0⟩], 0) := by
  simp only [shortR, bestR, throughR, firstJ_F]
  decide
theorem exW_through : throughR exW 4 1 = ([⟨1, 2, -1⟩, ⟨2, 1, 0⟩], 0) := by
  simp only [throughR, firstJ_F]
  decide
theorem exW_path : pathR exW 4 0 3 = ([], 150) := by
  simp only [pathR, firstJ_F]
  decide
theorem exW_far : farR exW 4 0 = ([0, 2, 1, -1], 0) := by
  simp only [farR, firstJ_F]
  decide
section
variable {w : World}
set_option maxRecDepth 100000 in
set_option maxHeartbeats 4000000 in
theorem works_any (w : World) : Calls Tryz.prog 8 #[] w fun e w' => e = .returned (.bool true) ∧ Fx No w w' := by
  go_enter Tryz.func8, Tryz.ntmps8
  go_wp2_with fail
  refine (gNew_any 4 w (by omega)).mono ?_
  rintro e w1 ⟨b, rfl, hf, hg⟩
  have HF1 := Lib.hid hf
  have HG1 := Lib.hid hg
  have z1 := hf.size
  clear hf hg
  have HX1 : Hid (EdsV (w1.alloc (.cells #[.int .i64 0, .int .i64 1, .int .i64 0, .int .i64 1, .int .i64 2, .int .i64 0, .int .i64 2, .int .i64 0, .int .i64 0, .int .i64 2, .int .i64 1, .int .i64 0, .int .i64 3, .int .i64 3, .int .i64 0, .int .i64 1, .int .i64 2, .int .i64 (-1)] 25)) (Iv w1.heap.size (w1.heap.size + 1)) (.slice (some ⟨w1.heap.size, 0, none⟩) 6 6) [⟨0, 1, 0⟩, ⟨1, 2, 0⟩, ⟨2, 0, 0⟩, ⟨2, 1, 0⟩, ⟨3, 3, 0⟩, ⟨1, 2, -1⟩]) := Lib.hid (EdsV.lit [⟨0, 1, 0⟩, ⟨1, 2, 0⟩, ⟨2, 0, 0⟩, ⟨2, 1, 0⟩, ⟨3, 3, 0⟩, ⟨1, 2, -1⟩] (by decide))
  have hL : addL [] [⟨0, 1, 0⟩, ⟨1, 2, 0⟩, ⟨2, 0, 0⟩, ⟨2, 1, 0⟩, ⟨3, 3, 0⟩, ⟨1, 2, -1⟩] = exW := by decide
  go_wp2_with fail
  refine (gAdd_any (HG1.out.no ((Fx.refl No w1).alloc _)) HX1.out (fun k hk hd => by have h1 := hk.1; have h2 := hd.2; omega) (by simp only [List.mem_cons, List.not_mem_nil, or_false]; rintro x (rfl | rfl | rfl | rfl | rfl | rfl) <;> exact ⟨by unfold Ok64; decide, by unfold Ok64; decide, by unfold Ok64; decide⟩) (by decide) (by decide)).mono ?_
  rintro e w2 ⟨rfl, hf, hg⟩
  rw [hL] at hg
  have HF2 : Hid (Fx No w w2) := Lib.hid ((HF1.out.alloc _).trans' hf fun j h1 h2 => by have := h1.1; omega)
  obtain ⟨D, hD⟩ : ∃ D : Nat → Prop, GraphV w2 D b 4 exW ∧ ∀ x, D x → x < w2.heap.size := ⟨_, hg, hg.lt⟩
  have HG2 := Lib.hid hD.1
  rw [hL]
  clear hf hg HX1 hL hD HG1
  have hl6 : exW.length ≤ 999999 := by decide
  have HL6 := Lib.hid hl6
  clear hl6
  go_wp2_with fail
  refine (short_any HG2.out HL6.out).mono ?_
  rw [exW_short]
  rintro e w3 ⟨v3, rfl, hf, ho⟩
  obtain ⟨a3, c3, rfl, _, _, hc⟩ := EdsV.facts ho.row
  obtain ⟨b3, o3, rfl, _, p0, p1, p2⟩ := hc 0 (by decide)
  have HF3 := Lib.hid hf
  have HP0 : Hid (w3.cell? ⟨b3, o3, none⟩ = some (.int .i64 3)) := Lib.hid (by simpa [gt] using p0)
  have HP1 : Hid (w3.cell? ⟨b3, o3 + 1, none⟩ = some (.int .i64 3)) := Lib.hid (by simpa [gt] using p1)
  have HP2 : Hid (w3.cell? ⟨b3, o3 + 2, none⟩ = some (.int .i64 0)) := Lib.hid (by simpa [gt] using p2)
  clear hf ho hc p0 p1 p2
  go_wp2_with fail
  refine (through_any (HG2.out.no HF3.out) HL6.out 1).mono ?_
  rw [exW_through]
  rintro e w4 ⟨v4, rfl, hf, ho⟩
  obtain ⟨a4, c4, rfl, _, _, hc⟩ := EdsV.facts ho.row
  obtain ⟨b4, o4, rfl, _, _, _, p2⟩ := hc 0 (by decide)
  have HF4 := Lib.hid (HF3.out.trans hf)
  have HP0 := Lib.hid (hf.cell' HP0.out (fun q => q))
  have HP1 := Lib.hid (hf.cell' HP1.out (fun q => q))
  have HP2 := Lib.hid (hf.cell' HP2.out (fun q => q))
  have HQ2 : Hid (w4.cell? ⟨b4, o4 + 2, none⟩ = some (.int .i64 (-1))) := Lib.hid (by simpa [gt] using p2)
  clear hf ho hc p2
  go_wp2_with fail
  refine (path_any (HG2.out.no HF4.out) HL6.out 0 3).mono ?_
  rw [exW_path]
  rintro e w5 ⟨v5, rfl, hf, ho⟩
  have HF5 := Lib.hid (HF4.out.trans hf)
  have HP0 := Lib.hid (hf.cell' HP0.out (fun q => q))
  have HP1 := Lib.hid (hf.cell' HP1.out (fun q => q))
  have HP2 := Lib.hid (hf.cell' HP2.out (fun q => q))
  have HQ2 := Lib.hid (hf.cell' HQ2.out (fun q => q))
  clear hf ho
  go_wp2_with fail
  refine (far_any (HG2.out.no HF5.out) HL6.out 0).mono ?_
  rw [exW_far]
  rintro e w6 ⟨v6, rfl, hf, hr⟩
  have HF6 := Lib.hid (HF5.out.trans hf)
  have HR6 := Lib.hid hr.toInts
  have k0 := hf.cell' HP0.out (fun q => q)
  have k1 := hf.cell' HP1.out (fun q => q)
  have k2 := hf.cell' HP2.out (fun q => q)
  have k3 := hf.cell' HQ2.out (fun q => q)
  obtain ⟨a6, c6, rfl, _⟩ := IntsV.facts hr.toInts
  have HX6 : Hid (IntsV (w6.alloc (.cells #[.int .i64 0, .int .i64 2, .int .i64 1, .int .i64 (-1)] 3)) (fun _ => True) (.slice (some ⟨w6.heap.size, 0, none⟩) 4 4) [0, 2, 1, -1]) := Lib.hid (SlV.lit w6 3 #[.int .i64 0, .int .i64 2, .int .i64 1, .int .i64 (-1)] 1 4 rfl (by unfold maxLen; omega))
  clear hf hr
  go_wp2_with fail
  refine (sameInts_any (HR6.out.no ((Fx.refl No w6).alloc _)) HX6.out).mono ?_
  rintro e w7 ⟨rfl, hf⟩
  have HF7 : Hid (Fx No w w7) := Lib.hid (HF2.out.trans ((HF6.out.alloc _).trans hf))
  have hs7 : (([0, 2, 1, -1] : List Int) == [0, 2, 1, -1]) = true := rfl
  rw [hs7]
  clear hf hs7 HX6
  go_wp2
  go_ret
  exact ⟨rfl, HF7.out⟩
end
#print axioms works_any
end Go.Proofs.YtgacknphjeiojaaGreat

namespace Go.Proofs.YtgacknphjeiojaaGreat
open Go.RowKit
set_option linter.unusedVariables false

set_option maxRecDepth 100000 in
set_option maxHeartbeats 4000000 in
/-- the law CycleNone -/
theorem none_any {w : World} (ed : Ed) (hok : ed.ok) (n : Int) : Calls Tryz.prog 7 #[evE ed, .int .i64 n] w fun e w' => e = .returned (.bool true) ∧ Fx No w w' := by
  have q0 : walkB (fun _ => false) [] = true := rfl
  have q1 : walkB (fun _ => false) [ed] = false := rfl
  have q2 : closedB (fun _ => false) [] = false := rfl
  have q3 : closedB (fun _ => false) [ed] = false := by unfold closedB; rw [q1]; simp
  have Q0 := Lib.hid q0
  have Q1 := Lib.hid q1
  have Q2 := Lib.hid q2
  have Q3 := Lib.hid q3
  clear q0 q1 q2 q3
  unfold evE
  go_enter Tryz.func7, Tryz.ntmps7
  go_wp2_with fail
  refine (pathNil_any n n).mono ?_
  rintro r w1 ⟨rfl, rfl⟩
  go_wp2_with fail
  refine (throughNil_any n).mono ?_
  rintro r w1 ⟨rfl, rfl⟩
  go_wp2_with fail
  refine (shortNil_any).mono ?_
  rintro r w1 ⟨rfl, rfl⟩
  go_wp2_with fail
  refine (farNil_any n).mono ?_
  rintro r w1 ⟨rfl, rfl⟩
  go_wp2_with fail
  refine calls_hold (fun W => Fx No w W ∧ W.cell? ⟨w.heap.size, 0, none⟩ = some (.int .i64 ed.f) ∧ W.cell? ⟨w.heap.size, 1, none⟩ = some (.int .i64 ed.t) ∧ W.cell? ⟨w.heap.size, 2, none⟩ = some (.int .i64 ed.l)) ⟨(Fx.refl No _).alloc (.cells #[.int .i64 ed.f, .int .i64 ed.t, .int .i64 ed.l] 25), by go_simp, by go_simp, by go_simp⟩ ?_
  rintro w2 ⟨hf, c0, c1, c2⟩
  have HF := Lib.hid hf
  have HC := Lib.hid (And.intro c0 (And.intro c1 c2))
  clear hf c0 c1 c2
  refine (walk_any (RowV.nil _ No) HasP.nil).mono ?_
  rw [Q0.out]
  rintro r w3 ⟨rfl, hf⟩
  have HF := Lib.hid (HF.out.trans hf)
  have HC := Lib.hid (And.intro (hf.cell' HC.out.1 (fun q => q)) (And.intro (hf.cell' HC.out.2.1 (fun q => q)) (hf.cell' HC.out.2.2 (fun q => q))))
  obtain ⟨c0, c1, c2⟩ := HC.out
  clear hf
  have HX : Hid (EdsV (w3.alloc (.cells #[.int .i64 ed.f, .int .i64 ed.t, .int .i64 ed.l] 25)) (Iv w3.heap.size (w3.heap.size + 1)) (.slice (some ⟨w3.heap.size, 0, none⟩) 1 1) [ed]) := Lib.hid (EdsV.lit [ed] (by simp))
  go_wp2_with fail
  refine (walk_any HX.out HasP.nil).mono ?_
  rw [Q1.out]
  rintro r w4 ⟨rfl, hf⟩
  have hf := ((Fx.refl No w3).alloc (.cells #[.int .i64 ed.f, .int .i64 ed.t, .int .i64 ed.l] 25)).trans hf
  have HF := Lib.hid (HF.out.trans hf)
  have HC := Lib.hid (And.intro (hf.cell' HC.out.1 (fun q => q)) (And.intro (hf.cell' HC.out.2.1 (fun q => q)) (hf.cell' HC.out.2.2 (fun q => q))))
  clear hf HX c0 c1 c2
  obtain ⟨c0, c1, c2⟩ := HC.out
  have HX : Hid (EdsV (w4.alloc (.cells #[.int .i64 ed.f, .int .i64 ed.t, .int .i64 ed.l] 25)) (Iv w4.heap.size (w4.heap.size + 1)) (.slice (some ⟨w4.heap.size, 0, none⟩) 1 1) [ed]) := Lib.hid (EdsV.lit [ed] (by simp))
  go_wp2_with fail
  refine (closed_any HX.out HasP.nil).mono ?_
  rw [Q3.out]
  rintro r w5 ⟨rfl, hf⟩
  have hf := ((Fx.refl No w4).alloc (.cells #[.int .i64 ed.f, .int .i64 ed.t, .int .i64 ed.l] 25)).trans hf
  have HF := Lib.hid (HF.out.trans hf)
  clear hf HX c0 c1 c2 HC
  go_wp2_with fail
  refine (closed_any (RowV.nil _ No) HasP.nil).mono ?_
  rw [Q2.out]
  rintro r w6 ⟨rfl, hf⟩
  have HF := Lib.hid (HF.out.trans hf)
  clear hf
  go_wp2_with fail
  refine (works_any _).mono ?_
  rintro r w7 ⟨rfl, hf⟩
  have HF := Lib.hid (HF.out.trans hf)
  clear hf
  go_wp2
  go_ret
  exact ⟨rfl, HF.out⟩
#print axioms none_any
end Go.Proofs.YtgacknphjeiojaaGreat

namespace Go.Proofs.YtgacknphjeiojaaGreat
open Go.ChangeShapes Go.WideShapes Go.ChangeAt Go.Deep Go.RowKit Go.Joins
set_option linter.unusedVariables false

theorem own : ownKnob Tryz.prog.godebug = none := by kernel_rfl
theorem laidOut : laidOutB Tryz.prog = true := by kernel_rfl
/-- a slice of integers that came in -/
theorem ints_in {W : World} {x : Addr} {len cap : Nat} {zs : List Int} (hl : len ≤ cap) (hm : cap ≤ maxLen) (hz : zs.length = cap)
    (hcell : ∀ i, i < zs.length → W.cell? (x.add i) = some (.int .i64 (zs.getD i 0))) : IntsV W (fun k => k < W.heap.size) (.slice (some x) len cap) (zs.take len) := by
  have hln : (zs.take len).length = len := by simp; omega
  unfold IntsV
  rw [hln]
  refine ⟨some x, cap, rfl, hl, hm, by simp [ints]; omega, by simp, ?_⟩
  by_cases h0 : len = 0
  · subst h0; exact .inl rfl
  · have h1 : 0 < zs.length := by omega
    have hsp : x.spot = none := by simpa [Addr.add] using World.cell?_spot (hcell 0 h1)
    obtain ⟨b, o, s⟩ := x
    simp only at hsp
    subst hsp
    refine .inr ⟨b, o, rfl, World.block_lt_of_cell? W _ (by have := hcell 0 h1; exact this), fun i hi => ?_⟩
    have hi' : i < len := by simp [ints] at hi; omega
    have := hcell i (by omega)
    rw [Addr.add_lit] at this
    rw [this]
    have h2 : i < zs.length := by omega
    simp [ints, List.getD, h2, hi']
theorem ints_of {H : Type} {enc : TypeId × Value → H} {W : World} {fuel : Nat} {v : Value} {x : DataW H × List MemPlace} (hf : DataW.trod enc Tryz.prog W 0 (fun _ => true) true fuel 23 [v] = some x) :
    ∃ zs, IntsV W (fun k => k < W.heap.size) v zs := by
  rcases open_ints Tryz.underlying23 Tryz.underlying3 (by kernel_rfl) hf with ⟨hcs, _⟩ | ⟨a, l, c, zs, hcs, _, hl, hm, hz, _, hcell, hwz⟩
  · simp only [List.cons.injEq, and_true] at hcs
    subst hcs
    exact ⟨[], SlV.nil _ _ _⟩
  · simp only [List.cons.injEq, and_true] at hcs
    subst hcs
    exact ⟨zs.take l, ints_in hl hm (by simpa using hz) hcell⟩
set_option maxRecDepth 100000 in
/-- an edge that came in -/
theorem edge_of {H : Type} {enc : TypeId × Value → H} {W : World} {base : Nat} {v : Value} {d : DataW H} {p : List MemPlace} (hv : Value.okWide Tryz.prog W .any base 25 v)
    (h : DataW.Trod enc Tryz.prog W 0 (fun _ => true) true 25 v d p) : ∃ e : Ed, v = evE e ∧ e.ok := by
  obtain ⟨c0, c1, c2, y0, y1, y2, m, rfl, _, _, h0, h1, h2⟩ := open_agg3 Tryz.underlying25 (by kernel_rfl) (by kernel_rfl) hv h
  obtain ⟨z0, e0, _, w0⟩ := DataW.trod_int Tryz.underlying3 h0
  obtain ⟨z1, e1, _, w1⟩ := DataW.trod_int Tryz.underlying3 h1
  obtain ⟨z2, e2, _, w2⟩ := DataW.trod_int Tryz.underlying3 h2
  simp only [List.cons.injEq, and_true] at e0 e1 e2
  subst e0 e1 e2
  exact ⟨⟨z0, z1, z2⟩, rfl, ok_wf w0, ok_wf w1, ok_wf w2⟩
#print axioms edge_of
end Go.Proofs.YtgacknphjeiojaaGreat
