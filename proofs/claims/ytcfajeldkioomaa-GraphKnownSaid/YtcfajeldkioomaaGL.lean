/- graph: slices.IndexFunc, slices.ContainsFunc at edges; the test that Add makes. -/
import Derived.Test.YtcfajeldkioomaaGK
namespace Go.Proofs.Ytcfajeldkioomaa
open Go.RowKit
set_option linter.unusedVariables false

/-- where the first one is that is so; -1: none -/
def fIdx (p : Ed → Bool) : List Ed → Nat → Int
  | [], _ => -1
  | x :: l, k => if p x then (k : Int) else fIdx p l (k + 1)
theorem cell?_alloc_some' {W : World} {a : Addr} {v : Value} (h : W.cell? a = some v) (o : Obj) : (W.alloc o).cell? a = some v := ((Fx.refl No W).alloc o).cell' h (fun h => h)
theorem fIdx_drop (p : Ed → Bool) {l : List Ed} {k : Nat} (hk : k < l.length) : fIdx p (l.drop k) k = if p (gt l k) then (k : Int) else fIdx p (l.drop (k + 1)) (k + 1) := by
  rw [List.drop_eq_getElem_cons hk]
  simp [fIdx, gt, hk]
theorem fIdx_any (p : Ed → Bool) : ∀ (l : List Ed) (k : Nat), decide (0 ≤ fIdx p l k) = l.any p
  | [], k => by simp [fIdx]
  | x :: l, k => by
    unfold fIdx
    rw [List.any_cons]
    cases p x
    · simpa using fIdx_any p l (k + 1)
    · simp
section
variable {w w' : World} {D S T : Nat → Prop} {b n : Nat} {L : List Ed}
set_option maxRecDepth 100000 in
set_option maxHeartbeats 1000000 in
theorem indexFunc_any {v : Value} {xs : List Ed} {c : Value} {p : Ed → Bool} (h : EdsV w D v xs) (hC : ∀ W, Fx No w W → ∀ x ∈ xs, Calls Try.prog 48 #[evE x, c] W fun r w' => r = .returned (.bool (p x)) ∧ Fx No W w') :
    Calls Try.prog 61 #[v, .func (.func 48) #[] #[c]] w fun r w' => r = .returned (.int .i64 (fIdx p xs 0)) ∧ Fx No w w' := by
  have HC := Lib.hid hC
  obtain ⟨ao, cap, rfl, hcl, hcm, hc⟩ := EdsV.facts h
  have HX := Lib.hid hc
  have H0 : Hid (fIdx p xs 0 = fIdx p (xs.drop 0) 0) := Lib.hid (by simp)
  clear hC hc h
  go_enter Try.func61, Try.ntmps61
  go_wp2
  go_loopw [8] (fun i ws => ∃ k : Nat, i = .int .i64 k ∧ k ≤ xs.length ∧ Fx No w ws ∧ Hid (fIdx p xs 0 = fIdx p (xs.drop k) k)) (fun i _ => xs.length - (intOf i).toNat)
  case atStart => exact ⟨0, rfl, Nat.zero_le _, Fx.refl _ _, H0⟩
  case round =>
    obtain ⟨k, rfl, hk, hf, HK⟩ := hrel
    have HF := Lib.hid hf
    clear hf
    by_cases hlt : k < xs.length
    · obtain ⟨bb, oo, rfl, _, p0, p1, p2⟩ := HX.out k hlt
      have HS := Lib.hid (fIdx_drop p hlt)
      have hmem := gt_mem hlt
      obtain ⟨x, hx⟩ : ∃ x, x = gt xs k := ⟨_, rfl⟩
      rw [← hx] at p0 p1 p2 HS hmem
      have k0 := HF.out.cell' p0 (fun h => h)
      have k1 := HF.out.cell' p1 (fun h => h)
      have k2 := HF.out.cell' p2 (fun h => h)
      have CX : Hid (Calls Try.prog 48 #[.agg #[.int .i64 x.f, .int .i64 x.t, .int .i64 x.l], c] wr fun r w' => r = .returned (.bool (p x)) ∧ Fx No wr w') := Lib.hid (HC.out wr HF.out x hmem)
      have hk0 : (0 : Int) ≤ (k : Int) := by omega
      have hk1 : (k : Int) < (xs.length : Int) := by omega
      clear p0 p1 p2 hx
      obtain ⟨px, hpx⟩ : ∃ t, t = p x := ⟨_, rfl⟩
      rw [← hpx] at HS CX
      clear hpx
      go_wp2_with fail
      refine CX.out.mono ?_
      rintro r w1 ⟨rfl, hf⟩
      have HF1 := Lib.hid (HF.out.trans hf)
      clear hf CX
      cases px
      · go_wp2
        go_roundw
        case rel => exact ⟨k + 1, by go_num, by omega, HF1.out, Lib.hid (by rw [HK.out, HS.out]; simp)⟩
        case measure => simp [intOf]; omega
      · go_wp2
        go_ret
        refine ⟨?_, HF1.out⟩
        rw [HK.out, HS.out]; rfl
    · obtain rfl : k = xs.length := by omega
      go_wp2
      go_ret
      refine ⟨?_, HF.out⟩
      rw [HK.out]; simp [fIdx]
theorem containsFunc_any {v : Value} {xs : List Ed} {c : Value} {p : Ed → Bool} (h : EdsV w D v xs) (hC : ∀ W, Fx No w W → ∀ x ∈ xs, Calls Try.prog 48 #[evE x, c] W fun r w' => r = .returned (.bool (p x)) ∧ Fx No W w') :
    Calls Try.prog 47 #[v, .func (.func 48) #[] #[c]] w fun r w' => r = .returned (.bool (xs.any p)) ∧ Fx No w w' := by
  have H := Lib.hid h
  have HC := Lib.hid hC
  have d1 : decide (0 ≤ fIdx p xs 0) = xs.any p := fIdx_any p xs 0
  obtain ⟨z, hz⟩ : ∃ z, z = fIdx p xs 0 := ⟨_, rfl⟩
  have HZ := Lib.hid hz
  rw [← hz] at d1
  obtain ⟨t, ht⟩ : ∃ t, t = xs.any p := ⟨_, rfl⟩
  rw [← ht] at d1 ⊢
  clear h hC hz ht
  go_enter Try.func47, Try.ntmps47
  go_wp2_with fail
  refine (indexFunc_any H.out HC.out).mono ?_
  rintro r w1 ⟨rfl, hf⟩
  have HF := Lib.hid hf
  rw [← HZ.out]
  clear hf
  go_wp2
  go_ret
  exact ⟨rfl, HF.out⟩
/-- an edge has a node that is not there -/
def badE (n : Nat) (x : Ed) : Bool := !(decide (0 ≤ x.f ∧ x.f < (n : Int)) && decide (0 ≤ x.t ∧ x.t < (n : Int)))
set_option maxRecDepth 100000 in
set_option maxHeartbeats 1000000 in
theorem add1_any {gb : Nat} (h : GraphV w D b n L) (hg : w.cell? ⟨gb, 0, none⟩ = some (.pointer (some ⟨b, 0, none⟩))) (x : Ed) :
    Calls Try.prog 48 #[evE x, .pointer (some ⟨gb, 0, none⟩)] w fun r w' => r = .returned (.bool (badE n x)) ∧ Fx No w w' := by
  have H := Lib.hid h
  have hgb := World.block_lt_of_cell? w _ hg
  have hgb : gb < w.heap.size := hgb
  have HG := Lib.hid hg
  obtain ⟨t1, ht1⟩ : ∃ t, t = decide (0 ≤ x.f ∧ x.f < (n : Int)) := ⟨_, rfl⟩
  obtain ⟨t2, ht2⟩ : ∃ t, t = decide (0 ≤ x.t ∧ x.t < (n : Int)) := ⟨_, rfl⟩
  have HB : Hid (badE n x = !(t1 && t2)) := Lib.hid (by rw [ht1, ht2]; rfl)
  have C1 : Hid (∀ W, Fx No w W → Calls Try.prog 49 #[.pointer (some ⟨b, 0, none⟩), .int .i64 x.f] W fun r w' => r = .returned (.bool t1) ∧ W = w') := Lib.hid fun W hf => by rw [ht1]; exact gNode_any (H.out.no hf) x.f
  have C2 : Hid (∀ W, Fx No w W → Calls Try.prog 49 #[.pointer (some ⟨b, 0, none⟩), .int .i64 x.t] W fun r w' => r = .returned (.bool t2) ∧ W = w') := Lib.hid fun W hf => by rw [ht2]; exact gNode_any (H.out.no hf) x.t
  have g0 := cell?_alloc_some' hg (.cells #[.int .i64 x.f, .int .i64 x.t, .int .i64 x.l] 25)
  have HF : Hid (Fx No w (w.alloc (.cells #[.int .i64 x.f, .int .i64 x.t, .int .i64 x.l] 25))) := Lib.hid ((Fx.refl No w).alloc _)
  unfold evE
  rw [HB.out]
  clear h ht1 ht2 hg
  go_enter Try.func48, Try.ntmps48
  go_wp2_with fail
  refine (C1.out _ HF.out).mono ?_
  rintro r w1 ⟨rfl, rfl⟩
  cases t1
  · go_wp2
    go_ret
    exact ⟨rfl, HF.out⟩
  · go_wp2_with fail
    refine (C2.out _ HF.out).mono ?_
    rintro r w1 ⟨rfl, rfl⟩
    go_wp2
    go_ret
    exact ⟨by simp, HF.out⟩
end
#print axioms containsFunc_any
#print axioms add1_any
#print axioms indexFunc_any
end Go.Proofs.Ytcfajeldkioomaa
