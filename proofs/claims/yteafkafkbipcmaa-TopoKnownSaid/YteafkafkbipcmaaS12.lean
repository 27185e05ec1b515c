/- The reference's Long (alibiref14). | The law's walks: is there a closed walk? | The law's walks, walked. | The reference's All (alibiref14). | The reference's All (alibiref14): its walk. -/
import Derived.Test.YteafkafkbipcmaaS11
import Derived.StillTailTactics
import Derived.Deep.DeepCutAuto
import Derived.Test.YteafkafkbipcmaaS8
import Derived.Test.YteafkafkbipcmaaM1
import Derived.Test.YteafkafkbipcmaaS10

namespace Go.Proofs.Yteafkafkbipcmaa
open Go.RowKit
set_option linter.unusedVariables false
attribute [go_sem] max_ints

def lngS (L : List Ed) (k i : Nat) (l : List Ed) : Nat := l.foldl (fun m x => if x.f = (i : Int) then max m (1 + lngF L k x.t.toNat) else m) 0
theorem lngS_snoc {L l : List Ed} {k i : Nat} {x : Ed} : lngS L k i (l ++ [x]) = if x.f = (i : Int) then max (lngS L k i l) (1 + lngF L k x.t.toNat) else lngS L k i l := by simp [lngS]
theorem lngS_all (L : List Ed) (k i : Nat) : lngS L k i L = lngF L (k + 1) i := rfl
section
variable {D : Nat → Prop} {v : Value} {L : List Ed} {N K : Nat} {ord : List Nat} {rd : Nat → Int}
set_option maxRecDepth 100000 in
set_option maxHeartbeats 8000000 in
theorem refLong_any (hk : KF L N ord rd) (hL : NdE L N) (hw : ∀ v, v < N → v ∈ ord) (hK : ∀ v, v < N → rd v < (K : Int)) (hKN : K ≤ 1000) (hl : L.length ≤ 1000) : ∀ (k i : Nat) (w : World), EdsV w D v L → i < N → (K : Int) ≤ rd i + k + 1 →
    Calls Try.prog 26 #[.agg #[.int .i64 (N : Nat), v], .int .i64 (i : Nat)] w fun e w' => e = .returned (.int .i64 (lngF L (k + 1) i : Nat)) ∧ Fx No w w' := by
  intro k
  induction k with
  | zero =>
    intro i w h hi hfu
    have hno : ∀ x ∈ L, x.f ≠ (i : Int) := fun x hx e => by
      obtain ⟨⟨x1, x2⟩, x3, x4⟩ := hL x hx
      have h1 := hk.rdS x hx (hw _ (by omega))
      have h2 := hK x.t.toNat (by omega)
      have e2 : x.f.toNat = i := by omega
      rw [e2] at h1
      omega
    have HNo := Lib.hid hno
    have HZ : Hid (lngF L (0 + 1) i = 0) := Lib.hid (Nat.le_zero.1 (lng_le fun x hx hf => absurd hf (hno x hx)))
    obtain ⟨ao, cap, rfl, _, _, hc⟩ := h.facts
    have HC := Lib.hid hc
    clear h hc hno hfu hw hK
    go_enter Try.func26, Try.ntmps26
    go_wp2_with fail
    refine wp_hold (fun W => Fx No w W ∧ W.cell? ⟨w.heap.size, 0, none⟩ = some (.int .i64 (N : Nat)) ∧ W.cell? ⟨w.heap.size, 1, none⟩ = some (.slice ao L.length cap)) ⟨(Fx.refl No w).alloc _, by go_simp, by go_simp⟩ ?_
    rintro w1 ⟨hF1, c0, c1⟩
    obtain ⟨cb, hcb⟩ : ∃ e, e = w.heap.size := ⟨_, rfl⟩
    rw [← hcb] at c0 c1 ⊢
    have HF1 := Lib.hid hF1
    have HC1 := Lib.hid c1
    clear hF1 c0 hcb
    go_loopw [5, 6] (fun m j ws => ∃ q : Nat, m = .int .i64 0 ∧ j = .int .i64 (q : Nat) ∧ q ≤ L.length ∧ ws = w1) (fun _ j _ => L.length - (intOf j).toNat)
    case atStart => exact ⟨0, rfl, rfl, by omega, rfl⟩
    case round =>
      obtain ⟨q, rfl, rfl, hq, rfl⟩ := hrel
      by_cases hqL : q < L.length
      · obtain ⟨bb, oo, rfl, _, p0, p1, _⟩ := HC.out q hqL
        have p0 := HF1.out.cell' p0 (fun h => h)
        obtain ⟨xf, hxf⟩ : ∃ z, z = (gt L q).f := ⟨_, rfl⟩
        rw [← hxf] at p0
        have hd : (xf == (i : Int)) = false := by
          have := HNo.out _ (gt_mem hqL)
          rw [hxf]; simpa using this
        have q0 : (0 : Int) ≤ (q : Int) := by omega
        have q1 : (q : Int) < (L.length : Int) := by omega
        clear p1 hxf
        go_wp2
        go_roundw
        case rel => exact ⟨q + 1, rfl, by go_num, by omega, trivial⟩
        case measure => simp [intOf]; omega
      · have q1 : ¬ (q : Int) < (L.length : Int) := by omega
        go_wp2
        go_ret
        exact ⟨by rw [HZ.out]; rfl, HF1.out⟩
  | succ k ih =>
    intro i w h hi hfu
    have HIh := Lib.hid ih
    have HUp : Hid (∀ x ∈ L, x.f = (i : Int) → x.t.toNat < N ∧ (K : Int) ≤ rd x.t.toNat + k + 1 ∧ lngF L (k + 1) x.t.toNat ≤ 1000) := Lib.hid fun x hx e => by
      obtain ⟨⟨x1, x2⟩, x3, x4⟩ := hL x hx
      have h1 := hk.rdS x hx (hw _ (by omega))
      have h2 := lng_up hk hL hw hK (k + 1) x.t.toNat (by omega)
      have h3 := hk.rd0 x.t.toNat (hw _ (by omega))
      have e2 : x.f.toNat = i := by omega
      rw [e2] at h1
      exact ⟨by omega, by omega, by omega⟩
    have HNd := Lib.hid hL
    have HV := Lib.hid h
    obtain ⟨ao, cap, rfl, _, _, hc⟩ := h.facts
    have HC := Lib.hid hc
    clear h hc hfu hw hK ih
    go_enter Try.func26, Try.ntmps26
    go_wp2_with fail
    refine wp_hold (fun W => Fx No w W ∧ W.cell? ⟨w.heap.size, 0, none⟩ = some (.int .i64 (N : Nat)) ∧ W.cell? ⟨w.heap.size, 1, none⟩ = some (.slice ao L.length cap)) ⟨(Fx.refl No w).alloc _, by go_simp, by go_simp⟩ ?_
    rintro w1 ⟨hF1, c0, c1⟩
    obtain ⟨cb, hcb⟩ : ∃ e, e = w.heap.size := ⟨_, rfl⟩
    rw [← hcb] at c0 c1 ⊢
    have HF1 := Lib.hid hF1
    have HC0 := Lib.hid c0
    have HC1 := Lib.hid c1
    clear hF1 c0 c1 hcb
    go_loopw [5, 6] (fun m j ws => ∃ q : Nat, m = .int .i64 (lngS L (k + 1) i (L.take q) : Nat) ∧ j = .int .i64 (q : Nat) ∧ q ≤ L.length ∧ lngS L (k + 1) i (L.take q) ≤ 1001 ∧ Fx No w1 ws) (fun _ j _ => L.length - (intOf j).toNat)
    case atStart => exact ⟨0, rfl, rfl, by omega, by simp [lngS], Fx.refl _ _⟩
    case round =>
      obtain ⟨q, rfl, rfl, hq, hm, hf⟩ := hrel
      have HF := Lib.hid hf
      have c0 := hf.cell' HC0.out (fun q => q)
      have c1 := hf.cell' HC1.out (fun q => q)
      obtain ⟨m, hme⟩ : ∃ m, m = lngS L (k + 1) i (L.take q) := ⟨_, rfl⟩
      rw [← hme] at hm ⊢
      by_cases hqL : q < L.length
      · obtain ⟨bb, oo, rfl, _, p0, p1, _⟩ := HC.out q hqL
        have p0 := hf.cell' (HF1.out.cell' p0 (fun h => h)) (fun h => h)
        have p1 := hf.cell' (HF1.out.cell' p1 (fun h => h)) (fun h => h)
        obtain ⟨x, hx⟩ : ∃ x, x = gt L q := ⟨_, rfl⟩
        have hxm : x ∈ L := by rw [hx]; exact gt_mem hqL
        have HS : Hid (lngS L (k + 1) i (L.take (q + 1)) = if x.f = (i : Int) then max m (1 + lngF L (k + 1) x.t.toNat) else m) := Lib.hid (by rw [take_gt hqL, ← hx, hme]; exact lngS_snoc)
        rw [← hx] at p0 p1
        have q0 : (0 : Int) ≤ (q : Int) := by omega
        have q1 : (q : Int) < (L.length : Int) := by omega
        have hup := HUp.out x hxm
        obtain ⟨_, x3, x4⟩ := HNd.out x hxm
        obtain ⟨t, ht⟩ := Int.eq_ofNat_of_zero_le x3
        rw [ht] at p1 HS hup
        rw [Int.toNat_natCast] at HS hup
        obtain ⟨xf, hxf⟩ : ∃ z, z = x.f := ⟨_, rfl⟩
        rw [← hxf] at p0 HS hup
        clear hf hme hx hxm ht hxf x3 x4
        by_cases he : xf = (i : Int)
        · have hd : (xf == (i : Int)) = true := by simp [he]
          obtain ⟨u1, u2, u3⟩ := hup he
          rw [if_pos he] at HS
          have HIt : Hid (∀ W, Fx No wr W → Calls Try.prog 26 #[.agg #[.int .i64 (N : Nat), .slice (some ⟨bb, oo, none⟩) L.length cap], .int .i64 (t : Nat)] W fun e w' => e = .returned (.int .i64 (lngF L (k + 1) t : Nat)) ∧ Fx No W w') := Lib.hid fun W hW => HIh.out t W ((HV.out.no HF1.out).no (HF.out.trans hW)) u1 u2
          obtain ⟨g, hg⟩ : ∃ g, g = lngF L (k + 1) t := ⟨_, rfl⟩
          rw [← hg] at HS u3 HIt
          have hw1 : IntKind.i64.wrap (1 + (g : Int)) = 1 + (g : Int) := by rw [IntKind.wrap_i64]; omega
          clear he hg hup
          have g0 : ∀ W, Fx No wr W → W.cell? ⟨cb, 0, none⟩ = some (.int .i64 (N : Nat)) := fun W h => h.cell' c0 (fun q => q)
          have g1 : ∀ W, Fx No wr W → W.cell? ⟨cb, 1, none⟩ = some (.slice (some ⟨bb, oo, none⟩) L.length cap) := fun W h => h.cell' c1 (fun q => q)
          have g2 : ∀ W, Fx No wr W → W.cell? ⟨bb, oo + q * 3 + 1, none⟩ = some (.int .i64 (t : Int)) := fun W h => h.cell' p1 (fun q => q)
          go_wp2_with fail
          refine wp_region_H (fun W => Fx No wr W) (by kernel_rfl) ((Fx.refl _ _).drew) ?_
          intro hS
          refine wpAnyH_take (i := 0) (v := ?_) rfl (by kernel_rfl) (by kernel_rfl) (by kernel_rfl) (fun _ _ _ h => h) (Or.inl ⟨by rfl, ?_⟩) hS ?_
          rotate_left
          · (intro W hs; go_simp; first | done | with_reducible rfl)
          try simp only [Act.put, List.getElem_toArray, List.getElem_cons_zero, List.getElem_cons_succ, List.setIfInBounds_toArray, List.set_cons_zero, List.set_cons_succ]
          refine wpAnyH_take (i := 1) (v := ?_) rfl (by kernel_rfl) (by kernel_rfl) (by kernel_rfl) (fun _ _ _ h => h) (Or.inl ⟨by rfl, ?_⟩) hS ?_
          rotate_left
          · (intro W hs; go_simp; first | done | with_reducible rfl)
          try simp only [Act.put, List.getElem_toArray, List.getElem_cons_zero, List.getElem_cons_succ, List.setIfInBounds_toArray, List.set_cons_zero, List.set_cons_succ]
          refine wpAnyH_take (i := 2) (v := ?_) rfl (by kernel_rfl) (by kernel_rfl) (by kernel_rfl) (fun _ _ _ h => h) (Or.inl ⟨by rfl, ?_⟩) hS ?_
          rotate_left
          · (intro W hs; go_simp; first | done | with_reducible rfl)
          try simp only [Act.put, List.getElem_toArray, List.getElem_cons_zero, List.getElem_cons_succ, List.setIfInBounds_toArray, List.set_cons_zero, List.set_cons_succ]
          refine wpAnyH_take (i := 3) (v := ?_) rfl (by kernel_rfl) (by kernel_rfl) (by kernel_rfl) (fun _ _ _ h => h) (Or.inl ⟨by rfl, ?_⟩) hS ?_
          rotate_left
          · (intro W hs; go_simp; first | done | with_reducible rfl)
          try simp only [Act.put, List.getElem_toArray, List.getElem_cons_zero, List.getElem_cons_succ, List.setIfInBounds_toArray, List.set_cons_zero, List.set_cons_succ]
          refine wpAnyH_take (i := 4) (v := ?_) rfl (by kernel_rfl) (by kernel_rfl) (by kernel_rfl) (fun _ _ _ h => h) (Or.inl ⟨by rfl, ?_⟩) hS ?_
          rotate_left
          · (intro W hs; go_simp; first | done | with_reducible rfl)
          try simp only [Act.put, List.getElem_toArray, List.getElem_cons_zero, List.getElem_cons_succ, List.setIfInBounds_toArray, List.set_cons_zero, List.set_cons_succ]
          refine wpAnyH_take (i := 5) (v := ?_) rfl (by kernel_rfl) (by kernel_rfl) (by kernel_rfl) (fun _ _ _ h => h) (Or.inl ⟨by rfl, ?_⟩) hS ?_
          rotate_left
          · (intro W hs; go_simp; first | done | with_reducible rfl)
          try simp only [Act.put, List.getElem_toArray, List.getElem_cons_zero, List.getElem_cons_succ, List.setIfInBounds_toArray, List.set_cons_zero, List.set_cons_succ]
          refine wpAnyH_take (i := 6) (v := ?_) rfl (by kernel_rfl) (by kernel_rfl) (by kernel_rfl) (fun _ _ _ h => h) (Or.inl ⟨by rfl, ?_⟩) hS ?_
          rotate_left
          · (intro W hs; go_simp; first | done | with_reducible rfl)
          try simp only [Act.put, List.getElem_toArray, List.getElem_cons_zero, List.getElem_cons_succ, List.setIfInBounds_toArray, List.set_cons_zero, List.set_cons_succ]
          refine wpAnyH_take (i := 7) (v := ?_) rfl (by kernel_rfl) (by kernel_rfl) (by kernel_rfl) (fun _ _ _ h => h) (Or.inl ⟨by rfl, ?_⟩) hS ?_
          rotate_left
          · (intro W hs; go_simp; first | done | with_reducible rfl)
          try simp only [Act.put, List.getElem_toArray, List.getElem_cons_zero, List.getElem_cons_succ, List.setIfInBounds_toArray, List.set_cons_zero, List.set_cons_succ]
          refine wpH_one (i := 8) (by kernel_rfl) rfl (fun Kk hK => ?_)
          go_simp
          refine (HIt.out _ hS).mono ?_
          rintro e y1 ⟨rfl, hfi⟩
          refine hK.out _ _ (hS.trans hfi) (fun hS' => ?_)
          clear hK Kk hS hfi
          have hS := hS'
          clear hS'
          try simp only [Act.put, List.getElem_toArray, List.getElem_cons_zero, List.getElem_cons_succ, List.setIfInBounds_toArray, List.set_cons_zero, List.set_cons_succ]
          refine wpAnyH_take (i := 9) (v := ?_) rfl (by kernel_rfl) (by kernel_rfl) (by kernel_rfl) (fun _ _ _ h => h) (Or.inl ⟨by rfl, ?_⟩) hS ?_
          rotate_left
          · (intro W hs; go_simp; first | done | with_reducible rfl)
          try simp only [Act.put, List.getElem_toArray, List.getElem_cons_zero, List.getElem_cons_succ, List.setIfInBounds_toArray, List.set_cons_zero, List.set_cons_succ]
          refine wpAnyH_take (i := 10) (v := ?_) rfl (by kernel_rfl) (by kernel_rfl) (by kernel_rfl) (fun _ _ _ h => h) (Or.inl ⟨by rfl, ?_⟩) hS ?_
          rotate_left
          · (intro W hs; go_simp; first | done | with_reducible rfl)
          try simp only [Act.put, List.getElem_toArray, List.getElem_cons_zero, List.getElem_cons_succ, List.setIfInBounds_toArray, List.set_cons_zero, List.set_cons_succ]
          refine wpAnyH_take (i := 11) (v := ?_) rfl (by kernel_rfl) (by kernel_rfl) (by kernel_rfl) (fun _ _ _ h => h) (Or.inl ⟨by rfl, ?_⟩) hS ?_
          rotate_left
          · (intro W hs; go_simp; first | done | with_reducible rfl)
          try simp only [Act.put, List.getElem_toArray, List.getElem_cons_zero, List.getElem_cons_succ, List.setIfInBounds_toArray, List.set_cons_zero, List.set_cons_succ]
          refine wpAnyH_done (by kernel_rfl) ?_ _
          have HF3 := Lib.hid (HF.out.trans hS)
          clear hS g0 g1 g2 p0 p1
          go_wp2
          go_roundw
          case rel => exact ⟨q + 1, by rw [HS.out]; go_num, by go_num, by omega, by rw [HS.out]; omega, HF3.out⟩
          case measure => simp [intOf]; omega
        · have hd : (xf == (i : Int)) = false := by simp [he]
          rw [if_neg he] at HS
          clear he hup
          go_wp2
          go_roundw
          case rel => exact ⟨q + 1, by rw [HS.out], by go_num, by omega, by rw [HS.out]; omega, HF.out⟩
          case measure => simp [intOf]; omega
      · have q1 : ¬ (q : Int) < (L.length : Int) := by omega
        have hqe : q = L.length := by omega
        have HE : Hid (m = lngF L (k + 1 + 1) i) := Lib.hid (by rw [hme, hqe, List.take_length]; rfl)
        have HFE := Lib.hid (HF1.out.trans hf)
        clear hf hme hqe hqL
        go_wp2
        go_ret
        exact ⟨by rw [← HE.out]; rfl, HFE.out⟩
end
#print axioms refLong_any
end Go.Proofs.Yteafkafkbipcmaa

namespace Go.Proofs.Yteafkafkbipcmaa
open Go.RowKit
set_option linter.unusedVariables false

/-- where the search from i stands: t rounds are done, and k edges -/
structure AtS (L : List Ed) (N i t k : Nat) (f : Nat → Bool) : Prop where
  sound : ∀ j, j < N → f j = true → ∃ s, 1 ≤ s ∧ Wk L s i j
  full : ∀ s j, 1 ≤ s → s ≤ t → j < N → Wk L s i j → f j = true
  more : ∀ x ∈ L.take k, (x.f = (i : Int) ∨ ∃ s, 1 ≤ s ∧ s ≤ t ∧ Wk L s i x.f.toNat) → f x.t.toNat = true
theorem AtS.start (L : List Ed) (N i : Nat) : AtS L N i 0 0 (fun _ => false) := ⟨fun j hj h => by simp at h, fun s j h1 h2 => by omega, fun x hx => by simp at hx⟩
section
variable {L : List Ed} {N i t k : Nat} {f : Nat → Bool}
theorem AtS.round (h : AtS L N i t L.length f) (hL : NdE L N) : AtS L N i (t + 1) 0 f := by
  refine ⟨h.sound, fun s j h1 h2 hj hw => ?_, fun x hx => by simp at hx⟩
  by_cases e : s ≤ t
  · exact h.full s j h1 e hj hw
  · obtain rfl : s = t + 1 := by omega
    obtain ⟨x, hx, ht, hw2⟩ := hw
    have h3 := h.more x (by rw [List.take_length]; exact hx)
    obtain ⟨⟨x1, x2⟩, x3, x4⟩ := hL x hx
    have e2 : x.t.toNat = j := by omega
    rw [e2] at h3
    refine h3 ?_
    cases t with
    | zero => have e3 : i = x.f.toNat := hw2
              exact .inl (by omega)
    | succ t => exact .inr ⟨t + 1, by omega, Nat.le_refl _, hw2⟩
theorem AtS.skip (h : AtS L N i t k f) (hk : k < L.length) (hL : NdE L N) (h1 : (gt L k).f ≠ (i : Int)) (h2 : f (gt L k).f.toNat = false) : AtS L N i t (k + 1) f := by
  refine ⟨h.sound, h.full, fun x hx hc => ?_⟩
  rw [take_gt hk] at hx
  rcases List.mem_append.1 hx with q | q
  · exact h.more x q hc
  · rw [List.mem_singleton] at q
    subst q
    rcases hc with e | ⟨s, s1, s2, s3⟩
    · exact absurd e h1
    · have := (hL _ (gt_mem hk)).1
      have := h.full s _ s1 s2 (by omega) s3
      rw [h2] at this; simp at this
theorem AtS.put (h : AtS L N i t k f) (hk : k < L.length) (hL : NdE L N) (h1 : (gt L k).f = (i : Int) ∨ f (gt L k).f.toNat = true) : AtS L N i t (k + 1) (fun j => if j = (gt L k).t.toNat then true else f j) := by
  have hx := hL _ (gt_mem hk)
  refine ⟨fun j hj hf => ?_, fun s j a b c d => ?_, fun x hx2 hc => ?_⟩
  · by_cases e : j = (gt L k).t.toNat
    · rcases h1 with q | q
      · exact ⟨1, Nat.le_refl _, gt L k, gt_mem hk, by omega, by show i = _; omega⟩
      · obtain ⟨s, s1, s2⟩ := h.sound _ (by omega) q
        exact ⟨s + 1, by omega, gt L k, gt_mem hk, by omega, s2⟩
    · simp only [if_neg e] at hf
      exact h.sound j hj hf
  · by_cases e : j = (gt L k).t.toNat
    · simp [e]
    · simp only [if_neg e]; exact h.full s j a b c d
  · by_cases e : x.t.toNat = (gt L k).t.toNat
    · simp [e]
    · simp only [if_neg e]
      rw [take_gt hk] at hx2
      rcases List.mem_append.1 hx2 with q | q
      · exact h.more x q hc
      · rw [List.mem_singleton] at q; rw [q] at e; exact absurd rfl e
end
/-- a whole order: no closed walk -/
theorem whole_no {L : List Ed} {N : Nat} {ord : List Nat} {rd : Nat → Int} (hk : KF L N ord rd) (hL : NdE L N) (hw : (srt L N).length = N) {i s : Nat} (hi : i < N) (h1 : 1 ≤ s) (h : Wk L s i i) : False := by
  have ho : i ∈ ord := (hk.same i).2 (all_taken (srt_ok L N).2.1 (srt_ok L N).2.2.1 (by omega) i hi)
  have := Wk.rd hk hL hi ho h
  omega
#print axioms AtS.round
#print axioms AtS.put
#print axioms whole_no
end Go.Proofs.Yteafkafkbipcmaa

namespace Go.Proofs.Yteafkafkbipcmaa
open Go.RowKit
set_option linter.unusedVariables false

section
variable {w : World} {D : Nat → Prop} {v : Value} {L : List Ed} {N : Nat}
set_option maxRecDepth 100000 in
set_option maxHeartbeats 8000000 in
theorem walks_any (h : EdsV w D v L) (hL : NdE L N) (hl : L.length ≤ 1000) (hN : N ≤ 1000) (hno : (srt L N).length = N → ∀ i s, i < N → 1 ≤ s → ¬ Wk L s i i) :
    Calls Try.prog 25 #[.agg #[.int .i64 (N : Nat), v]] w fun e w' => e = .returned (.bool (!decide ((srt L N).length = N))) ∧ Fx No w w' := by
  have HL := Lib.hid hL
  have HNo := Lib.hid hno
  obtain ⟨ao, cap, rfl, _, _, hc⟩ := h.facts
  have HC := Lib.hid hc
  have hm1 := run_make_row' (P := Try.prog) 69 4 (.bool false) 1 Try.underlying69 (by kernel_rfl) rfl .i64 .i64 N (by omega) (by omega)
  clear h hc hL hno
  go_enter Try.func25, Try.ntmps25
  go_upto_region 1 with fail
  refine wp_hold (fun W => Fx No w W ∧ W.cell? ⟨w.heap.size, 0, none⟩ = some (.int .i64 (N : Nat)) ∧ W.cell? ⟨w.heap.size, 1, none⟩ = some (.slice ao L.length cap)) ⟨(Fx.refl No w).alloc _, by go_simp, by go_simp⟩ ?_
  rintro w1 ⟨hF1, c0, c1⟩
  obtain ⟨cb, hcb⟩ : ∃ e, e = w.heap.size := ⟨_, rfl⟩
  rw [← hcb] at c0 c1 ⊢
  have HF1 := Lib.hid hF1
  have HC0 := Lib.hid c0
  have HC1 := Lib.hid c1
  clear hF1 c0 c1 hcb
  go_wp2
  go_loopw [3] (fun a ws => ∃ i : Nat, a = .int .i64 (i : Nat) ∧ i ≤ N ∧ Fx No w1 ws ∧ ∀ j, j < i → ∀ s, 1 ≤ s → s ≤ N → ¬ Wk L s j j) (fun a _ => N - (intOf a).toNat)
  case atStart => exact ⟨0, rfl, by omega, Fx.refl _ _, fun j hj => by omega⟩
  case round =>
    obtain ⟨i, rfl, hi, hf, hn⟩ := hrel
    have HF := Lib.hid hf
    have HN := Lib.hid hn
    have c0 := hf.cell' HC0.out (fun q => q)
    clear hn
    by_cases hiN : i < N
    · have i1 : (i : Int) < (N : Int) := by omega
      have i0 : (0 : Int) ≤ (i : Int) := by omega
      clear hf
      go_upto_region 5 with fail
      refine wp_hold (fun W => Fx No wr W ∧ BolB W wr.heap.size N (fun _ => false) ∧ wr.heap.size < W.heap.size) ⟨(Fx.refl No wr).alloc _, fun j hj => new_cells rfl (by simp [madeCells, hj, Nat.mod_one]), by rw [World.size_alloc]; omega⟩ ?_
      rintro w2 ⟨hf2, hb2, hz2⟩
      obtain ⟨tb, htb⟩ : ∃ e, e = wr.heap.size := ⟨_, rfl⟩
      rw [← htb] at hb2 hz2 ⊢
      have HB2 := Lib.hid hb2
      have HF2 := Lib.hid (HF.out.trans hf2)
      have HTb : Hid (cb < tb ∧ w1.heap.size ≤ tb) := Lib.hid ⟨by have := World.block_lt_of_cell? wr _ c0; rw [htb]; exact this, by have := HF.out.size; omega⟩
      clear hf2 hb2 hz2 htb c0
      go_wp2
      go_loopw [5] (fun b ws => ∃ (t : Nat) (f : Nat → Bool), b = .int .i64 (t : Nat) ∧ t ≤ N ∧ Fx (fun y => y = tb) w2 ws ∧ BolB ws tb N f ∧ AtS L N i t 0 f) (fun b _ => N - (intOf b).toNat)
      case atStart => exact ⟨0, _, rfl, by omega, Fx.refl _ _, HB2.out, AtS.start L N i⟩
      case round =>
        obtain ⟨t, f, rfl, ht, hf3, hb3, ha3⟩ := hrel
        have HF3 := Lib.hid hf3
        have HB3 := Lib.hid hb3
        have HA3 := Lib.hid ha3
        have hct : ¬ cb = tb := by have := HTb.out.1; omega
        have c0 := hf3.cell' (HF2.out.cell' HC0.out (fun q => q)) hct
        clear hf3 ha3
        by_cases htN : t < N
        · have t1 : (t : Int) < (N : Int) := by omega
          clear hb3
          go_wp2
          clear c0
          go_loopw [6] (fun b ws => ∃ (k : Nat) (f : Nat → Bool), b = .int .i64 (k : Nat) ∧ k ≤ L.length ∧ Fx (fun y => y = tb) w2 ws ∧ BolB ws tb N f ∧ AtS L N i t k f) (fun b _ => L.length - (intOf b).toNat)
          case atStart => exact ⟨0, f, rfl, by omega, HF3.out, HB3.out, HA3.out⟩
          case round =>
            clear HF3 HB3 HA3
            obtain ⟨k, f, rfl, hk, hf4, hb4, ha4⟩ := hrel
            have HF4 := Lib.hid hf4
            have HB4 := Lib.hid hb4
            have HA4 := Lib.hid ha4
            have c1 := hf4.cell' (HF2.out.cell' HC1.out (fun q => q)) hct
            by_cases hkL : k < L.length
            · obtain ⟨bb, oo, rfl, hbb, p0, p1, _⟩ := HC.out k hkL
              have hbt : ¬ bb = tb := by have := World.block_lt_of_cell? w _ p0; have := HF1.out.size; have := HTb.out.2; simp at *; omega
              have p0 := hf4.cell' (HF2.out.cell' (HF1.out.cell' p0 (fun h => h)) (fun h => h)) hbt
              have p1 := hf4.cell' (HF2.out.cell' (HF1.out.cell' p1 (fun h => h)) (fun h => h)) hbt
              obtain ⟨⟨x1, x2⟩, x3, x4⟩ := HL.out (gt L k) (gt_mem hkL)
              have HPut : Hid (((gt L k).f = (i : Int) ∨ f (gt L k).f.toNat = true) → AtS L N i t (k + 1) (fun j => if j = (gt L k).t.toNat then true else f j)) := Lib.hid fun q => ha4.put hkL HL.out q
              have HSk : Hid ((gt L k).f ≠ (i : Int) → f (gt L k).f.toNat = false → AtS L N i t (k + 1) f) := Lib.hid fun q1 q2 => ha4.skip hkL HL.out q1 q2
              obtain ⟨x, hx⟩ : ∃ x, x = gt L k := ⟨_, rfl⟩
              rw [← hx] at p0 p1 x1 x2 x3 x4 HPut HSk
              obtain ⟨a, ha⟩ := Int.eq_ofNat_of_zero_le x1
              obtain ⟨c, hc⟩ := Int.eq_ofNat_of_zero_le x3
              rw [ha] at p0 HPut HSk
              rw [hc] at p1 HPut
              rw [Int.toNat_natCast] at HPut HSk
              rw [Int.toNat_natCast] at HPut
              have haN : a < N := by omega
              have hcN : c < N := by omega
              obtain ⟨q0, _⟩ := hb4 a haN
              obtain ⟨q1, z1⟩ := hb4 c hcN
              obtain ⟨B, hB⟩ : ∃ B, B = f a := ⟨_, rfl⟩
              rw [← hB] at q0 HPut HSk
              have k0 : (0 : Int) ≤ (k : Int) := by omega
              have k1 : (k : Int) < (L.length : Int) := by omega
              have a0 : (0 : Int) ≤ (a : Int) := by omega
              have a1 : (a : Int) < (N : Int) := by omega
              have cc0 : (0 : Int) ≤ (c : Int) := by omega
              have cc1 : (c : Int) < (N : Int) := by omega
              clear hf4 hb4 ha4 hx ha hc x1 x2 x3 x4 hB
              by_cases hai : a = i
              · have hd : ((a : Int) == (i : Int)) = true := by simp [hai]
                have HA5 := Lib.hid (HPut.out (.inl (by rw [hai])))
                clear hai
                go_wp2
                go_roundw
                case rel => exact ⟨k + 1, _, by go_num, by omega, HF4.out.trans' (Fx.put _ _ _ _) (fun j e _ => e), HB4.out.put hcN true, HA5.out⟩
                case measure => simp [intOf]; omega
              · have hd : ((a : Int) == (i : Int)) = false := by simp; omega
                cases B with
                | true =>
                  have HA5 := Lib.hid (HPut.out (.inr rfl))
                  clear hai
                  go_wp2
                  go_roundw
                  case rel => exact ⟨k + 1, _, by go_num, by omega, HF4.out.trans' (Fx.put _ _ _ _) (fun j e _ => e), HB4.out.put hcN true, HA5.out⟩
                  case measure => simp [intOf]; omega
                | false =>
                  have HA5 := Lib.hid (HSk.out (by omega) rfl)
                  clear hai
                  go_wp2
                  go_roundw
                  case rel => exact ⟨k + 1, f, by go_num, by omega, HF4.out, HB4.out, HA5.out⟩
                  case measure => simp [intOf]; omega
            · have k1 : ¬ (k : Int) < (L.length : Int) := by omega
              have hke : k = L.length := by omega
              have HA5 : Hid (AtS L N i (t + 1) 0 f) := Lib.hid (AtS.round (by rw [← hke]; exact ha4) HL.out)
              clear hf4 hb4 ha4 hke hkL
              go_wp2
              go_roundw
              case rel => exact ⟨t + 1, f, by go_num, by omega, HF4.out, HB4.out, HA5.out⟩
              case measure => simp [intOf]; omega
        · have t1 : ¬ (t : Int) < (N : Int) := by omega
          have hte : t = N := by omega
          obtain ⟨q0, _⟩ := hb3 i hiN
          obtain ⟨B, hB⟩ : ∃ B, B = f i := ⟨_, rfl⟩
          rw [← hB] at q0
          have HB := Lib.hid hB
          have HTe := Lib.hid hte
          have HFn : Hid (Fx No w1 wr) := Lib.hid (HF2.out.trans' HF3.out fun j e hl => by have e : j = tb := e; have := HTb.out.2; omega)
          clear hb3 hB hte htN
          cases B with
          | true =>
            have HE : Hid ((!decide ((srt L N).length = N)) = true) := Lib.hid (by
              obtain ⟨s, s1, s2⟩ := HA3.out.sound i hiN HB.out.symm
              rw [Bool.not_eq_true', decide_eq_false_iff_not]
              exact fun q => HNo.out q i s hiN s1 s2)
            go_wp2
            go_ret
            exact ⟨by rw [HE.out]; rfl, HF1.out.trans HFn.out⟩
          | false =>
            go_wp2
            go_roundw
            case rel => exact ⟨i + 1, by go_num, by omega, HFn.out, fun j hj s s1 s2 hw => by
              by_cases e : j = i
              · subst e
                have := HA3.out.full s j s1 (by have := HTe.out; omega) hiN hw
                rw [← HB.out] at this; simp at this
              · exact HN.out j (by omega) s s1 s2 hw⟩
            case measure => simp [intOf]; omega
    · have i1 : ¬ (i : Int) < (N : Int) := by omega
      have hie : i = N := by omega
      have HE : Hid ((!decide ((srt L N).length = N)) = false) := Lib.hid (by
        rw [Bool.not_eq_false', decide_eq_true_eq]
        apply Classical.byContradiction
        intro hq
        obtain ⟨j, s, h1, h2, h3, h4⟩ := stuck_walk HL.out hq
        exact HN.out j (by omega) s h2 h3 h4)
      clear hf hie hiN
      go_wp2
      go_ret
      exact ⟨by rw [HE.out]; rfl, HF1.out.trans HF.out⟩
end
#print axioms walks_any
end Go.Proofs.Yteafkafkbipcmaa

namespace Go.Proofs.Yteafkafkbipcmaa
open Go.RowKit
set_option linter.unusedVariables false

/-- append of nothing -/
theorem wpList_append_nil {P : Program} {w : World} {ops : Array Oper} {rest : List Oper} {o : Oper} {a : Act} {Q : Exit → Act → World → Prop} (hgd : o.guard = none) (s x : Operand) (t : TypeId)
    (ho : o.op = .call { callee := .builtin .append, args := #[s, x], argTypes := #[t, t] })
    (base : Nat) (e : TypeId) {i : TypeInfo} {size : Nat} (ht : P.underlying t = some (.slice e)) (hi : P.info? e = some i) (hsize : i.size = size)
    {v : Value} {n : Nat} {xs : List Value} (hs : a.eval s = v) (hown : w.ownsRow base e size v n xs) (hx : a.eval x = .slice none 0 0)
    (h : wpList P ops Q rest (a.put o.dst v) w) : wpList P ops Q (o :: rest) a w := by
  refine wpList_plain hgd fun K hK => ?_
  have hrun := run_append_owned_none (P := P) w base t o.type e i size ht hi v n xs hown
  unfold Oper.wp
  simp [execOp, ho, resolve, invoke, builtin, hs, hx, hrun, Result.andThen]
  exact hK _ _ h
/-- values that read as rows -/
def RowsOf (w : World) (D : Nat → Prop) : List Value → List (List Int) → Prop
  | [], [] => True
  | v :: vs, r :: rs => IntsV w D v r ∧ RowsOf w D vs rs
  | _, _ => False
theorem RowsOf.length {w : World} {D : Nat → Prop} : ∀ {vs : List Value} {rs : List (List Int)}, RowsOf w D vs rs → vs.length = rs.length
  | [], [], _ => rfl
  | v :: vs, r :: rs, h => by rw [List.length_cons, List.length_cons, RowsOf.length h.2]
theorem RowsOf.append {w : World} {D : Nat → Prop} : ∀ {vs us : List Value} {rs ss : List (List Int)}, RowsOf w D vs rs → RowsOf w D us ss → RowsOf w D (vs ++ us) (rs ++ ss)
  | [], _, [], _, _, h => h
  | v :: vs, _, r :: rs, _, h, h' => ⟨h.1, RowsOf.append h.2 h'⟩
theorem RowsOf.fx {w w' : World} {S D E : Nat → Prop} (hf : Fx S w w') (hd : ∀ b, D b → ¬ S b) (hm : ∀ b, D b → E b) : ∀ {vs : List Value} {rs : List (List Int)}, RowsOf w D vs rs → RowsOf w' E vs rs
  | [], [], _ => trivial
  | v :: vs, r :: rs, h => ⟨(h.1.keep hf hd).mono hm, RowsOf.fx hf hd hm h.2⟩
theorem RowsOf.at {w : World} {D : Nat → Prop} : ∀ {vs : List Value} {rs : List (List Int)} {k : Nat}, RowsOf w D vs rs → k < rs.length → ∃ v, vs[k]? = some v ∧ IntsV w D v (rs.getD k [])
  | [], [], _, _, hk => by simp at hk
  | [], _ :: _, _, h, _ => h.elim
  | _ :: _, [], _, h, _ => h.elim
  | v :: vs, r :: rs, 0, h, _ => ⟨v, rfl, h.1⟩
  | v :: vs, r :: rs, k + 1, h, hk => by
    obtain ⟨u, h1, h2⟩ := RowsOf.at (k := k) h.2 (by simpa using hk)
    exact ⟨u, by simpa using h1, by simpa using h2⟩
theorem RowsOf.one {w : World} {D : Nat → Prop} : ∀ {vs : List Value} {rs : List (List Int)}, RowsOf w D vs rs → One vs
  | [], [], _ => fun u hu => by simp at hu
  | v :: vs, r :: rs, h => fun u hu => by
    rcases List.mem_cons.1 hu with e | e
    · subst e
      obtain ⟨ao, c, rfl, _⟩ := h.1.facts
      rfl
    · exact RowsOf.one h.2 u e

theorem step_append_nil {P : Program} {ops : Array Oper} {o : Oper} {a : Act} {w : World} {K : Act → World → Prop} {Q : Exit → Act → World → Prop} {E : Prop}
    (hg : o.guard = none) (s x : Operand) (t : TypeId) (hop : o.op = Op.call { callee := Callee.builtin Builtin.append, args := #[s, x], argTypes := #[t, t] })
    (base : Nat) (e : TypeId) {i : TypeInfo} {size : Nat} (ht : P.underlying t = some (.slice e)) (hi : P.info? e = some i) (hsize : i.size = size)
    (v : Value) (n : Nat) (xs : List Value) (hs : a.eval s = v) (hown : w.ownsRow base e size v n xs) (hx : a.eval x = .slice none 0 0)
    (hK : K (a.put o.dst v) w) :
    if Region.wanted o (yielded ops a.tmps) = true then Oper.wp P o a w K Q else E := by
  have hw : Region.wanted o (yielded ops a.tmps) = true := by simp [Region.wanted, hg]
  rw [if_pos hw]
  have hrun := run_append_owned_none (P := P) w base t o.type e i size ht hi v n xs hown
  unfold Oper.wp
  simp [execOp, hop, resolve, invoke, builtin, hs, hx, hrun, Result.andThen]
  exact hK
/-- the orders that begin with a row and a number below j -/
def allJ (N : Nat) (L : List Ed) (m : Nat) (row : List Int) (j : Nat) : List (List Int) := ((List.range j).filter fun i : Nat => decide (placeI row ((i : Nat) : Int) < 0)).flatMap fun i : Nat => allG N L m (row ++ [((i : Nat) : Int)])
theorem allJ_succ (N : Nat) (L : List Ed) (m : Nat) (row : List Int) (j : Nat) : allJ N L m row (j + 1) = allJ N L m row j ++ if placeI row ((j : Nat) : Int) < 0 then allG N L m (row ++ [((j : Nat) : Int)]) else [] := by
  unfold allJ
  rw [List.range_succ, List.filter_append, List.flatMap_append]
  congr 1
  by_cases h : placeI row ((j : Nat) : Int) < 0
  · rw [if_pos h, List.filter_cons, if_pos (decide_eq_true h)]; simp
  · rw [if_neg h, List.filter_cons, if_neg (by simpa using h)]; simp
theorem allJ_len {N : Nat} {L : List Ed} {m : Nat} {row : List Int} {c : Nat} (h : ∀ r, (allG N L m r).length ≤ c) : ∀ j, (allJ N L m row j).length ≤ j * c
  | 0 => by simp [allJ]
  | j + 1 => by
    rw [allJ_succ, List.length_append, Nat.succ_mul]
    have h1 := allJ_len (row := row) h j
    have h2 := h (row ++ [((j : Nat) : Int)])
    split
    · omega
    · simp only [List.length_nil]; omega
theorem allG_len (N : Nat) (L : List Ed) : ∀ m row, (allG N L m row).length ≤ N ^ m
  | 0, row => by
    show (if respB N L row = true then [row] else []).length ≤ 1
    split <;> simp
  | m + 1, row => by
    show (allJ N L m row N).length ≤ _
    rw [Nat.pow_succ, Nat.mul_comm]
    exact allJ_len (fun r => allG_len N L m r) N
theorem pow_bound {n m : Nat} (hn : n ≤ 6) (hm : m ≤ 6) : n ^ m ≤ 46656 := Nat.le_trans (Nat.pow_le_pow_left hn m) (Nat.pow_le_pow_right (n := 6) (i := m) (j := 6) (by omega) hm)
/-- what All tells -/
def AllR (N : Nat) (L : List Ed) (m : Nat) (row : List Int) (D : Nat → Prop) (w : World) (e : Ending) (w' : World) : Prop :=
  ∃ v vals, e = .returned v ∧ Fx No w w' ∧ (vals = [] → v = .slice none 0 0) ∧ w'.ownsRow w.heap.size 32 1 v vals.length vals ∧ RowsOf w' (fun b => (D b ∨ w.heap.size ≤ b) ∧ b < w'.heap.size ∧ v.ownBlock ≠ some b) vals (allG N L m row)
#print axioms step_append_nil
#print axioms allG_len
end Go.Proofs.Yteafkafkbipcmaa

namespace Go.Proofs.Yteafkafkbipcmaa
open Go.RowKit
set_option linter.unusedVariables false

theorem SlV.no {w w1 : World} {D : Nat → Prop} {v : Value} {size n : Nat} {cs : List Value} (h : SlV w D v size n cs) (hf : Fx No w w1) : SlV w1 D v size n cs := h.keep hf No.disj
section
variable {L : List Ed} {N : Nat} {rv : Value} {E : Nat → Prop}
set_option maxRecDepth 100000 in
set_option maxHeartbeats 16000000 in
theorem refAll_any (hN : N ≤ 6) (hL : L.length ≤ 1000) : ∀ (m : Nat) (w : World) (D : Nat → Prop) (v : Value) (r : List Int), IntsV w D v r → EdsV w E rv L → r.length + m = N →
    Calls Try.prog 22 #[.agg #[.int .i64 (N : Nat), rv], v] w (AllR N L m r D w) := by
  intro m
  induction m with
  | zero =>
    intro w D v r h h' hm
    have HP := Lib.hid h'
    obtain ⟨ro, rc, rfl, _⟩ := EdsV.facts h'
    obtain ⟨ao, cap, rfl, hl, _⟩ := h.facts
    have H : Hid (IntsV w (fun k => D k ∧ k < w.heap.size) _ r) := Lib.hid (SlV.bound h)
    have hrN : r.length = N := by omega
    rw [hrN] at H ⊢
    clear h h'
    have HrN := Lib.hid hrN
    clear hrN hm hl
    go_enter Try.func22, Try.ntmps22
    go_upto_region 1 with fail
    refine wp_hold (fun W => Fx No w W ∧ W.cell? ⟨w.heap.size, 0, none⟩ = some (.int .i64 (N : Nat)) ∧ W.cell? ⟨w.heap.size, 1, none⟩ = some (.slice ro L.length rc)) ⟨(Fx.refl No w).alloc _, by go_simp, by go_simp⟩ ?_
    rintro w1 ⟨hF1, c0, c1⟩
    have HF1 := Lib.hid hF1
    obtain ⟨cb, hcb⟩ : ∃ e, e = w.heap.size := ⟨_, rfl⟩
    rw [← hcb] at c0 c1
    try rw [← hcb]
    have HCB := Lib.hid hcb
    clear hF1 hcb
    go_wp2_with fail
    refine (refRespects_any (HP.out.no HF1.out) (SlV.no H.out HF1.out) hL (by omega)).mono ?_
    rintro e w2 ⟨rfl, hf⟩
    have HF2 := Lib.hid (HF1.out.trans hf)
    obtain ⟨R, hR⟩ : ∃ R, R = respB N L r := ⟨_, rfl⟩
    rw [← hR]
    have HR := Lib.hid hR
    clear hf hR c0 c1 HF1
    rcases Bool.eq_false_or_eq_true R with rfl | rfl
    · go_wp2
      go_ret
      have hz := HF2.out.size
      refine ⟨_, [.slice ao N cap], rfl, HF2.out.alloc _, fun h => (by cases h), ?_, ?_⟩
      · first | exact World.ownsRow_lit w2 #[.slice ao N cap] 1 hz (by unfold maxLen; omega) rfl | (rw [HCB.out]; exact World.ownsRow_lit w2 #[.slice ao N cap] 1 hz (by unfold maxLen; omega) rfl)
      · have e1 : allG N L 0 r = [r] := if_pos HR.out.symm
        rw [e1]
        refine ⟨SlV.mono (SlV.no H.out (HF2.out.alloc _)) fun b hb => ⟨.inl hb.1, by simp only [World.size_alloc]; omega, by simp [Value.ownBlock]; omega⟩, trivial⟩
    · go_wp2
      go_ret
      refine ⟨_, [], rfl, HF2.out, fun _ => rfl, World.ownsRow_nil _ _ _ _, ?_⟩
      have e1 : allG N L 0 r = [] := if_neg (by rw [← HR.out]; simp)
      rw [e1]
      trivial
  | succ m ih =>
    intro w D v r h h' hm
    obtain ⟨ii, hi, hz, hs, hb⟩ := info_parts info_int'
    obtain ⟨ir, hir, hzr, hsr, hbr⟩ := info_parts info_rowsR
    have HP := Lib.hid h'
    obtain ⟨ro, rc, rfl, _⟩ := EdsV.facts h'
    obtain ⟨ao, cap, rfl, hl, _⟩ := h.facts
    have H := Lib.hid h
    obtain ⟨len, hlen⟩ : ∃ k, k = r.length := ⟨_, rfl⟩
    rw [← hlen] at hl H hm ⊢
    have HLen := Lib.hid hlen
    have hne : ((len : Int) == (N : Int)) = false := by simp; omega
    have HSl : Hid (SlV w D (.slice ao len cap) 1 len (ints r)) := by
      have := H.out
      unfold IntsV at this
      rw [← HLen.out] at this
      exact this
    have HOne := Lib.hid (ints_one r)
    have IH := Lib.hid ih
    clear h h' hlen ih
    have hlen6 : len ≤ 6 := by omega
    go_enter Try.func22, Try.ntmps22
    go_upto_region 1 with fail
    refine wp_hold (fun W => Fx No w W ∧ W.cell? ⟨w.heap.size, 0, none⟩ = some (.int .i64 (N : Nat)) ∧ W.cell? ⟨w.heap.size, 1, none⟩ = some (.slice ro L.length rc)) ⟨(Fx.refl No w).alloc _, by go_simp, by go_simp⟩ ?_
    rintro w1 ⟨hF1, c0, c1⟩
    have HF1 := Lib.hid hF1
    obtain ⟨cb, hcb⟩ : ∃ e, e = w.heap.size := ⟨_, rfl⟩
    rw [← hcb] at c0 c1
    try rw [← hcb]
    have HCB := Lib.hid hcb
    have hcl : cb < w1.heap.size := World.block_lt_of_cell? w1 _ c0
    have HC0 := Lib.hid c0
    have HC1 := Lib.hid c1
    clear hF1 c1 hcb
    go_wp2
    clear c0
    go_loopw [5, 6] (fun o i ws => ∃ (j : Nat) (vals : List Value), i = .int .i64 (j : Nat) ∧ j ≤ N ∧ Fx No w1 ws ∧ (vals = [] → o = .slice none 0 0) ∧ ws.ownsRow w1.heap.size 32 1 o vals.length vals ∧ RowsOf ws (fun b => w.heap.size ≤ b ∧ b < ws.heap.size ∧ o.ownBlock ≠ some b) vals (allJ N L m r j)) (fun _ i _ => N - (intOf i).toNat)
    case atStart => exact ⟨0, [], rfl, Nat.zero_le _, Fx.refl _ _, fun _ => rfl, World.ownsRow_nil _ _ _ _, trivial⟩
    case round =>
      obtain ⟨j, vals, rfl, hj, hf, hnil, ho, hR⟩ := hrel
      have HF := Lib.hid hf
      have HNil := Lib.hid hnil
      have HO := Lib.hid ho
      have HR := Lib.hid hR
      have hwz := (HF1.out.trans hf).size
      have c0 : wr.cell? ⟨cb, 0, none⟩ = some (.int .i64 (N : Nat)) := hf.cell' HC0.out (fun q => q)
      have c1 : wr.cell? ⟨cb, 1, none⟩ = some (.slice ro L.length rc) := hf.cell' HC1.out (fun q => q)
      clear hf hnil ho hR
      by_cases hlt : j < N
      · have hst := allJ_succ N L m r j
        by_cases hpl : placeI r ((j : Nat) : Int) < 0
        · rw [if_pos hpl] at hst
          have d1 : decide (placeI r (j : Int) < 0) = true := decide_eq_true hpl
          have HSt := Lib.hid hst
          clear hst hpl
          go_wp2_with fail
          refine (refPlace_any (SlV.no (SlV.no H.out HF1.out) HF.out) (j : Int)).mono ?_
          rintro e w0 ⟨rfl, rfl⟩
          go_wp2_with (at_builtin; refine wpList_append_sl rfl _ _ 32 rfl wr.heap.size 3 Try.underlying32 hi hz hs hb rfl (by decide) rfl (World.ownsRow_nil _ _ _ _) rfl (SlV.no (SlV.no HSl.out HF1.out) HF.out) HOne.out (by unfold maxLen; omega) (by omega) (by simp) ?_)
          intro v1 w2 hown1 hf1 hnil1
          have hfa : Fx No wr w2 := (Fx.refl No wr).trans' hf1 (by simp [Value.ownBlock])
          have HFa := Lib.hid hfa
          have HN1 : Hid (w2.ownsRow wr.heap.size 3 1 v1 len (ints r)) := by
            show World.ownsRow _ _ _ _ _ _ _
            simpa using hown1
          have hz1 := hfa.size
          clear hown1 hf1 hnil1 hfa
          have n0 : ¬ u5.ownBlock = some cb := fun q => by have := (World.ownsRow.lt HO.out cb q).1; omega
          have g0 : ∀ W, Fx (fun k => u5.ownBlock = some k) wr W → W.cell? ⟨cb, 0, none⟩ = some (.int .i64 (N : Nat)) := fun W h => h.cell' c0 n0
          have g1 : ∀ W, Fx (fun k => u5.ownBlock = some k) wr W → W.cell? ⟨cb, 1, none⟩ = some (.slice ro L.length rc) := fun W h => h.cell' c1 n0
          clear c0 c1
          go_wp2_with fail
          refine wp_region_H (fun W => Fx (fun k => u5.ownBlock = some k) wr W) (by kernel_rfl) (HFa.out.drew.no) ?_
          intro hS
          refine wpAnyH_take (i := 0) (v := ?_) rfl (by kernel_rfl) (by kernel_rfl) (by kernel_rfl) (fun _ _ _ h => h) (Or.inl ⟨by rfl, ?_⟩) hS ?_
          rotate_left
          · (intro W hs; go_simp; first | done | with_reducible rfl)
          try simp only [Act.put, List.getElem_toArray, List.getElem_cons_zero, List.getElem_cons_succ, List.setIfInBounds_toArray, List.set_cons_zero, List.set_cons_succ]
          refine wpAnyH_take (i := 1) (v := ?_) rfl (by kernel_rfl) (by kernel_rfl) (by kernel_rfl) (fun _ _ _ h => h) (Or.inl ⟨by rfl, ?_⟩) hS ?_
          rotate_left
          · (intro W hs; go_simp; first | done | with_reducible rfl)
          try simp only [Act.put, List.getElem_toArray, List.getElem_cons_zero, List.getElem_cons_succ, List.setIfInBounds_toArray, List.set_cons_zero, List.set_cons_succ]
          refine wpAnyH_take (i := 2) (v := ?_) rfl (by kernel_rfl) (by kernel_rfl) (by kernel_rfl) (fun _ _ _ h => h) (Or.inl ⟨by rfl, ?_⟩) hS ?_
          rotate_left
          · (intro W hs; go_simp; first | done | with_reducible rfl)
          try simp only [Act.put, List.getElem_toArray, List.getElem_cons_zero, List.getElem_cons_succ, List.setIfInBounds_toArray, List.set_cons_zero, List.set_cons_succ]
          refine wpAnyH_take (i := 3) (v := ?_) rfl (by kernel_rfl) (by kernel_rfl) (by kernel_rfl) (fun _ _ _ h => h) (Or.inl ⟨by rfl, ?_⟩) hS ?_
          rotate_left
          · (intro W hs; go_simp; first | done | with_reducible rfl)
          try simp only [Act.put, List.getElem_toArray, List.getElem_cons_zero, List.getElem_cons_succ, List.setIfInBounds_toArray, List.set_cons_zero, List.set_cons_succ]
          refine wpH_one (i := 4) (by kernel_rfl) rfl (fun Kk hK => ?_)
          go_simp
          have hs4 : Fx No wr (w2.alloc (.cells #[.int .i64 (j : Nat)] 3)).drew := (HFa.out.alloc _).drew
          have HN4 : Hid ((w2.alloc (.cells #[.int .i64 (j : Nat)] 3)).drew.ownsRow wr.heap.size 3 1 v1 len (ints r)) := Lib.hid (ownsRow_fx HN1.out ((Fx.refl No w2).alloc _).drew fun _ _ h => h)
          have HJ4 : Hid (SlV (w2.alloc (.cells #[.int .i64 (j : Nat)] 3)).drew (fun _ => True) (.slice (some ⟨w2.heap.size, 0, none⟩) 1 1) 1 1 [.int .i64 (j : Nat)]) := Lib.hid (SlV.keep (SlV.lit w2 3 #[.int .i64 (j : Nat)] 1 1 rfl (by unfold maxLen; omega)) ((Fx.refl No _).drew) No.disj)
          have hz4 := hs4.size
          obtain ⟨w4, hw4⟩ : ∃ q, q = (w2.alloc (.cells #[.int .i64 (j : Nat)] 3)).drew := ⟨_, rfl⟩
          rw [← hw4] at hs4 HN4 HJ4 hz4
          try rw [← hw4]
          clear hw4
          have HX4 := Lib.hid hs4
          refine hK.out _ _ hs4.no (fun hS' => ?_)
          clear hs4
          clear hK Kk hS
          have hS := hS'
          clear hS'
          try simp only [Act.put, List.getElem_toArray, List.getElem_cons_zero, List.getElem_cons_succ, List.setIfInBounds_toArray, List.set_cons_zero, List.set_cons_succ]
          refine wpH_one (i := 5) (by kernel_rfl) rfl (fun Kk hK => ?_)
          refine step_append_kept rfl (.tmp 33) (.tmp 35) 32 rfl wr.heap.size 3 Try.underlying32 hi hz hs hb rfl (by decide) v1 len (ints r) (by simp [Act.eval]) HN4.out (fun _ => True) (.slice (some ⟨w2.heap.size, 0, none⟩) 1 1) 1 [.int .i64 (j : Nat)] (by simp [Act.eval]) HJ4.out (ints_one [((j : Nat) : Int)]) (by omega) (by unfold maxLen; omega) (by omega) hz4 ?_
          intro v2 w5 ho5 hf5 _ _
          have hs5 : Fx No wr w5 := HX4.out.trans' hf5 fun g e hl => by have := (World.ownsRow.lt HN4.out g e).1; omega
          have HN5 : Hid (IntsV w5 (Iv wr.heap.size w5.heap.size) v2 (r ++ [((j : Nat) : Int)])) := Lib.hid (by
            have h := SlV.ofOwns ho5
            unfold IntsV
            rw [List.length_append, List.length_singleton, ← HLen.out]
            have e1 : ints (r ++ [((j : Nat) : Int)]) = ints r ++ [.int .i64 (j : Nat)] := by simp [ints]
            rw [e1]
            exact h)
          clear hf5 ho5 HN4 HJ4 hz4 HN1
          have HX5 := Lib.hid hs5
          refine hK.out _ _ hs5.no (fun hS' => ?_)
          clear hs5
          clear hK Kk hS
          have hS := hS'
          clear hS'
          try simp only [Act.put, List.getElem_toArray, List.getElem_cons_zero, List.getElem_cons_succ, List.setIfInBounds_toArray, List.set_cons_zero, List.set_cons_succ]
          refine wpH_one (i := 6) (by kernel_rfl) rfl (fun Kk hK => ?_)
          go_simp
          refine (IH.out w5 _ _ _ HN5.out (HP.out.no (HF1.out.trans (HF.out.trans HX5.out))) (by rw [List.length_append, List.length_singleton, ← HLen.out]; omega)).mono ?_
          rintro e w6 ⟨v3, vals3, rfl, hf3, hn3, ho3, hR3⟩
          have hs6 : Fx No wr w6 := HX5.out.trans hf3
          have HS6 : Hid (Fx No wr w6) := Lib.hid hs6
          have hz5 := hS.size
          have hz6 := hf3.size
          have HO3 : Hid (w6.ownsRow w1.heap.size 32 1 u5 vals.length vals) := ownsRow_fx HO.out hs6 fun _ _ h => h
          have hRk : RowsOf w6 (fun b => w.heap.size ≤ b ∧ b < w6.heap.size ∧ u5.ownBlock ≠ some b) vals (allJ N L m r j) := RowsOf.fx hs6 (fun _ _ h => h) (fun b hb => ⟨hb.1, by omega, hb.2.2⟩) HR.out
          have hRn : RowsOf w6 (fun b => w.heap.size ≤ b ∧ b < w6.heap.size ∧ u5.ownBlock ≠ some b) vals3 (allG N L m (r ++ [((j : Nat) : Int)])) := RowsOf.fx (Fx.refl No _) (fun _ _ h => h) (fun b hb => by
            have h1 : wr.heap.size ≤ b := by
              rcases hb.1 with e | e
              · exact e.1
              · omega
            refine ⟨by omega, hb.2.1, fun e => ?_⟩
            have := (World.ownsRow.lt HO.out b e).2
            omega) hR3
          have HAll := Lib.hid (RowsOf.append hRk hRn)
          have hl1 : vals.length ≤ 6 * 46656 := by
            rw [hRk.length]
            refine Nat.le_trans (allJ_len (fun r => allG_len N L m r) j) ?_
            exact Nat.mul_le_mul (by omega) (pow_bound hN (by omega))
          have hl2 : vals3.length ≤ 46656 := by
            rw [hRn.length]
            exact Nat.le_trans (allG_len N L m _) (pow_bound hN (by omega))
          have HOne3 := Lib.hid hRn.one
          have HS3 := Lib.hid (SlV.ofOwns ho3)
          clear hRk hRn hR3 hf3 ho3 HN5
          refine hK.out _ _ hs6.no (fun hS' => ?_)
          clear hs6
          clear hK Kk hS
          have hS := hS'
          clear hS'
          try simp only [Act.put, List.getElem_toArray, List.getElem_cons_zero, List.getElem_cons_succ, List.setIfInBounds_toArray, List.set_cons_zero, List.set_cons_succ]
          cases vals3 with
          | nil =>
            obtain rfl := hn3 rfl
            clear hn3 hl1 hl2
            refine wpH_one (i := 7) (by kernel_rfl) rfl (fun Kk hK => ?_)
            refine step_append_nil rfl (.tmp 31) (.tmp 37) 30 rfl w1.heap.size 32 Try.underlying30 hir hsr u5 vals.length vals (by simp [Act.eval]) HO3.out (by simp [Act.eval]) ?_
            refine hK.out _ _ hS (fun hS' => ?_)
            clear hK Kk hS
            have hS := hS'
            clear hS'
            try simp only [Act.put, List.getElem_toArray, List.getElem_cons_zero, List.getElem_cons_succ, List.setIfInBounds_toArray, List.set_cons_zero, List.set_cons_succ]
            refine wpAnyH_take (i := 8) (v := ?_) rfl (by kernel_rfl) (by kernel_rfl) (by kernel_rfl) (fun _ _ _ h => h) (Or.inl ⟨by rfl, ?_⟩) hS ?_
            rotate_left
            · (intro W hs; go_simp; first | done | with_reducible rfl)
            try simp only [Act.put, List.getElem_toArray, List.getElem_cons_zero, List.getElem_cons_succ, List.setIfInBounds_toArray, List.set_cons_zero, List.set_cons_succ]
            refine wpAnyH_done (by kernel_rfl) ?_ _
            clear hS g0 g1
            go_wp2
            go_roundw
            case rel => exact ⟨j + 1, vals, by go_num, by omega, HF.out.trans HS6.out, HNil.out, HO3.out, by rw [HSt.out]; simpa using HAll.out⟩
            case measure => simp [intOf]; omega
          | cons x vals3 =>
            have hpos : 0 < (x :: vals3).length := by simp
            obtain ⟨vs, hvs⟩ : ∃ vs, vs = x :: vals3 := ⟨_, rfl⟩
            rw [← hvs] at hl2 HOne3 HS3 HAll hpos
            clear hn3 hvs
            have hz7 : w1.heap.size ≤ w6.heap.size := by have := HF.out.size; omega
            refine wpH_one (i := 7) (by kernel_rfl) rfl (fun Kk hK => ?_)
            refine step_append_kept rfl (.tmp 31) (.tmp 37) 30 rfl w1.heap.size 32 Try.underlying30 hir hzr hsr hbr rfl (by decide) u5 vals.length vals (by simp [Act.eval]) HO3.out _ v3 _ vs (by simp [Act.eval]) HS3.out HOne3.out hpos (by unfold maxLen; omega) (by omega) hz7 ?_
            intro v4 w7 ho4 hf4 hk4 hb4
            have hs7 : Fx (fun k => u5.ownBlock = some k) wr w7 := HS6.out.no.trans hf4
            have HX7 : Hid (Fx No w1 w7) := Lib.hid ((HF.out.trans HS6.out).trans' hf4 fun g e hl => by have := (World.ownsRow.lt HO3.out g e).1; omega)
            have hz7' := hf4.size
            have HR4 : Hid (RowsOf w7 (fun b => w.heap.size ≤ b ∧ b < w7.heap.size ∧ v4.ownBlock ≠ some b) (vals ++ vs) (allJ N L m r (j + 1))) := by
              rw [HSt.out]
              refine RowsOf.fx hf4 (fun b hb => hb.2.2) (fun b hb => ⟨hb.1, by omega, fun e => ?_⟩) HAll.out
              rcases hb4 b e with h | h
              · exact hb.2.2 h
              · omega
            have HO4 : Hid (w7.ownsRow w1.heap.size 32 1 v4 (vals ++ vs).length (vals ++ vs)) := by rw [List.length_append]; exact ho4
            clear ho4 hf4 hk4 hb4
            refine hK.out _ _ hs7 (fun hS' => ?_)
            clear hs7
            clear hK Kk hS
            have hS := hS'
            clear hS'
            try simp only [Act.put, List.getElem_toArray, List.getElem_cons_zero, List.getElem_cons_succ, List.setIfInBounds_toArray, List.set_cons_zero, List.set_cons_succ]
            refine wpAnyH_take (i := 8) (v := ?_) rfl (by kernel_rfl) (by kernel_rfl) (by kernel_rfl) (fun _ _ _ h => h) (Or.inl ⟨by rfl, ?_⟩) hS ?_
            rotate_left
            · (intro W hs; go_simp; first | done | with_reducible rfl)
            try simp only [Act.put, List.getElem_toArray, List.getElem_cons_zero, List.getElem_cons_succ, List.setIfInBounds_toArray, List.set_cons_zero, List.set_cons_succ]
            refine wpAnyH_done (by kernel_rfl) ?_ _
            clear hS g0 g1
            go_wp2
            go_roundw
            case rel => exact ⟨j + 1, vals ++ vs, by go_num, by omega, HX7.out, fun h => (by have := congrArg List.length h; rw [List.length_append, List.length_nil] at this; omega), HO4.out, HR4.out⟩
            case measure => simp [intOf]; omega
        · rw [if_neg hpl, List.append_nil] at hst
          have d1 : decide (placeI r (j : Int) < 0) = false := decide_eq_false hpl
          have HSt := Lib.hid hst
          clear hst hpl
          go_wp2_with fail
          refine (refPlace_any (SlV.no (SlV.no H.out HF1.out) HF.out) (j : Int)).mono ?_
          rintro e w0 ⟨rfl, rfl⟩
          go_wp2
          go_roundw
          case rel => exact ⟨j + 1, vals, by go_num, by omega, HF.out, HNil.out, HO.out, by rw [HSt.out]; exact HR.out⟩
          case measure => simp [intOf]; omega
      · obtain rfl : j = N := by omega
        go_wp2
        go_ret
        exact ⟨_, vals, rfl, HF1.out.trans HF.out, HNil.out, ownsRow_base HO.out HF1.out.size, RowsOf.fx (Fx.refl No _) (fun _ _ h => h) (fun b hb => ⟨.inr hb.1, hb.2⟩) HR.out⟩
end
#print axioms refAll_any
end Go.Proofs.Yteafkafkbipcmaa
