/- Orders of the numbers below n, as lists: plain lemmas. | The reference's place and Respects (alibiref14). | topo.Respects. | The law TopoAsks. -/
import Derived.Test.YteafkafkbipcmaaM1
import Derived.Test.YteafkafkbipcmaaS6
import Derived.Deep.DeepCutAuto
import Derived.Deep.CutBlock
import Derived.Test.YteafkafkbipcmaaS8

namespace Go.Proofs.Yteafkafkbipcmaa

/-- the document's word: each number below the length stands once -/
def okP (p : List Int) : Prop := ∀ i : Nat, i < p.length → p.count (i : Int) = 1
instance (p : List Int) : Decidable (okP p) := inferInstanceAs (Decidable (∀ i : Nat, i < p.length → p.count (i : Int) = 1))
/-- the code's word: all are below the length, none stands twice -/
def goodP (p : List Int) : Prop := (∀ x ∈ p, 0 ≤ x ∧ x < p.length) ∧ p.Nodup
def sumC (p : List Int) : Nat → Nat
  | 0 => 0
  | n + 1 => sumC p n + p.count (n : Int)
theorem sumC_eq (p : List Int) : ∀ n : Nat, sumC p n = p.countP (fun x : Int => decide (0 ≤ x ∧ x < (n : Int)))
  | 0 => by
    show 0 = _
    symm
    rw [List.countP_eq_zero]
    intro a _
    simp only [decide_eq_true_eq]; omega
  | n + 1 => by
    show sumC p n + p.count (n : Int) = _
    rw [sumC_eq p n]
    induction p with
    | nil => rfl
    | cons x p ih =>
      rw [List.countP_cons, List.countP_cons, List.count_cons]
      by_cases h1 : 0 ≤ x ∧ x < (n : Int)
      · have e1 : decide (0 ≤ x ∧ x < (n : Int)) = true := decide_eq_true h1
        have e2 : decide (0 ≤ x ∧ x < ((n + 1 : Nat) : Int)) = true := decide_eq_true (by omega)
        have e3 : (x == (n : Int)) = false := by rw [beq_eq_false_iff_ne]; omega
        simp only [e1, e2, e3, ↓reduceIte, Bool.false_eq_true]
        omega
      · by_cases h4 : x = (n : Int)
        · have e1 : decide (0 ≤ x ∧ x < (n : Int)) = false := decide_eq_false h1
          have e2 : decide (0 ≤ x ∧ x < ((n + 1 : Nat) : Int)) = true := decide_eq_true (by omega)
          have e3 : (x == (n : Int)) = true := by rw [beq_iff_eq]; omega
          simp only [e1, e2, e3, ↓reduceIte, Bool.false_eq_true]
          omega
        · have e1 : decide (0 ≤ x ∧ x < (n : Int)) = false := decide_eq_false h1
          have e2 : decide (0 ≤ x ∧ x < ((n + 1 : Nat) : Int)) = false := decide_eq_false (by omega)
          have e3 : (x == (n : Int)) = false := by rw [beq_eq_false_iff_ne]; omega
          simp only [e1, e2, e3, ↓reduceIte, Bool.false_eq_true]
          omega
theorem sumC_ones {p : List Int} : ∀ n, (∀ i : Nat, i < n → p.count (i : Int) = 1) → sumC p n = n
  | 0, _ => rfl
  | n + 1, h => by show sumC p n + _ = _; rw [sumC_ones n (fun i hi => h i (by omega)), h n (by omega)]
theorem sumC_le {p : List Int} : ∀ n, (∀ i : Nat, i < n → p.count (i : Int) ≤ 1) → sumC p n ≤ n
  | 0, _ => Nat.le_refl _
  | n + 1, h => by
    have := sumC_le n (fun i hi => h i (by omega)); have := h n (by omega)
    show sumC p n + _ ≤ _; omega
theorem sumC_tight {p : List Int} : ∀ n, (∀ i : Nat, i < n → p.count (i : Int) ≤ 1) → sumC p n = n → ∀ i : Nat, i < n → p.count (i : Int) = 1
  | 0, _, _, i, hi => by omega
  | n + 1, h, hs, i, hi => by
    have h1 := sumC_le n (fun i hi => h i (by omega)); have h2 := h n (by omega)
    have hs' : sumC p n + p.count (n : Int) = n + 1 := hs
    by_cases e : i = n
    · subst e; omega
    · exact sumC_tight n (fun i hi => h i (by omega)) (by omega) i (by omega)
theorem good_iff (p : List Int) : goodP p ↔ okP p := by
  constructor
  · rintro ⟨h1, h2⟩
    have hall : p.countP (fun x => decide (0 ≤ x ∧ x < (p.length : Int))) = p.length := by
      rw [List.countP_eq_length]
      intro x hx
      simpa using h1 x hx
    exact sumC_tight p.length (fun i _ => List.nodup_iff_count.1 h2 _) (by rw [sumC_eq, hall])
  · intro h
    have hs := sumC_ones (p := p) p.length h
    rw [sumC_eq] at hs
    rw [List.countP_eq_length] at hs
    have h1 : ∀ x ∈ p, 0 ≤ x ∧ x < (p.length : Int) := fun x hx => by simpa using hs x hx
    refine ⟨h1, ?_⟩
    rw [List.nodup_iff_count]
    intro x
    by_cases hx : x ∈ p
    · obtain ⟨h2, h3⟩ := h1 x hx
      have := h x.toNat (by omega)
      rw [Int.toNat_of_nonneg h2] at this
      omega
    · rw [List.count_eq_zero_of_not_mem hx]; omega
def rightB (p : List Int) (n : Int) : Bool := decide ((p.length : Int) = n ∧ okP p)
theorem rightB_iff (p : List Int) (n : Int) : rightB p n = true ↔ (p.length : Int) = n ∧ okP p := by simp [rightB]

/-- where a number stands; -1: nowhere -/
def placeI (p : List Int) (n : Int) : Int := if p.idxOf n < p.length then (p.idxOf n : Int) else -1
theorem idxOf_hit {n : Int} : ∀ {p : List Int} {k : Nat}, k < p.length → gi p k = n → (∀ j, j < k → gi p j ≠ n) → p.idxOf n = k
  | [], k, h, _, _ => by simp at h
  | x :: p, 0, _, h, _ => by
    have : x = n := by simpa [gi] using h
    rw [List.idxOf_cons]; simp [this]
  | x :: p, k + 1, h, hg, hn => by
    have h0 : x ≠ n := by simpa [gi] using hn 0 (by omega)
    have := idxOf_hit (n := n) (p := p) (k := k) (by simpa using h) (by simpa [gi] using hg) (fun j hj => by simpa [gi] using hn (j + 1) (by omega))
    rw [List.idxOf_cons]
    have h1 : (x == n) = false := by simpa using h0
    rw [h1, this]; rfl
theorem idxOf_miss {n : Int} {p : List Int} (h : ∀ j, j < p.length → gi p j ≠ n) : ¬ p.idxOf n < p.length := by
  intro hl
  have := List.idxOf_lt_length_iff.1 hl
  obtain ⟨j, hj, e⟩ := List.getElem_of_mem this
  exact h j hj (by simpa [gi, hj] using e)
theorem placeI_hit {p : List Int} {n : Int} {k : Nat} (h1 : k < p.length) (h2 : gi p k = n) (h3 : ∀ j, j < k → gi p j ≠ n) : placeI p n = k := by
  unfold placeI; rw [idxOf_hit h1 h2 h3, if_pos h1]
theorem placeI_miss {p : List Int} {n : Int} (h : ∀ j, j < p.length → gi p j ≠ n) : placeI p n = -1 := by
  unfold placeI; rw [if_neg (idxOf_miss h)]
theorem count_take_succ {p : List Int} {k : Nat} (n : Int) (h : k < p.length) : (p.take (k + 1)).count n = (p.take k).count n + if gi p k = n then 1 else 0 := by
  rw [take_gi h, List.count_append]
  congr 1
  by_cases e : gi p k = n
  · simp [e]
  · simp [e]
#print axioms good_iff
end Go.Proofs.Yteafkafkbipcmaa

namespace Go.Proofs.Yteafkafkbipcmaa
open Go.RowKit
set_option linter.unusedVariables false

theorem placeI_pos {p : List Int} {n : Int} : 0 ≤ placeI p n ↔ n ∈ p := by
  unfold placeI
  rw [← List.idxOf_lt_length_iff]
  by_cases h : p.idxOf n < p.length
  · rw [if_pos h]; exact ⟨fun _ => h, fun _ => by omega⟩
  · rw [if_neg h]; exact ⟨fun q => by omega, fun q => absurd q h⟩
/-- the document's word -/
def respB (N : Nat) (L : List Ed) (p : List Int) : Bool := decide (p.length = N) && ((List.range N).all fun i => decide (0 ≤ placeI p ((i : Nat) : Int))) && L.all fun x => decide (placeI p x.f < placeI p x.t)
section
variable {w : World} {D E : Nat → Prop} {u v : Value} {L : List Ed} {p : List Int} {N : Nat}
theorem refPlace_any (h : IntsV w D v p) (n : Int) :
    Calls Try.prog 38 #[v, .int .i64 n] w fun e w' => e = .returned (.int .i64 (placeI p n)) ∧ w = w' := by
  obtain ⟨ao, cap, rfl, hl, hc⟩ := h.facts
  have HC := Lib.hid hc
  obtain ⟨len, hlen⟩ : ∃ k, k = p.length := ⟨_, rfl⟩
  rw [← hlen] at hl ⊢
  have HLen := Lib.hid hlen
  clear hc h hlen
  go_enter Try.func38, Try.ntmps38
  go_wp2
  go_loop [5] (fun i => ∃ k : Nat, i = .int .i64 k ∧ k ≤ len ∧ ∀ j, j < k → gi p j ≠ n) (fun i => len - (intOf i).toNat)
  case atStart => exact ⟨0, rfl, Nat.zero_le _, fun j hj => by omega⟩
  case round =>
    obtain ⟨k, rfl, hk, hn⟩ := hrel
    have HN := Lib.hid hn
    clear hn
    by_cases hlt : k < len
    · obtain ⟨b, o, rfl, _, hcell⟩ := HC.out k (by rw [← HLen.out]; exact hlt)
      by_cases he : gi p k = n
      · have HE := Lib.hid he
        have hd : (gi p k == n) = true := by simpa using he
        clear he
        go_wp2
        go_ret
        exact ⟨by rw [placeI_hit (by rw [← HLen.out]; exact hlt) HE.out HN.out]; rfl, rfl⟩
      · have HE := Lib.hid he
        have hd : (gi p k == n) = false := by simpa using he
        clear he
        go_wp2
        go_round
        case rel => exact ⟨k + 1, by go_num, by omega, fun j hj => by
          by_cases e : j = k
          · subst e; exact HE.out
          · exact HN.out j (by omega)⟩
        case measure => simp [intOf]; omega
    · obtain rfl : k = len := by omega
      go_wp2
      go_ret
      exact ⟨by rw [placeI_miss (by rw [← HLen.out]; exact HN.out)]; rfl, rfl⟩
set_option maxRecDepth 100000 in
set_option maxHeartbeats 8000000 in
theorem refRespects_any (h : EdsV w D v L) (hz : IntsV w E u p) (hl : L.length ≤ 1000) (hN : N ≤ 1000) :
    Calls Try.prog 20 #[.agg #[.int .i64 (N : Nat), v], u] w fun e w' => e = .returned (.bool (respB N L p)) ∧ Fx No w w' := by
  have HZ := Lib.hid hz
  obtain ⟨zo, zcap, rfl, hzl, _⟩ := hz.facts
  obtain ⟨ao, cap, rfl, _, _, hc⟩ := h.facts
  have HC := Lib.hid hc
  obtain ⟨m, hm⟩ : ∃ m, m = p.length := ⟨_, rfl⟩
  have HM := Lib.hid hm
  rw [← hm] at hzl ⊢
  have HZm : Hid (IntsV w E (.slice zo m zcap) p) := Lib.hid (by rw [hm]; exact HZ.out)
  clear h hz hc hm
  by_cases hmN : m = N
  · have hne : ((m : Int) != (N : Int)) = false := by simp [hmN]
    have HL : Hid (decide (p.length = N) = true) := Lib.hid (by rw [← HM.out, hmN]; simp)
    have HMN := Lib.hid hmN
    clear hmN HZ
    have HZ := HZm
    go_enter Try.func20, Try.ntmps20
    go_upto_region 1 with fail
    refine wp_hold (fun W => Fx No w W ∧ W.cell? ⟨w.heap.size, 0, none⟩ = some (.int .i64 (N : Nat)) ∧ W.cell? ⟨w.heap.size, 1, none⟩ = some (.slice ao L.length cap)) ⟨(Fx.refl No w).alloc _, by go_simp, by go_simp⟩ ?_
    rintro w1 ⟨hF1, c0, c1⟩
    obtain ⟨cb, hcb⟩ : ∃ e, e = w.heap.size := ⟨_, rfl⟩
    rw [← hcb] at c0 c1 ⊢
    have HF1 := Lib.hid hF1
    have HC0 := Lib.hid c0
    have HC1 := Lib.hid c1
    clear hF1 c1 hcb
    go_wp2
    clear c0
    go_loopw [5] (fun i ws => ∃ k : Nat, i = .int .i64 (k : Nat) ∧ k ≤ N ∧ ws = w1 ∧ ∀ j, j < k → 0 ≤ placeI p ((j : Nat) : Int)) (fun i _ => N - (intOf i).toNat)
    case atStart => exact ⟨0, rfl, by omega, rfl, fun j hj => by omega⟩
    case round =>
      obtain ⟨k, rfl, hk, rfl, hall⟩ := hrel
      have HAll := Lib.hid hall
      have c0 := HC0.out
      clear hall
      by_cases hkN : k < N
      · have k1 : (k : Int) < (N : Int) := by omega
        go_wp2_with fail
        refine (refPlace_any (HZ.out.no HF1.out) (k : Int)).mono ?_
        rintro e w2 ⟨rfl, rfl⟩
        obtain ⟨z, hz⟩ : ∃ z, z = placeI p (k : Int) := ⟨_, rfl⟩
        rw [← hz]
        have HZe := Lib.hid hz
        clear hz
        by_cases hz0 : z < 0
        · have HB : Hid (respB N L p = false) := Lib.hid (by
            unfold respB
            rw [Bool.and_eq_false_iff, Bool.and_eq_false_iff]
            left; right
            rw [List.all_eq_false]
            exact ⟨k, List.mem_range.2 hkN, by rw [← HZe.out]; simp; omega⟩)
          go_wp2
          go_ret
          exact ⟨by rw [HB.out]; rfl, HF1.out⟩
        · go_wp2
          go_roundw
          case rel => exact ⟨k + 1, by go_num, by omega, trivial, fun j hj => by
            by_cases e : j = k
            · rw [e, ← HZe.out]; omega
            · exact HAll.out j (by omega)⟩
          case measure => simp [intOf]; omega
      · have k1 : ¬ (k : Int) < (N : Int) := by omega
        have HA : Hid (((List.range N).all fun i => decide (0 ≤ placeI p ((i : Nat) : Int))) = true) := Lib.hid (by
          rw [List.all_eq_true]
          intro i hi
          have := List.mem_range.1 hi
          exact decide_eq_true (HAll.out i (by omega)))
        have c1 := HC1.out
        clear hkN hk HAll
        go_wp2
        clear c0
        go_loopw [6] (fun i ws => ∃ q : Nat, i = .int .i64 (q : Nat) ∧ q ≤ L.length ∧ Fx No wr ws ∧ ∀ j, j < q → placeI p (gt L j).f < placeI p (gt L j).t) (fun i _ => L.length - (intOf i).toNat)
        case atStart => exact ⟨0, rfl, by omega, Fx.refl _ _, fun j hj => by omega⟩
        case round =>
          clear c1
          obtain ⟨q, rfl, hq, hf, hall⟩ := hrel
          have HF := Lib.hid hf
          have HAl := Lib.hid hall
          have c1 := hf.cell' HC1.out (fun q => q)
          by_cases hqL : q < L.length
          · obtain ⟨bb, oo, rfl, _, p0, p1, _⟩ := HC.out q hqL
            have p0 := hf.cell' (HF1.out.cell' p0 (fun h => h)) (fun h => h)
            have p1 := hf.cell' (HF1.out.cell' p1 (fun h => h)) (fun h => h)
            obtain ⟨xf, hxf⟩ : ∃ xf, xf = (gt L q).f := ⟨_, rfl⟩
            obtain ⟨xt, hxt⟩ : ∃ xt, xt = (gt L q).t := ⟨_, rfl⟩
            rw [← hxf] at p0
            rw [← hxt] at p1
            have HXf := Lib.hid hxf
            have HXt := Lib.hid hxt
            have HqL := Lib.hid hqL
            have q0 : (0 : Int) ≤ (q : Int) := by omega
            have q1 : (q : Int) < (L.length : Int) := by omega
            have r1 : ∀ W, Fx No wr W → W.cell? ⟨cb, 1, none⟩ = some (.slice (some ⟨bb, oo, none⟩) L.length cap) := fun W h => h.cell' c1 (fun q => q)
            have g0 : ∀ W, Fx No wr W → W.cell? ⟨bb, oo + q * 3, none⟩ = some (.int .i64 xf) := fun W h => h.cell' p0 (fun q => q)
            have g1 : ∀ W, Fx No wr W → W.cell? ⟨bb, oo + q * 3 + 1, none⟩ = some (.int .i64 xt) := fun W h => h.cell' p1 (fun q => q)
            clear hf hall hxf hxt p0 p1 hqL
            go_wp2_with fail
            refine wp_region_H (fun W => Fx No wr W) (by kernel_rfl) ((Fx.refl _ _).drew) ?_
            intro hS
            refine wpAnyH_take (i := 0) (v := ?_) rfl (by kernel_rfl) (by kernel_rfl) (by kernel_rfl) (fun _ _ _ h => h) (Or.inl ⟨by rfl, ?_⟩) hS ?_
            rotate_left
            · (intro W hs; go_simp; first | done | with_reducible rfl)
            try simp only [Act.put, List.getElem_toArray, List.getElem_cons_zero, List.getElem_cons_succ, List.setIfInBounds_toArray, List.set_cons_zero, List.set_cons_succ]
            refine wpAnyH_take (i := 1) (v := ?_) rfl (by kernel_rfl) (by kernel_rfl) (by kernel_rfl) (fun _ _ _ h => h) (Or.inl ⟨by rfl, ?_⟩) hS ?_
            rotate_left
            · (intro W hs; go_simp; first | done | with_reducible rfl)
            try simp only [Act.put, List.getElem_toArray, List.getElem_cons_zero, List.getElem_cons_succ, List.setIfInBounds_toArray, List.set_cons_zero, List.set_cons_succ]
            refine wpAnyH_take (i := 2) (v := ?_) rfl (by kernel_rfl) (by kernel_rfl) (by kernel_rfl) (fun _ _ _ h => h) (Or.inl ⟨by rfl, ?_⟩) hS ?_
            rotate_left
            · (intro W hs; go_simp; first | done | with_reducible rfl)
            try simp only [Act.put, List.getElem_toArray, List.getElem_cons_zero, List.getElem_cons_succ, List.setIfInBounds_toArray, List.set_cons_zero, List.set_cons_succ]
            refine wpAnyH_take (i := 3) (v := ?_) rfl (by kernel_rfl) (by kernel_rfl) (by kernel_rfl) (fun _ _ _ h => h) (Or.inl ⟨by rfl, ?_⟩) hS ?_
            rotate_left
            · (intro W hs; go_simp; first | done | with_reducible rfl)
            try simp only [Act.put, List.getElem_toArray, List.getElem_cons_zero, List.getElem_cons_succ, List.setIfInBounds_toArray, List.set_cons_zero, List.set_cons_succ]
            refine wpAnyH_take (i := 4) (v := ?_) rfl (by kernel_rfl) (by kernel_rfl) (by kernel_rfl) (fun _ _ _ h => h) (Or.inl ⟨by rfl, ?_⟩) hS ?_
            rotate_left
            · (intro W hs; go_simp; first | done | with_reducible rfl)
            try simp only [Act.put, List.getElem_toArray, List.getElem_cons_zero, List.getElem_cons_succ, List.setIfInBounds_toArray, List.set_cons_zero, List.set_cons_succ]
            refine wpAnyH_take (i := 5) (v := ?_) rfl (by kernel_rfl) (by kernel_rfl) (by kernel_rfl) (fun _ _ _ h => h) (Or.inl ⟨by rfl, ?_⟩) hS ?_
            rotate_left
            · (intro W hs; go_simp; first | done | with_reducible rfl)
            try simp only [Act.put, List.getElem_toArray, List.getElem_cons_zero, List.getElem_cons_succ, List.setIfInBounds_toArray, List.set_cons_zero, List.set_cons_succ]
            refine wpAnyH_take (i := 6) (v := ?_) rfl (by kernel_rfl) (by kernel_rfl) (by kernel_rfl) (fun _ _ _ h => h) (Or.inl ⟨by rfl, ?_⟩) hS ?_
            rotate_left
            · (intro W hs; go_simp; first | done | with_reducible rfl)
            try simp only [Act.put, List.getElem_toArray, List.getElem_cons_zero, List.getElem_cons_succ, List.setIfInBounds_toArray, List.set_cons_zero, List.set_cons_succ]
            refine wpAnyH_take (i := 8) (v := ?_) rfl (by kernel_rfl) (by kernel_rfl) (by kernel_rfl) (fun _ _ _ h => h) (Or.inl ⟨by rfl, ?_⟩) hS ?_
            rotate_left
            · (intro W hs; go_simp; first | done | with_reducible rfl)
            try simp only [Act.put, List.getElem_toArray, List.getElem_cons_zero, List.getElem_cons_succ, List.setIfInBounds_toArray, List.set_cons_zero, List.set_cons_succ]
            refine wpAnyH_take (i := 9) (v := ?_) rfl (by kernel_rfl) (by kernel_rfl) (by kernel_rfl) (fun _ _ _ h => h) (Or.inl ⟨by rfl, ?_⟩) hS ?_
            rotate_left
            · (intro W hs; go_simp; first | done | with_reducible rfl)
            try simp only [Act.put, List.getElem_toArray, List.getElem_cons_zero, List.getElem_cons_succ, List.setIfInBounds_toArray, List.set_cons_zero, List.set_cons_succ]
            refine wpAnyH_take (i := 10) (v := ?_) rfl (by kernel_rfl) (by kernel_rfl) (by kernel_rfl) (fun _ _ _ h => h) (Or.inl ⟨by rfl, ?_⟩) hS ?_
            rotate_left
            · (intro W hs; go_simp; first | done | with_reducible rfl)
            try simp only [Act.put, List.getElem_toArray, List.getElem_cons_zero, List.getElem_cons_succ, List.setIfInBounds_toArray, List.set_cons_zero, List.set_cons_succ]
            refine wpAnyH_take (i := 11) (v := ?_) rfl (by kernel_rfl) (by kernel_rfl) (by kernel_rfl) (fun _ _ _ h => h) (Or.inl ⟨by rfl, ?_⟩) hS ?_
            rotate_left
            · (intro W hs; go_simp; first | done | with_reducible rfl)
            try simp only [Act.put, List.getElem_toArray, List.getElem_cons_zero, List.getElem_cons_succ, List.setIfInBounds_toArray, List.set_cons_zero, List.set_cons_succ]
            refine wpAnyH_take (i := 12) (v := ?_) rfl (by kernel_rfl) (by kernel_rfl) (by kernel_rfl) (fun _ _ _ h => h) (Or.inl ⟨by rfl, ?_⟩) hS ?_
            rotate_left
            · (intro W hs; go_simp; first | done | with_reducible rfl)
            try simp only [Act.put, List.getElem_toArray, List.getElem_cons_zero, List.getElem_cons_succ, List.setIfInBounds_toArray, List.set_cons_zero, List.set_cons_succ]
            refine wpAnyH_take (i := 13) (v := ?_) rfl (by kernel_rfl) (by kernel_rfl) (by kernel_rfl) (fun _ _ _ h => h) (Or.inl ⟨by rfl, ?_⟩) hS ?_
            rotate_left
            · (intro W hs; go_simp; first | done | with_reducible rfl)
            try simp only [Act.put, List.getElem_toArray, List.getElem_cons_zero, List.getElem_cons_succ, List.setIfInBounds_toArray, List.set_cons_zero, List.set_cons_succ]
            refine wpAnyH_take (i := 14) (v := ?_) rfl (by kernel_rfl) (by kernel_rfl) (by kernel_rfl) (fun _ _ _ h => h) (Or.inl ⟨by rfl, ?_⟩) hS ?_
            rotate_left
            · (intro W hs; go_simp; first | done | with_reducible rfl)
            try simp only [Act.put, List.getElem_toArray, List.getElem_cons_zero, List.getElem_cons_succ, List.setIfInBounds_toArray, List.set_cons_zero, List.set_cons_succ]
            refine wpH_one (i := 7) (by kernel_rfl) rfl (fun Kk hK => ?_)
            go_simp
            refine (refPlace_any (HZ.out.no (HF1.out.trans (HF.out.trans hS))) xf).mono ?_
            rintro e y1 ⟨rfl, rfl⟩
            refine hK.out _ _ hS (fun hS' => ?_)
            clear hK Kk hS
            have hS := hS'
            clear hS'
            try simp only [Act.put, List.getElem_toArray, List.getElem_cons_zero, List.getElem_cons_succ, List.setIfInBounds_toArray, List.set_cons_zero, List.set_cons_succ]
            refine wpH_one (i := 15) (by kernel_rfl) rfl (fun Kk hK => ?_)
            go_simp
            refine (refPlace_any (HZ.out.no (HF1.out.trans (HF.out.trans hS))) xt).mono ?_
            rintro e y2 ⟨rfl, rfl⟩
            refine hK.out _ _ hS (fun hS' => ?_)
            clear hK Kk hS
            have hS := hS'
            clear hS'
            try simp only [Act.put, List.getElem_toArray, List.getElem_cons_zero, List.getElem_cons_succ, List.setIfInBounds_toArray, List.set_cons_zero, List.set_cons_succ]
            refine wpAnyH_take (i := 16) (v := ?_) rfl (by kernel_rfl) (by kernel_rfl) (by kernel_rfl) (fun _ _ _ h => h) (Or.inl ⟨by rfl, ?_⟩) hS ?_
            rotate_left
            · (intro W hs; go_simp; first | done | with_reducible rfl)
            try simp only [Act.put, List.getElem_toArray, List.getElem_cons_zero, List.getElem_cons_succ, List.setIfInBounds_toArray, List.set_cons_zero, List.set_cons_succ]
            refine wpAnyH_done (by kernel_rfl) ?_ _
            have HSe := Lib.hid (HF.out.trans hS)
            clear hS r1 g0 g1
            obtain ⟨za, hza⟩ : ∃ z, z = placeI p xf := ⟨_, rfl⟩
            obtain ⟨zb, hzb⟩ : ∃ z, z = placeI p xt := ⟨_, rfl⟩
            rw [← hza, ← hzb]
            have HZa := Lib.hid hza
            have HZb := Lib.hid hzb
            clear hza hzb c1
            by_cases hge : zb ≤ za
            · have hge2 : za ≥ zb := hge
              have HB : Hid (respB N L p = false) := Lib.hid (by
                unfold respB
                rw [Bool.and_eq_false_iff]
                right
                rw [List.all_eq_false]
                refine ⟨gt L q, gt_mem HqL.out, ?_⟩
                rw [← HXf.out, ← HXt.out, ← HZa.out, ← HZb.out]; simp; omega)
              go_wp2
              go_ret
              exact ⟨by rw [HB.out]; rfl, HF1.out.trans HSe.out⟩
            · have hge2 : ¬ za ≥ zb := hge
              go_wp2
              go_roundw
              case rel => exact ⟨q + 1, by go_num, by have := HqL.out; omega, HSe.out, fun j hj => by
                by_cases e : j = q
                · rw [e, ← HXf.out, ← HXt.out, ← HZa.out, ← HZb.out]; omega
                · exact HAl.out j (by omega)⟩
              case measure => simp [intOf]; have := HqL.out; omega
          · have q1 : ¬ (q : Int) < (L.length : Int) := by omega
            have HB : Hid (respB N L p = true) := Lib.hid (by
              unfold respB
              rw [HL.out, HA.out, Bool.true_and, Bool.true_and, List.all_eq_true]
              intro x hx
              obtain ⟨j, hj, rfl⟩ := List.getElem_of_mem hx
              have h1 := hall j (by omega)
              have e : gt L j = L[j] := by simp [gt, hj]
              rw [e] at h1
              exact decide_eq_true h1)
            have HFE := Lib.hid (HF1.out.trans hf)
            clear hf hall hqL
            go_wp2
            go_ret
            exact ⟨by rw [HB.out]; rfl, HFE.out⟩
  · have hne : ((m : Int) != (N : Int)) = true := by simp; omega
    have HB : Hid (respB N L p = false) := Lib.hid (by unfold respB; rw [decide_eq_false (by rw [← HM.out]; exact hmN)]; rfl)
    clear hmN
    go_enter Try.func20, Try.ntmps20
    go_upto_region 1 with fail
    refine wp_hold (fun W => Fx No w W ∧ W.cell? ⟨w.heap.size, 0, none⟩ = some (.int .i64 (N : Nat))) ⟨(Fx.refl No w).alloc _, by go_simp⟩ ?_
    rintro w1 ⟨hF1, c0⟩
    have HF1 := Lib.hid hF1
    clear hF1
    go_wp2
    go_ret
    exact ⟨by rw [HB.out]; rfl, HF1.out⟩
end
#print axioms refRespects_any
end Go.Proofs.Yteafkafkbipcmaa

namespace Go.Proofs.Yteafkafkbipcmaa
open Go.RowKit
set_option linter.unusedVariables false

theorem sumC_tight2 {p : List Int} : ∀ n, (∀ i : Nat, i < n → 1 ≤ p.count (i : Int)) → n ≤ sumC p n ∧ (sumC p n ≤ n → ∀ i : Nat, i < n → p.count (i : Int) = 1)
  | 0, _ => ⟨Nat.zero_le _, fun _ i hi => by omega⟩
  | n + 1, h => by
    obtain ⟨h1, h2⟩ := sumC_tight2 n (fun i hi => h i (by omega))
    have h3 := h n (by omega)
    have e : sumC p (n + 1) = sumC p n + p.count (n : Int) := rfl
    refine ⟨by omega, fun hs i hi => ?_⟩
    by_cases e2 : i = n
    · subst e2; omega
    · exact h2 (by omega) i (by omega)
theorem mem_ok {p : List Int} (h : ∀ i : Nat, i < p.length → (i : Int) ∈ p) : okP p := by
  refine (sumC_tight2 p.length fun i hi => List.count_pos_iff.2 (h i hi)).2 ?_
  rw [sumC_eq]
  exact List.countP_le_length
theorem respB_good {N : Nat} {L : List Ed} {p : List Int} (hp : p.length = N) (h : respB N L p = true) : goodP p := by
  unfold respB at h
  rw [Bool.and_eq_true, Bool.and_eq_true, List.all_eq_true] at h
  refine (good_iff p).2 (mem_ok fun i hi => ?_)
  exact placeI_pos.1 (of_decide_eq_true (h.1.2 i (List.mem_range.2 (by omega))))
theorem respB_bad {N k : Nat} {L : List Ed} {p : List Int} (hp : p.length = N) (hk : k < p.length) (hb : gi p k < 0 ∨ (N : Int) ≤ gi p k ∨ gi p k ∈ p.take k) : respB N L p = false := by
  cases h : respB N L p with
  | false => rfl
  | true =>
    exfalso
    obtain ⟨h1, h2⟩ := respB_good hp h
    have hm : gi p k ∈ p := by simp [gi, hk]
    obtain ⟨h3, h4⟩ := h1 _ hm
    rcases hb with e | e | e
    · omega
    · omega
    · obtain ⟨i, hi, e2⟩ := List.mem_take_iff_getElem.1 e
      have h5 := List.nodup_iff_pairwise_ne.1 h2
      rw [List.pairwise_iff_getElem] at h5
      exact h5 i k (by omega) hk (by omega) (by rw [e2]; simp [gi, hk])
/-- the row of places, behind k numbers -/
def atF (p : List Int) (k : Nat) (j : Nat) : Int := if ((j : Nat) : Int) ∈ p.take k then placeI p ((j : Nat) : Int) + 1 else 0
theorem placeI_new {p : List Int} {k : Nat} (hk : k < p.length) (hn : gi p k ∉ p.take k) : placeI p (gi p k) = k := by
  refine placeI_hit hk rfl fun j hj e => hn ?_
  rw [List.mem_take_iff_getElem]
  exact ⟨j, by omega, by rw [← e]; simp [gi, show j < p.length by omega]⟩
theorem atF_step {p : List Int} {k v : Nat} (hk : k < p.length) (hv : gi p k = ((v : Nat) : Int)) (hn : gi p k ∉ p.take k) (j : Nat) : (if j = v then (k : Int) + 1 else atF p k j) = atF p (k + 1) j := by
  unfold atF
  rw [take_gi hk]
  by_cases e : j = v
  · subst e
    have := placeI_new hk hn
    rw [hv] at this
    rw [if_pos rfl, if_pos (by rw [hv]; simp), this]
  · rw [if_neg e]
    have : ((j : Nat) : Int) ∈ p.take k ++ [gi p k] ↔ ((j : Nat) : Int) ∈ p.take k := by
      rw [List.mem_append, List.mem_singleton, hv]
      constructor
      · rintro (q | q)
        · exact q
        · exact absurd (by omega) e
      · exact .inl
    simp only [this]
theorem respB_end {N : Nat} {L : List Ed} {p : List Int} (hp : p.length = N) (hg : ∀ i, i < N → 0 ≤ gi p i ∧ gi p i < (N : Int)) (hd : ∀ i, i < N → gi p i ∉ p.take i) (hL : NdE L N) : (!(L.any fun x => decide (atF p N x.t.toNat ≤ atF p N x.f.toNat))) = respB N L p := by
  have hgood : goodP p := by
    refine ⟨fun x hx => ?_, ?_⟩
    · obtain ⟨i, hi, rfl⟩ := List.getElem_of_mem hx
      have := hg i (by omega)
      simp [gi, hi] at this
      omega
    · rw [List.nodup_iff_pairwise_ne, List.pairwise_iff_getElem]
      intro i j hi hj hij e
      refine hd j (by omega) ?_
      rw [List.mem_take_iff_getElem]
      exact ⟨i, by omega, by rw [e]; simp [gi, hj]⟩
  have hok := (good_iff p).1 hgood
  have hmem : ∀ i, i < N → ((i : Nat) : Int) ∈ p := fun i hi => List.count_pos_iff.1 (by rw [hok i (by omega)]; omega)
  have hat : ∀ i, i < N → atF p N i = placeI p ((i : Nat) : Int) + 1 := fun i hi => by
    unfold atF
    rw [if_pos (by rw [← hp, List.take_length]; exact hmem i hi)]
  unfold respB
  rw [decide_eq_true hp, Bool.true_and, List.all_eq_true.2 (fun i hi => decide_eq_true (placeI_pos.2 (hmem i (List.mem_range.1 hi)))), Bool.true_and, List.not_any_eq_all_not]
  rw [Bool.eq_iff_iff, List.all_eq_true, List.all_eq_true]
  have key : ∀ x ∈ L, ((!decide (atF p N x.t.toNat ≤ atF p N x.f.toNat)) = true ↔ decide (placeI p x.f < placeI p x.t) = true) := fun x hx => by
    obtain ⟨⟨h1, h2⟩, h3, h4⟩ := hL x hx
    rw [hat _ (by omega), hat _ (by omega), Int.toNat_of_nonneg h1, Int.toNat_of_nonneg h3]
    simp <;> omega
  exact ⟨fun h x hx => (key x hx).1 (h x hx), fun h x hx => (key x hx).2 (h x hx)⟩
section
variable {w w' : World} {D S T : Nat → Prop} {b n : Nat} {L : List Ed}
set_option maxRecDepth 100000 in
set_option maxHeartbeats 1000000 in
theorem indexFuncR_any {v : Value} {xs : List Ed} {c : Value} {p : Ed → Bool} (h : EdsV w D v xs) (hC : ∀ W, Fx No w W → ∀ x ∈ xs, Calls Try.prog 37 #[evE x, c] W fun r w' => r = .returned (.bool (p x)) ∧ Fx No W w') :
    Calls Try.prog 51 #[v, .func (.func 37) #[] #[c]] w fun r w' => r = .returned (.int .i64 (fIdx p xs 0)) ∧ Fx No w w' := by
  have HC := Lib.hid hC
  obtain ⟨ao, cap, rfl, hcl, hcm, hc⟩ := EdsV.facts h
  have HX := Lib.hid hc
  have H0 : Hid (fIdx p xs 0 = fIdx p (xs.drop 0) 0) := Lib.hid (by simp)
  clear hC hc h
  go_enter Try.func51, Try.ntmps51
  go_wp2
  go_loopw [8] (fun i ws => ∃ k : Nat, i = .int .i64 k ∧ k ≤ xs.length ∧ Fx No w ws ∧ Hid (fIdx p xs 0 = fIdx p (xs.drop k) k)) (fun i _ => xs.length - (intOf i).toNat)
  case atStart => exact ⟨0, rfl, Nat.zero_le _, Fx.refl _ _, H0⟩
  case round =>
    obtain ⟨k, rfl, hk, hf, HK⟩ := hrel
    have HF := Lib.hid hf
    clear hf
    by_cases hlt : k < xs.length
    · obtain ⟨bb, oo, rfl, _, p0, p1, p2⟩ := HX.out k hlt
      have HS := Lib.hid (fIdx_drop p hlt)
      have hmem := gt_mem hlt
      obtain ⟨x, hx⟩ : ∃ x, x = gt xs k := ⟨_, rfl⟩
      rw [← hx] at p0 p1 p2 HS hmem
      have k0 := HF.out.cell' p0 (fun h => h)
      have k1 := HF.out.cell' p1 (fun h => h)
      have k2 := HF.out.cell' p2 (fun h => h)
      have CX : Hid (Calls Try.prog 37 #[.agg #[.int .i64 x.f, .int .i64 x.t, .int .i64 x.l], c] wr fun r w' => r = .returned (.bool (p x)) ∧ Fx No wr w') := Lib.hid (HC.out wr HF.out x hmem)
      have hk0 : (0 : Int) ≤ (k : Int) := by omega
      have hk1 : (k : Int) < (xs.length : Int) := by omega
      clear p0 p1 p2 hx
      obtain ⟨px, hpx⟩ : ∃ t, t = p x := ⟨_, rfl⟩
      rw [← hpx] at HS CX
      clear hpx
      go_wp2_with fail
      refine CX.out.mono ?_
      rintro r w1 ⟨rfl, hf⟩
      have HF1 := Lib.hid (HF.out.trans hf)
      clear hf CX
      cases px
      · go_wp2
        go_roundw
        case rel => exact ⟨k + 1, by go_num, by omega, HF1.out, Lib.hid (by rw [HK.out, HS.out]; simp)⟩
        case measure => simp [intOf]; omega
      · go_wp2
        go_ret
        refine ⟨?_, HF1.out⟩
        rw [HK.out, HS.out]; rfl
    · obtain rfl : k = xs.length := by omega
      go_wp2
      go_ret
      refine ⟨?_, HF.out⟩
      rw [HK.out]; simp [fIdx]
theorem containsFuncR_any {v : Value} {xs : List Ed} {c : Value} {p : Ed → Bool} (h : EdsV w D v xs) (hC : ∀ W, Fx No w W → ∀ x ∈ xs, Calls Try.prog 37 #[evE x, c] W fun r w' => r = .returned (.bool (p x)) ∧ Fx No W w') :
    Calls Try.prog 36 #[v, .func (.func 37) #[] #[c]] w fun r w' => r = .returned (.bool (xs.any p)) ∧ Fx No w w' := by
  have H := Lib.hid h
  have HC := Lib.hid hC
  have d1 : decide (0 ≤ fIdx p xs 0) = xs.any p := fIdx_any p xs 0
  obtain ⟨z, hz⟩ : ∃ z, z = fIdx p xs 0 := ⟨_, rfl⟩
  have HZ := Lib.hid hz
  rw [← hz] at d1
  obtain ⟨t, ht⟩ : ∃ t, t = xs.any p := ⟨_, rfl⟩
  rw [← ht] at d1 ⊢
  clear h hC hz ht
  go_enter Try.func36, Try.ntmps36
  go_wp2_with fail
  refine (indexFuncR_any H.out HC.out).mono ?_
  rintro r w1 ⟨rfl, hf⟩
  have HF := Lib.hid hf
  rw [← HZ.out]
  clear hf
  go_wp2
  go_ret
  exact ⟨rfl, HF.out⟩
end
section
variable {w : World} {D E : Nat → Prop} {u : Value} {L : List Ed} {p : List Int} {N gb ab qb : Nat} {f : Nat → Int}
set_option maxRecDepth 100000 in
set_option maxHeartbeats 2000000 in
theorem resp1_any (ha : w.cell? ⟨ab, 0, none⟩ = some (.slice (some ⟨qb, 0, none⟩) N N)) (hq : IntB w qb N f) (x : Ed) (hx : (0 ≤ x.f ∧ x.f < (N : Int)) ∧ 0 ≤ x.t ∧ x.t < (N : Int)) (hN : N ≤ 1000) :
    Calls Try.prog 37 #[evE x, .pointer (some ⟨ab, 0, none⟩)] w fun r w' => r = .returned (.bool (decide (f x.t.toNat ≤ f x.f.toNat))) ∧ Fx No w w' := by
  obtain ⟨⟨x1, x2⟩, x3, x4⟩ := hx
  obtain ⟨xf, xt, xl⟩ := x
  simp only at x1 x2 x3 x4
  obtain ⟨a, rfl⟩ := Int.eq_ofNat_of_zero_le x1
  obtain ⟨c, rfl⟩ := Int.eq_ofNat_of_zero_le x3
  obtain ⟨p0, _⟩ := hq a (by omega)
  obtain ⟨p1, _⟩ := hq c (by omega)
  have HR : Hid (∀ B : Bool, B = decide (f c ≤ f a) → (Ending.returned (.bool B) : Ending) = .returned (.bool (decide (f ((c : Nat) : Int).toNat ≤ f ((a : Nat) : Int).toNat)))) := Lib.hid fun B h => by rw [h, Int.toNat_natCast, Int.toNat_natCast]
  obtain ⟨fa, hfa⟩ : ∃ z, z = f a := ⟨_, rfl⟩
  obtain ⟨fc, hfc⟩ : ∃ z, z = f c := ⟨_, rfl⟩
  rw [← hfa] at p0
  rw [← hfc] at p1
  have HE : Hid (decide (f c ≤ f a) = decide (fc ≤ fa)) := Lib.hid (by rw [hfa, hfc])
  have ha := cell?_alloc_some' ha (.cells #[.int .i64 (a : Int), .int .i64 (c : Int), .int .i64 xl] 57)
  have p0 := cell?_alloc_some' p0 (.cells #[.int .i64 (a : Int), .int .i64 (c : Int), .int .i64 xl] 57)
  have p1 := cell?_alloc_some' p1 (.cells #[.int .i64 (a : Int), .int .i64 (c : Int), .int .i64 xl] 57)
  clear hq hfa hfc
  unfold evE
  go_enter Try.func37, Try.ntmps37
  go_wp2
  go_quiet (fail)
  refine q_hold (fun W => Fx No w W) (((Fx.refl No w).alloc _).drewN _) ?_
  rintro w1 hf
  have HF := Lib.hid hf
  clear hf
  go_wp2
  go_ret
  exact ⟨HR.out _ (by rw [HE.out]), HF.out⟩
set_option maxRecDepth 100000 in
set_option maxHeartbeats 8000000 in
theorem respects_any (hg : GraphV w D gb N L) (hz : IntsV w E u p) (hN : N ≤ 1000) :
    Calls Try.prog 19 #[.pointer (some ⟨gb, 0, none⟩), u] w fun e w' => e = .returned (.bool (respB N L p)) ∧ Fx No w w' := by
  have HG := Lib.hid hg
  have HNd : Hid (NdE L N) := Lib.hid hg.nodes
  have HZ := Lib.hid hz
  obtain ⟨zo, zcap, rfl, hzl, hc⟩ := hz.facts
  have HC := Lib.hid hc
  obtain ⟨m, hm⟩ : ∃ m, m = p.length := ⟨_, rfl⟩
  have HM := Lib.hid hm
  rw [← hm] at hzl ⊢
  clear hg hz hc hm
  by_cases hmN : m = N
  · subst hmN
    have hne : ((m : Int) != (m : Int)) = false := by simp
    have hm1 := run_make_row' (P := Try.prog) 32 3 (.int .i64 0) 8 Try.underlying32 (by kernel_rfl) rfl .i64 .i64 m (by omega) (by omega)
    go_enter Try.func19, Try.ntmps19
    go_wp2_with fail
    refine (gLen_any HG.out).mono ?_
    rintro e w1 ⟨rfl, rfl⟩
    go_upto_region 4 with fail
    refine wp_hold (fun W => Fx No w W ∧ W.cell? ⟨w.heap.size + 1, 0, none⟩ = some (.slice (some ⟨w.heap.size, 0, none⟩) m m) ∧ IntB W w.heap.size m (fun _ => 0) ∧ w.heap.size + 1 < W.heap.size) ⟨((Fx.refl No w).alloc _).alloc _, (new_cells (by rw [World.size_alloc]) rfl).1, IntB.no (fun i hi => new_cells rfl (by simp [madeCells, hi, Nat.mod_one])) ((Fx.refl No _).alloc _), by rw [World.size_alloc, World.size_alloc]; omega⟩ ?_
    rintro w1 ⟨hF1, c0, hb, hz1⟩
    obtain ⟨qb, hqb⟩ : ∃ e, e = w.heap.size := ⟨_, rfl⟩
    obtain ⟨ab, hab⟩ : ∃ e, e = w.heap.size + 1 := ⟨_, rfl⟩
    rw [← hab] at c0 hz1 ⊢
    rw [← hqb] at c0 hb ⊢
    have HF1 := Lib.hid hF1
    have HC0 := Lib.hid c0
    have HB1 := Lib.hid hb
    have HQ : Hid (qb = w.heap.size ∧ ab = qb + 1 ∧ ab < w1.heap.size) := Lib.hid ⟨hqb, by omega, hz1⟩
    clear hF1 c0 hb hz1 hqb hab hm1
    go_wp2
    go_loopw [22] (fun i ws => ∃ k : Nat, i = .int .i64 (k : Nat) ∧ k ≤ m ∧ Fx (fun y => y = qb) w1 ws ∧ IntB ws qb m (atF p k) ∧ (∀ i, i < k → 0 ≤ gi p i ∧ gi p i < (m : Int)) ∧ ∀ i, i < k → gi p i ∉ p.take i) (fun i _ => m - (intOf i).toNat)
    case atStart => exact ⟨0, rfl, by omega, Fx.refl _ _, HB1.out.congr fun i hi => by simp [atF], fun i hi => by omega, fun i hi => by omega⟩
    case round =>
      obtain ⟨k, rfl, hk, hf, hi, hr, hd⟩ := hrel
      have HF := Lib.hid hf
      have HI := Lib.hid hi
      have HRn := Lib.hid hr
      have HDn := Lib.hid hd
      have haq : ¬ ab = qb := by have := HQ.out; omega
      have c0 := hf.cell' HC0.out haq
      have hzz : IntsV wr (fun k => E k ∧ k < w.heap.size) (.slice zo m zcap) p := (IntsV.no (SlV.bound (by rw [HM.out]; exact HZ.out) : IntsV w (fun k => E k ∧ k < w.heap.size) (.slice zo m zcap) p) HF1.out).keep hf fun k hk e => by have := hk.2; have := HQ.out; have e : k = qb := e; omega
      clear hr hd
      by_cases hkN : k < m
      · obtain ⟨_, _, e1, _, hcc⟩ := IntsV.facts hzz
        obtain ⟨b, o, e2, _, c1⟩ := hcc k (by rw [← HM.out]; exact hkN)
        simp only [Value.slice.injEq] at e1
        obtain ⟨rfl, -, rfl⟩ := e1
        subst e2
        have k0 : (0 : Int) ≤ (k : Int) := by omega
        have k1 : (k : Int) < (m : Int) := by omega
        have HkL : Hid (k < p.length) := Lib.hid (by rw [← HM.out]; exact hkN)
        obtain ⟨x, hx⟩ : ∃ x, x = gi p k := ⟨_, rfl⟩
        rw [← hx] at c1
        have HX := Lib.hid hx
        have HFx : Hid (Fx No w wr) := Lib.hid (HF1.out.trans' hf fun j e hl => by have e : j = qb := e; have := HQ.out; omega)
        clear hf hcc hzz hx
        by_cases hx0 : x < 0
        · have HB : Hid (respB m L p = false) := Lib.hid (respB_bad HM.out.symm HkL.out (.inl (by rw [← HX.out]; exact hx0)))
          clear hi
          go_wp2
          go_ret
          exact ⟨by rw [HB.out]; rfl, HFx.out⟩
        · by_cases hxm : (m : Int) ≤ x
          · have HB : Hid (respB m L p = false) := Lib.hid (respB_bad HM.out.symm HkL.out (.inr (.inl (by rw [← HX.out]; exact hxm))))
            have hx2 : x ≥ (m : Int) := hxm
            clear hi
            go_wp2
            go_ret
            exact ⟨by rw [HB.out]; rfl, HFx.out⟩
          · obtain ⟨v, rfl⟩ := Int.eq_ofNat_of_zero_le (show 0 ≤ x by omega)
            have hvm : v < m := by omega
            have hx2 : ¬ (v : Int) ≥ (m : Int) := hxm
            have v0 : (0 : Int) ≤ (v : Int) := by omega
            have v1 : (v : Int) < (m : Int) := by omega
            obtain ⟨c2, z2⟩ := hi v hvm
            obtain ⟨z, hzv⟩ : ∃ z, z = atF p k v := ⟨_, rfl⟩
            rw [← hzv] at c2
            have HZv := Lib.hid hzv
            clear hi hzv
            by_cases hin : gi p k ∈ p.take k
            · have HB : Hid (respB m L p = false) := Lib.hid (respB_bad HM.out.symm HkL.out (.inr (.inr hin)))
              have hz0 : z > 0 := by
                rw [HZv.out]
                unfold atF
                rw [if_pos (by rw [HX.out]; exact hin)]
                have := placeI_pos.2 (List.mem_of_mem_take (show ((v : Nat) : Int) ∈ p.take k by rw [HX.out]; exact hin))
                omega
              clear hin
              go_wp2
              go_ret
              exact ⟨by rw [HB.out]; rfl, HFx.out⟩
            · have hz0 : ¬ z > 0 := by
                rw [HZv.out]
                unfold atF
                rw [if_neg (by rw [HX.out]; exact hin)]
                omega
              have HIn := Lib.hid hin
              clear hin
              go_wp2
              go_roundw
              case rel => exact ⟨k + 1, by go_num, by omega, HF.out.trans' (Fx.put _ _ _ _) (fun j e _ => e), (HI.out.put hvm ((k : Int) + 1)).congr fun i hi => atF_step HkL.out HX.out.symm HIn.out i, fun i hi => by
                by_cases e : i = k
                · rw [e, ← HX.out]; omega
                · exact HRn.out i (by omega), fun i hi => by
                by_cases e : i = k
                · rw [e]; exact HIn.out
                · exact HDn.out i (by omega)⟩
              case measure => simp [intOf]; omega
      · have hke : k = m := by omega
        have k1 : ¬ (k : Int) < (m : Int) := by omega
        have HIe : Hid (IntB wr qb m (atF p m)) := Lib.hid (by have h1 := hi; rw [hke] at h1; exact h1)
        have HEnd : Hid ((!(L.any fun x => decide (atF p m x.t.toNat ≤ atF p m x.f.toNat))) = respB m L p) := Lib.hid (respB_end HM.out.symm (fun i h2 => HRn.out i (by omega)) (fun i h2 => HDn.out i (by omega)) HNd.out)
        have HGr : Hid (GraphV wr D gb m L) := Lib.hid ((HG.out.no HF1.out).keep hf fun y hy e => by have := HG.out.lt y hy; have := HQ.out; have e : y = qb := e; omega)
        have HFx : Hid (Fx No w wr) := Lib.hid (HF1.out.trans' hf fun j e hl => by have e : j = qb := e; have := HQ.out; omega)
        have HC0r := Lib.hid c0
        clear hf hi hke hkN hk hzz c0
        go_wp2_with fail
        refine (gEdges_any HGr.out).mono ?_
        rintro e w5 ⟨ev, rfl, hf5, ho5⟩
        have HF5 := Lib.hid hf5
        have HEv := Lib.hid (OwnT.row ho5)
        have CX : Hid (Calls Try.prog 36 #[ev, .func (.func 37) #[] #[.pointer (some ⟨ab, 0, none⟩)]] w5 fun r w' => r = .returned (.bool (L.any fun x => decide (atF p m x.t.toNat ≤ atF p m x.f.toNat))) ∧ Fx No w5 w') := Lib.hid (containsFuncR_any (p := fun x => decide (atF p m x.t.toNat ≤ atF p m x.f.toNat)) HEv.out fun W hW x hx => resp1_any (hW.cell' (hf5.cell' HC0r.out (fun q => q)) (fun q => q)) ((HIe.out.no hf5).no hW) x (HNd.out x hx) hN)
        clear hf5 ho5
        go_wp2_with fail
        refine CX.out.mono ?_
        rintro r w6 ⟨rfl, hf6⟩
        have HFE := Lib.hid (HFx.out.trans (HF5.out.trans hf6))
        obtain ⟨B, hB⟩ : ∃ B, B = L.any fun x => decide (atF p m x.t.toNat ≤ atF p m x.f.toNat) := ⟨_, rfl⟩
        rw [← hB]
        have HBe : Hid ((!B) = respB m L p) := Lib.hid (by rw [hB]; exact HEnd.out)
        clear hf6 hB CX
        go_wp2
        go_ret
        exact ⟨by rw [← HBe.out]; rfl, HFE.out⟩
  · have hne : ((m : Int) != (N : Int)) = true := by simp; omega
    have HB : Hid (respB N L p = false) := Lib.hid (by unfold respB; rw [decide_eq_false (by rw [← HM.out]; exact hmN)]; rfl)
    clear hmN
    go_enter Try.func19, Try.ntmps19
    go_wp2_with fail
    refine (gLen_any HG.out).mono ?_
    rintro e w1 ⟨rfl, rfl⟩
    go_wp2
    go_ret
    exact ⟨by rw [HB.out]; rfl, Fx.refl _ _⟩
end
#print axioms respects_any
end Go.Proofs.Yteafkafkbipcmaa

namespace Go.Proofs.Yteafkafkbipcmaa
open Go.RowKit
set_option linter.unusedVariables false

section
variable {w w' : World} {E E2 : Nat → Prop} {l : List Ed} {zs : List Int} {v u : Value}
set_option maxRecDepth 100000 in
set_option maxHeartbeats 16000000 in
theorem asks_any (n : Int) (h : EdsV w E v l) (hok : ∀ x ∈ l, x.ok) (hz : IntsV w E2 u zs) : Calls Try.prog 5 #[.int .i64 n, v, u] w fun e w' => e = .returned (.bool true) ∧ Fx No w w' := by
  have HE := Lib.hid h
  have HOk := Lib.hid hok
  have HZ := Lib.hid hz
  obtain ⟨ao, cap, rfl, hcl, hcm, _⟩ := EdsV.facts h
  obtain ⟨zo, zcap, rfl, hzl, _⟩ := IntsV.facts hz
  clear h hok hz
  by_cases h1 : 80 < l.length
  · have d1 : decide ((80 : Int) < (l.length : Int)) = true := decide_eq_true (by omega)
    go_enter Try.func5, Try.ntmps5
    go_wp2_with fail
    refine (works_any _).mono ?_
    rintro e w1 ⟨rfl, hf⟩
    have HF := Lib.hid hf
    clear hf
    go_wp2
    go_ret
    exact ⟨rfl, HF.out⟩
  · have d1 : decide ((80 : Int) < (l.length : Int)) = false := decide_eq_false (by omega)
    by_cases h2 : 40 < zs.length
    · have d2 : decide ((40 : Int) < (zs.length : Int)) = true := decide_eq_true (by omega)
      clear h1
      go_enter Try.func5, Try.ntmps5
      go_wp2_with fail
      refine (works_any _).mono ?_
      rintro e w1 ⟨rfl, hf⟩
      have HF := Lib.hid hf
      clear hf
      go_wp2
      go_ret
      exact ⟨rfl, HF.out⟩
    · have d2 : decide ((40 : Int) < (zs.length : Int)) = false := decide_eq_false (by omega)
      have hl80 : l.length ≤ 80 := by omega
      have hz40 : zs.length ≤ 40 := by omega
      clear h1 h2
      obtain ⟨ii, hi, hz0, hs, hb8⟩ := info_parts info_int'
      go_enter Try.func5, Try.ntmps5
      go_wp2_with fail
      refine (drawn_any HE.out HOk.out (by omega) n 30 (by omega)).mono ?_
      rintro e w1 ⟨gb, N, L, rv, D, R, rfl, hD, hN, hL⟩
      obtain ⟨ro, rc, rfl, _⟩ := EdsV.facts hD.row
      have HD1 := Lib.hid hD
      have hL80 : L.length ≤ 80 := by omega
      have HZ1 := Lib.hid (HZ.out.no hD.fx)
      clear hD hL
      go_upto_region 5 with fail
      refine wp_hold (fun W => GS w W w1.heap.size gb N L ro rc D R ∧ Fx No w1 W) ⟨GS.start HD1.out, (Fx.refl No w1).alloc _⟩ ?_
      rintro w2 ⟨hg2, hf2⟩
      obtain ⟨rb, hrb⟩ : ∃ q, q = w1.heap.size := ⟨_, rfl⟩
      rw [← hrb] at hg2 ⊢
      have HG2 := Lib.hid hg2
      have HNd : Hid (NdE L N) := Lib.hid hg2.g.nodes
      have HZ2 := Lib.hid (HZ1.out.no hf2)
      clear hg2 hrb HD1 hf2 HZ1
      go_wp2_with (at_builtin; refine wpList_append_sl rfl _ _ 32 rfl w2.heap.size 3 Try.underlying32 hi hz0 hs hb8 rfl (by decide) rfl (World.ownsRow_nil w2 _ _ _) rfl HZ2.out (ints_one _) (by unfold maxLen; omega) (by omega) (Nat.le_refl _) ?_)
      intro ov w3 ho3 hf3 _
      have hf3n : Fx No w2 w3 := (Fx.refl No w2).trans' hf3 fun j e _ => by simp [Value.ownBlock] at e
      have HG3 := Lib.hid (HG2.out.no hf3n)
      have HZ3 := Lib.hid (HZ2.out.no hf3n)
      have HO3 : Hid (IntsV w3 (Iv w2.heap.size w3.heap.size) ov zs) := Lib.hid (SlV.ofOwns ho3)
      obtain ⟨oa, oc, rfl, _⟩ := SlV.ofOwns ho3
      have p0 := HG3.out.r0
      have p1 := HG3.out.r1
      clear hf3 ho3 hf3n HZ2 HG2
      go_wp2_with fail
      refine (refSort_any HG3.out.row HNd.out (by omega) (by omega)).mono ?_
      rintro e w5 ⟨qv, rfl, hf5, ho5⟩
      have HG5 := Lib.hid (HG3.out.no hf5)
      have HF5 : Hid (Fx No w w5) := Lib.hid HG5.out.fx
      have HZ5 := Lib.hid (HZ3.out.no hf5)
      have HO5 := Lib.hid (HO3.out.no hf5)
      have HQ5 : Hid (IntsV w5 (Iv w3.heap.size w5.heap.size) qv (nI (sres L N))) := Lib.hid (by unfold IntsV; rw [nI_len]; exact SlV.ofOwns ho5)
      obtain ⟨qa, qc, rfl, _⟩ := SlV.ofOwns ho5
      clear hf5 ho5 p0 p1 HZ3 HO3 HG3
      obtain ⟨B1, hB1⟩ : ∃ B, B = respB N L zs := ⟨_, rfl⟩
      obtain ⟨B2, hB2⟩ : ∃ B, B = respB N L (nI (sres L N)) := ⟨_, rfl⟩
      obtain ⟨m2, hm2⟩ : ∃ m, m = (sres L N).length := ⟨_, rfl⟩
      rw [← hm2] at HQ5 ⊢
      have CP1 : Hid (∀ W, Fx No w5 W → Calls Try.prog 19 #[.pointer (some ⟨gb, 0, none⟩), .slice zo zs.length zcap] W fun e w' => e = .returned (.bool B1) ∧ Fx No W w') := Lib.hid fun W hW => by rw [hB1]; exact respects_any (HG5.out.no hW).g (HZ5.out.no hW) (by omega)
      have CQ1 : Hid (∀ W, Fx No w5 W → Calls Try.prog 20 #[.agg #[.int .i64 (N : Nat), .slice ro L.length rc], .slice oa zs.length oc] W fun e w' => e = .returned (.bool B1) ∧ Fx No W w') := Lib.hid fun W hW => by rw [hB1]; exact refRespects_any (HG5.out.no hW).row (HO5.out.no hW) (by omega) (by omega)
      have CP2 : Hid (∀ W, Fx No w5 W → Calls Try.prog 19 #[.pointer (some ⟨gb, 0, none⟩), .slice qa m2 qc] W fun e w' => e = .returned (.bool B2) ∧ Fx No W w') := Lib.hid fun W hW => by rw [hB2]; exact respects_any (HG5.out.no hW).g (HQ5.out.no hW) (by omega)
      have CQ2 : Hid (∀ W, Fx No w5 W → Calls Try.prog 20 #[.agg #[.int .i64 (N : Nat), .slice ro L.length rc], .slice qa m2 qc] W fun e w' => e = .returned (.bool B2) ∧ Fx No W w') := Lib.hid fun W hW => by rw [hB2]; exact refRespects_any (HG5.out.no hW).row (HQ5.out.no hW) (by omega) (by omega)
      have CS : Hid (∀ W, Fx No w5 W → Calls Try.prog 21 #[.slice zo zs.length zcap, .slice oa zs.length oc] W fun e w' => e = .returned (.bool true) ∧ Fx No W w') := Lib.hid fun W hW => (sameInts_any (HZ5.out.no hW) (HO5.out.no hW)).mono fun e w' ⟨h1, h2⟩ => ⟨by rw [h1]; simp, h2⟩
      have hb1 : (B1 == B1) = true := by simp
      have hb2 : (B2 == B2) = true := by simp
      have r0 : ∀ W, Fx No w5 W → W.cell? ⟨rb, 0, none⟩ = some (.int .i64 (N : Nat)) := fun W h => (HG5.out.no h).r0
      have r1 : ∀ W, Fx No w5 W → W.cell? ⟨rb, 1, none⟩ = some (.slice ro L.length rc) := fun W h => (HG5.out.no h).r1
      clear hB1 hB2 hm2
      go_wp2_with fail
      refine wp_region_H (fun W => Fx No w5 W) (by kernel_rfl) ((Fx.refl _ _).drew) ?_
      intro hS
      refine wpAnyH_take (i := 0) (v := ?_) rfl (by kernel_rfl) (by kernel_rfl) (by kernel_rfl) (fun _ _ _ h => h) (Or.inl ⟨by rfl, ?_⟩) hS ?_
      rotate_left
      · (intro W hs; go_simp; first | done | with_reducible rfl)
      try simp only [Act.put, List.getElem_toArray, List.getElem_cons_zero, List.getElem_cons_succ, List.setIfInBounds_toArray, List.set_cons_zero, List.set_cons_succ]
      refine wpAnyH_take (i := 1) (v := ?_) rfl (by kernel_rfl) (by kernel_rfl) (by kernel_rfl) (fun _ _ _ h => h) (Or.inl ⟨by rfl, ?_⟩) hS ?_
      rotate_left
      · (intro W hs; go_simp; first | done | with_reducible rfl)
      try simp only [Act.put, List.getElem_toArray, List.getElem_cons_zero, List.getElem_cons_succ, List.setIfInBounds_toArray, List.set_cons_zero, List.set_cons_succ]
      refine wpAnyH_take (i := 3) (v := ?_) rfl (by kernel_rfl) (by kernel_rfl) (by kernel_rfl) (fun _ _ _ h => h) (Or.inl ⟨by rfl, ?_⟩) hS ?_
      rotate_left
      · (intro W hs; go_simp; first | done | with_reducible rfl)
      try simp only [Act.put, List.getElem_toArray, List.getElem_cons_zero, List.getElem_cons_succ, List.setIfInBounds_toArray, List.set_cons_zero, List.set_cons_succ]
      refine wpAnyH_take (i := 4) (v := ?_) rfl (by kernel_rfl) (by kernel_rfl) (by kernel_rfl) (fun _ _ _ h => h) (Or.inl ⟨by rfl, ?_⟩) hS ?_
      rotate_left
      · (intro W hs; go_simp; first | done | with_reducible rfl)
      try simp only [Act.put, List.getElem_toArray, List.getElem_cons_zero, List.getElem_cons_succ, List.setIfInBounds_toArray, List.set_cons_zero, List.set_cons_succ]
      refine wpH_one (i := 2) (by kernel_rfl) rfl (fun Kk hK => ?_)
      go_simp
      refine (CP1.out _ hS).mono ?_
      rintro e y1 ⟨rfl, hfi⟩
      refine hK.out _ _ (hS.trans hfi) (fun hS' => ?_)
      clear hK Kk hS hfi
      have hS := hS'
      clear hS'
      try simp only [Act.put, List.getElem_toArray, List.getElem_cons_zero, List.getElem_cons_succ, List.setIfInBounds_toArray, List.set_cons_zero, List.set_cons_succ]
      refine wpH_one (i := 5) (by kernel_rfl) rfl (fun Kk hK => ?_)
      go_simp
      refine (CQ1.out _ hS).mono ?_
      rintro e y2 ⟨rfl, hfi⟩
      refine hK.out _ _ (hS.trans hfi) (fun hS' => ?_)
      clear hK Kk hS hfi
      have hS := hS'
      clear hS'
      try simp only [Act.put, List.getElem_toArray, List.getElem_cons_zero, List.getElem_cons_succ, List.setIfInBounds_toArray, List.set_cons_zero, List.set_cons_succ]
      refine wpAnyH_take (i := 6) (v := ?_) rfl (by kernel_rfl) (by kernel_rfl) (by kernel_rfl) (fun _ _ _ h => h) (Or.inl ⟨by rfl, ?_⟩) hS ?_
      rotate_left
      · (intro W hs; go_simp; first | done | with_reducible rfl)
      try simp only [Act.put, List.getElem_toArray, List.getElem_cons_zero, List.getElem_cons_succ, List.setIfInBounds_toArray, List.set_cons_zero, List.set_cons_succ]
      refine wpAnyH_take (i := 7) (v := ?_) rfl (by kernel_rfl) (by kernel_rfl) (by kernel_rfl) (fun _ _ _ h => h) (Or.inl ⟨by rfl, ?_⟩) hS ?_
      rotate_left
      · (intro W hs; go_simp; first | done | with_reducible rfl)
      try simp only [Act.put, List.getElem_toArray, List.getElem_cons_zero, List.getElem_cons_succ, List.setIfInBounds_toArray, List.set_cons_zero, List.set_cons_succ]
      refine wpAnyH_take (i := 8) (v := ?_) rfl (by kernel_rfl) (by kernel_rfl) (by kernel_rfl) (fun _ _ _ h => h) (Or.inl ⟨by rfl, ?_⟩) hS ?_
      rotate_left
      · (intro W hs; go_simp; first | done | with_reducible rfl)
      try simp only [Act.put, List.getElem_toArray, List.getElem_cons_zero, List.getElem_cons_succ, List.setIfInBounds_toArray, List.set_cons_zero, List.set_cons_succ]
      refine wpAnyH_take (i := 9) (v := ?_) rfl (by kernel_rfl) (by kernel_rfl) (by kernel_rfl) (fun _ _ _ h => h) (Or.inl ⟨by rfl, ?_⟩) hS ?_
      rotate_left
      · (intro W hs; go_simp; first | done | with_reducible rfl)
      try simp only [Act.put, List.getElem_toArray, List.getElem_cons_zero, List.getElem_cons_succ, List.setIfInBounds_toArray, List.set_cons_zero, List.set_cons_succ]
      refine wpAnyH_take (i := 11) (v := ?_) rfl (by kernel_rfl) (by kernel_rfl) (by kernel_rfl) (fun _ _ _ h => h) (Or.inl ⟨by rfl, ?_⟩) hS ?_
      rotate_left
      · (intro W hs; go_simp; first | done | with_reducible rfl)
      try simp only [Act.put, List.getElem_toArray, List.getElem_cons_zero, List.getElem_cons_succ, List.setIfInBounds_toArray, List.set_cons_zero, List.set_cons_succ]
      refine wpAnyH_take (i := 12) (v := ?_) rfl (by kernel_rfl) (by kernel_rfl) (by kernel_rfl) (fun _ _ _ h => h) (Or.inl ⟨by rfl, ?_⟩) hS ?_
      rotate_left
      · (intro W hs; go_simp; first | done | with_reducible rfl)
      try simp only [Act.put, List.getElem_toArray, List.getElem_cons_zero, List.getElem_cons_succ, List.setIfInBounds_toArray, List.set_cons_zero, List.set_cons_succ]
      refine wpH_one (i := 10) (by kernel_rfl) rfl (fun Kk hK => ?_)
      go_simp
      refine (CP2.out _ hS).mono ?_
      rintro e y3 ⟨rfl, hfi⟩
      refine hK.out _ _ (hS.trans hfi) (fun hS' => ?_)
      clear hK Kk hS hfi
      have hS := hS'
      clear hS'
      try simp only [Act.put, List.getElem_toArray, List.getElem_cons_zero, List.getElem_cons_succ, List.setIfInBounds_toArray, List.set_cons_zero, List.set_cons_succ]
      refine wpH_one (i := 13) (by kernel_rfl) rfl (fun Kk hK => ?_)
      go_simp
      refine (CQ2.out _ hS).mono ?_
      rintro e y4 ⟨rfl, hfi⟩
      refine hK.out _ _ (hS.trans hfi) (fun hS' => ?_)
      clear hK Kk hS hfi
      have hS := hS'
      clear hS'
      try simp only [Act.put, List.getElem_toArray, List.getElem_cons_zero, List.getElem_cons_succ, List.setIfInBounds_toArray, List.set_cons_zero, List.set_cons_succ]
      refine wpAnyH_take (i := 14) (v := ?_) rfl (by kernel_rfl) (by kernel_rfl) (by kernel_rfl) (fun _ _ _ h => h) (Or.inl ⟨by rfl, ?_⟩) hS ?_
      rotate_left
      · (intro W hs; go_simp; first | done | with_reducible rfl)
      try simp only [Act.put, List.getElem_toArray, List.getElem_cons_zero, List.getElem_cons_succ, List.setIfInBounds_toArray, List.set_cons_zero, List.set_cons_succ]
      refine wpAnyH_take (i := 15) (v := ?_) rfl (by kernel_rfl) (by kernel_rfl) (by kernel_rfl) (fun _ _ _ h => h) (Or.inl ⟨by rfl, ?_⟩) hS ?_
      rotate_left
      · (intro W hs; go_simp; first | done | with_reducible rfl)
      try simp only [Act.put, List.getElem_toArray, List.getElem_cons_zero, List.getElem_cons_succ, List.setIfInBounds_toArray, List.set_cons_zero, List.set_cons_succ]
      refine wpAnyH_take (i := 16) (v := ?_) rfl (by kernel_rfl) (by kernel_rfl) (by kernel_rfl) (fun _ _ _ h => h) (Or.inl ⟨by rfl, ?_⟩) hS ?_
      rotate_left
      · (intro W hs; go_simp; first | done | with_reducible rfl)
      try simp only [Act.put, List.getElem_toArray, List.getElem_cons_zero, List.getElem_cons_succ, List.setIfInBounds_toArray, List.set_cons_zero, List.set_cons_succ]
      refine wpAnyH_take (i := 17) (v := ?_) rfl (by kernel_rfl) (by kernel_rfl) (by kernel_rfl) (fun _ _ _ h => h) (Or.inl ⟨by rfl, ?_⟩) hS ?_
      rotate_left
      · (intro W hs; go_simp; first | done | with_reducible rfl)
      try simp only [Act.put, List.getElem_toArray, List.getElem_cons_zero, List.getElem_cons_succ, List.setIfInBounds_toArray, List.set_cons_zero, List.set_cons_succ]
      refine wpAnyH_take (i := 18) (v := ?_) rfl (by kernel_rfl) (by kernel_rfl) (by kernel_rfl) (fun _ _ _ h => h) (Or.inl ⟨by rfl, ?_⟩) hS ?_
      rotate_left
      · (intro W hs; go_simp; first | done | with_reducible rfl)
      try simp only [Act.put, List.getElem_toArray, List.getElem_cons_zero, List.getElem_cons_succ, List.setIfInBounds_toArray, List.set_cons_zero, List.set_cons_succ]
      refine wpH_one (i := 19) (by kernel_rfl) rfl (fun Kk hK => ?_)
      go_simp
      refine (CS.out _ hS).mono ?_
      rintro e y5 ⟨rfl, hfi⟩
      refine hK.out _ _ (hS.trans hfi) (fun hS' => ?_)
      clear hK Kk hS hfi
      have hS := hS'
      clear hS'
      try simp only [Act.put, List.getElem_toArray, List.getElem_cons_zero, List.getElem_cons_succ, List.setIfInBounds_toArray, List.set_cons_zero, List.set_cons_succ]
      refine wpAnyH_take (i := 20) (v := ?_) rfl (by kernel_rfl) (by kernel_rfl) (by kernel_rfl) (fun _ _ _ h => h) (Or.inl ⟨by rfl, ?_⟩) hS ?_
      rotate_left
      · (intro W hs; go_simp; first | done | with_reducible rfl)
      try simp only [Act.put, List.getElem_toArray, List.getElem_cons_zero, List.getElem_cons_succ, List.setIfInBounds_toArray, List.set_cons_zero, List.set_cons_succ]
      refine wpAnyH_take (i := 21) (v := ?_) rfl (by kernel_rfl) (by kernel_rfl) (by kernel_rfl) (fun _ _ _ h => h) (Or.inl ⟨by rfl, ?_⟩) hS ?_
      rotate_left
      · (intro W hs; go_simp; first | done | with_reducible rfl)
      try simp only [Act.put, List.getElem_toArray, List.getElem_cons_zero, List.getElem_cons_succ, List.setIfInBounds_toArray, List.set_cons_zero, List.set_cons_succ]
      refine wpH_one (i := 22) (by kernel_rfl) rfl (fun Kk hK => ?_)
      go_simp
      refine (works_any _).mono ?_
      rintro e y6 ⟨rfl, hfi⟩
      refine hK.out _ _ (hS.trans hfi) (fun hS' => ?_)
      clear hK Kk hS hfi
      have hS := hS'
      clear hS'
      try simp only [Act.put, List.getElem_toArray, List.getElem_cons_zero, List.getElem_cons_succ, List.setIfInBounds_toArray, List.set_cons_zero, List.set_cons_succ]
      refine wpAnyH_take (i := 23) (v := ?_) rfl (by kernel_rfl) (by kernel_rfl) (by kernel_rfl) (fun _ _ _ h => h) (Or.inl ⟨by rfl, ?_⟩) hS ?_
      rotate_left
      · (intro W hs; go_simp; first | done | with_reducible rfl)
      try simp only [Act.put, List.getElem_toArray, List.getElem_cons_zero, List.getElem_cons_succ, List.setIfInBounds_toArray, List.set_cons_zero, List.set_cons_succ]
      refine wpAnyH_take (i := 24) (v := ?_) rfl (by kernel_rfl) (by kernel_rfl) (by kernel_rfl) (fun _ _ _ h => h) (Or.inl ⟨by rfl, ?_⟩) hS ?_
      rotate_left
      · (intro W hs; go_simp; first | done | with_reducible rfl)
      try simp only [Act.put, List.getElem_toArray, List.getElem_cons_zero, List.getElem_cons_succ, List.setIfInBounds_toArray, List.set_cons_zero, List.set_cons_succ]
      refine wpAnyH_done (by kernel_rfl) ?_ _
      have HFin := Lib.hid (HF5.out.trans hS)
      clear hS r0 r1
      go_wp2
      go_ret
      exact ⟨rfl, HFin.out⟩
end
#print axioms asks_any
end Go.Proofs.Yteafkafkbipcmaa
