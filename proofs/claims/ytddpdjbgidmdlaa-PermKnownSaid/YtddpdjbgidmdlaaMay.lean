/- Contracts: the reference's May; the law's ahead. -/
import Derived.Test.YtddpdjbgidmdlaaPermD
import Derived.Test.YtddpdjbgidmdlaaSub
namespace Go.Proofs.Ytddpdjbgidmdlaa
open Go.RowKit
set_option linter.unusedVariables false

def pOk (n : Int) (q : Int × Int) : Bool := decide (0 ≤ q.1 ∧ 0 ≤ q.2 ∧ q.1 < n ∧ q.2 < n)
/-- New's error: 0: none, 2: an argument, 3: a limit -/
def mayE (n : Int) (ps : List (Int × Int)) : Int := if n < 0 then 2 else if ps.all (pOk n) then (if 4096 < n then 3 else 0) else 2
theorem mayE_neg {n : Int} {ps : List (Int × Int)} (h : n < 0) : mayE n ps = 2 := if_pos h
theorem mayE_bad {n : Int} {ps : List (Int × Int)} (h : 0 ≤ n) {k : Nat} (hk : k < ps.length) (hq : pOk n (gp ps k) = false) : mayE n ps = 2 := by
  unfold mayE
  have : ps.all (pOk n) = false := by
    rw [List.all_eq_false]
    exact ⟨gp ps k, by simp [gp, hk], by simp [hq]⟩
  rw [if_neg (by omega), this]; rfl
theorem mayE_ok {n : Int} {ps : List (Int × Int)} (h : 0 ≤ n) (hq : ∀ k, k < ps.length → pOk n (gp ps k) = true) : mayE n ps = if 4096 < n then 3 else 0 := by
  unfold mayE
  have : ps.all (pOk n) = true := by
    rw [List.all_eq_true]
    intro q hm
    obtain ⟨k, hk, rfl⟩ := List.getElem_of_mem hm
    have := hq k hk
    simpa [gp, hk] using this
  rw [if_neg (by omega), this]; rfl
theorem mayE_zero {n : Int} {ps : List (Int × Int)} (h : mayE n ps = 0) : 0 ≤ n ∧ n ≤ 4096 ∧ ∀ q ∈ ps, pOk n q = true := by
  unfold mayE at h
  by_cases h1 : n < 0
  · rw [if_pos h1] at h; omega
  · rw [if_neg h1] at h
    by_cases h2 : ps.all (pOk n) = true
    · rw [if_pos h2] at h
      by_cases h3 : 4096 < n
      · rw [if_pos h3] at h; omega
      · exact ⟨by omega, by omega, List.all_eq_true.1 h2⟩
    · rw [if_neg h2] at h; omega
theorem pOk_ways (n x y : Int) : pOk n (x, y) = false ↔ x < 0 ∨ y < 0 ∨ n ≤ x ∨ n ≤ y := by
  unfold pOk
  rw [decide_eq_false_iff_not]
  simp only
  omega
theorem may_any' {w : World} {D : Nat → Prop} {v : Value} {ps : List (Int × Int)} (h : PairsV w D v ps) (n : Int) :
    Calls Try.prog 10 #[.int .i64 n, v] w fun e w' => e = .returned (.int .i64 (mayE n ps)) ∧ Fx No w w' := by
  obtain ⟨uo, ucap, rfl, hul, hc⟩ := h.facts
  have HC := Lib.hid hc
  obtain ⟨ul, hulen⟩ : ∃ k, k = ps.length := ⟨_, rfl⟩
  rw [← hulen] at hul ⊢
  have HUl := Lib.hid hulen
  clear h hc hulen
  by_cases hn : n < 0
  · have HE : Hid (mayE n ps = 2) := mayE_neg hn
    go_enter Try.func10, Try.ntmps10
    go_wp2
    go_ret
    exact ⟨by rw [HE.out]; rfl, Fx.refl _ _⟩
  · have hd : decide (n < 0) = false := decide_eq_false hn
    have HN : Hid (0 ≤ n) := by show 0 ≤ n; omega
    have hn0 : 0 ≤ n := by omega
    clear hn
    go_enter Try.func10, Try.ntmps10
    go_wp2
    go_loopw [5, 6, 7] (fun i _ _ wr => ∃ k : Nat, i = .int .i64 k ∧ k ≤ ul ∧ Fx No w wr ∧ ∀ j, j < k → pOk n (gp ps j) = true) (fun i _ _ _ => ul - (intOf i).toNat)
    case atStart => exact ⟨0, rfl, Nat.zero_le _, Fx.refl _ _, fun j hj => by omega⟩
    case round =>
      obtain ⟨k, rfl, hk, hf, hq⟩ := hrel
      have HF := Lib.hid hf
      have HQ := Lib.hid hq
      clear hf hq
      by_cases hlt : k < ul
      · obtain ⟨b, o, rfl, _, c1, c2⟩ := HC.out k (by rw [← HUl.out]; exact hlt)
        have hkp : Hid (k < ps.length) := by rw [← HUl.out]; exact hlt
        have c1 := HF.out.cell' c1 (fun h => h)
        have c2 := HF.out.cell' c2 (fun h => h)
        obtain ⟨x, hx⟩ : ∃ x, x = (gp ps k).1 := ⟨_, rfl⟩
        obtain ⟨y, hy⟩ : ∃ x, x = (gp ps k).2 := ⟨_, rfl⟩
        rw [← hx] at c1
        rw [← hy] at c2
        have HGp : Hid (gp ps k = (x, y)) := by rw [hx, hy]; exact Lib.hid rfl
        clear hx hy
        rcases hp : pOk n (x, y) with _ | _
        · have HB : Hid (mayE n ps = 2) := mayE_bad HN.out hkp.out (by rw [HGp.out]; exact hp)
          rw [pOk_ways] at hp
          by_cases h1 : x < 0
          · clear hp
            go_wp2
            go_quiet (fail)
            go_wp2
            go_ret
            exact ⟨by rw [HB.out]; rfl, HF.out.drewN _⟩
          · have d1 : decide (x < 0) = false := decide_eq_false h1
            have p1 : 0 ≤ x := by omega
            by_cases h2 : y < 0
            · clear hp h1
              go_wp2
              go_quiet (fail)
              go_wp2
              go_ret
              exact ⟨by rw [HB.out]; rfl, HF.out.drewN _⟩
            · have d2 : decide (y < 0) = false := decide_eq_false h2
              have p2 : 0 ≤ y := by omega
              by_cases h3 : n ≤ x
              · have d3 : decide (n ≤ x) = true := decide_eq_true h3
                clear hp h1 h2
                go_wp2
                go_quiet (fail)
                go_wp2
                go_ret
                exact ⟨by rw [HB.out]; rfl, HF.out.drewN _⟩
              · have d3 : decide (n ≤ x) = false := decide_eq_false h3
                have h4 : n ≤ y := by omega
                have d4 : decide (n ≤ y) = true := decide_eq_true h4
                have p3 : x < n := by omega
                clear hp h1 h2 h3
                go_wp2
                go_quiet (fail)
                go_wp2
                go_ret
                exact ⟨by rw [HB.out]; rfl, HF.out.drewN _⟩
        · have HP : Hid (pOk n (gp ps k) = true) := by rw [HGp.out]; exact hp
          have hp' : ¬ (x < 0 ∨ y < 0 ∨ n ≤ x ∨ n ≤ y) := fun h => by rw [← pOk_ways, hp] at h; simp at h
          have d1 : decide (x < 0) = false := decide_eq_false (by omega)
          have d2 : decide (y < 0) = false := decide_eq_false (by omega)
          have d3 : decide (n ≤ x) = false := decide_eq_false (by omega)
          have d4 : decide (n ≤ y) = false := decide_eq_false (by omega)
          have p1 : 0 ≤ x := by omega
          have p2 : 0 ≤ y := by omega
          have p3 : x < n := by omega
          have p4 : y < n := by omega
          clear hp hp'
          go_wp2
          go_quiet (fail)
          go_wp2
          go_roundw
          case rel => exact ⟨k + 1, by go_num, by omega, HF.out.drewN _, fun j hj => by
            by_cases e : j = k
            · subst e; exact HP.out
            · exact HQ.out j (by omega)⟩
          case measure => simp [intOf]; omega
      · obtain rfl : k = ul := by omega
        have HE : Hid (mayE n ps = if 4096 < n then 3 else 0) := mayE_ok HN.out fun j hj => HQ.out j (by rw [HUl.out]; exact hj)
        by_cases h4 : 4096 < n
        · have d4 : decide (4096 < n) = true := decide_eq_true h4
          have HE2 : Hid (mayE n ps = 3) := by rw [HE.out]; exact Lib.hid (if_pos h4)
          go_wp2
          go_ret
          exact ⟨by rw [HE2.out]; rfl, HF.out⟩
        · have d4 : decide (4096 < n) = false := decide_eq_false h4
          have HE2 : Hid (mayE n ps = 0) := by rw [HE.out]; exact Lib.hid (if_neg h4)
          clear h4
          go_wp2
          go_ret
          exact ⟨by rw [HE2.out]; rfl, HF.out⟩
/-- a row is ahead of another one -/
def aheadB : List Int → List Int → Bool
  | x :: a, y :: b => if x = y then aheadB a b else decide (x < y)
  | _, _ => false
theorem aheadB_at : ∀ {k : Nat} {a b : List Int}, k < a.length → k < b.length → (∀ j, j < k → gi a j = gi b j) → gi a k ≠ gi b k → aheadB a b = decide (gi a k < gi b k)
  | 0, x :: a, y :: b, _, _, _, h => by
    have hne : x ≠ y := h
    show (if x = y then aheadB a b else decide (x < y)) = _
    rw [if_neg hne]; rfl
  | k + 1, x :: a, y :: b, h1, h2, h3, h => by
    have e0 : x = y := h3 0 (by omega)
    show (if x = y then aheadB a b else decide (x < y)) = _
    rw [if_pos e0, aheadB_at (k := k) (by simpa using h1) (by simpa using h2) (fun j hj => by have := h3 (j + 1) (by omega); simpa [gi] using this) (by simpa [gi] using h)]
    simp [gi]
  | _, [], _, h, _, _, _ => by simp at h
  | _, _ :: _, [], _, h, _, _ => by simp at h
theorem aheadB_none : ∀ {a b : List Int}, (∀ j, j < a.length → j < b.length → gi a j = gi b j) → aheadB a b = false
  | [], _, _ => rfl
  | _ :: _, [], _ => rfl
  | x :: a, y :: b, h => by
    have e0 : x = y := h 0 (by simp) (by simp)
    show (if x = y then aheadB a b else decide (x < y)) = _
    rw [if_pos e0]
    exact aheadB_none fun j h1 h2 => by have := h (j + 1) (by simpa using h1) (by simpa using h2); simpa [gi] using this
theorem ahead_any {w : World} {D E : Nat → Prop} {v u : Value} {a b : List Int} (h : IntsV w D v a) (h' : IntsV w E u b) (hab : a.length = b.length) :
    Calls Try.prog 16 #[v, u] w fun e w' => e = .returned (.bool (aheadB a b)) ∧ Fx No w w' := by
  obtain ⟨ao, cap, rfl, hal, hc⟩ := h.facts
  obtain ⟨bo, bcap, rfl, hbl, hc'⟩ := h'.facts
  have HC := Lib.hid hc
  have HC' := Lib.hid hc'
  obtain ⟨len, hlen⟩ : ∃ k, k = a.length := ⟨_, rfl⟩
  rw [← hlen] at hal hab ⊢
  rw [← hab] at hbl ⊢
  have HLa := Lib.hid hlen
  have HLb := Lib.hid hab
  clear h h' hc hc' hlen hab
  go_enter Try.func16, Try.ntmps16
  go_wp2
  go_loopw [5] (fun i wr => ∃ k : Nat, i = .int .i64 k ∧ k ≤ len ∧ (∀ j, j < k → gi a j = gi b j) ∧ Fx No w wr) (fun i _ => len - (intOf i).toNat)
  case atStart => exact ⟨0, rfl, Nat.zero_le _, fun j hj => by omega, Fx.refl _ _⟩
  case round =>
    obtain ⟨k, rfl, hk, hq, hf⟩ := hrel
    have HQ := Lib.hid hq
    have HF := Lib.hid hf
    clear hq hf
    by_cases hlt : k < len
    · obtain ⟨b1, o1, rfl, _, c1⟩ := HC.out k (by rw [← HLa.out]; exact hlt)
      obtain ⟨b2, o2, rfl, _, c2⟩ := HC'.out k (by rw [← HLb.out]; exact hlt)
      have h1 := HF.out.cell' c1 (fun h => h)
      have h2 := HF.out.cell' c2 (fun h => h)
      clear c1 c2
      by_cases he : gi a k = gi b k
      · have hd : (gi a k != gi b k) = false := by simpa using he
        have HE := Lib.hid he
        clear he
        go_wp2
        go_quiet (fail)
        go_wp2
        go_roundw
        case rel => exact ⟨k + 1, by go_num, by omega, fun j hj => by
          by_cases e : j = k
          · subst e; exact HE.out
          · exact HQ.out j (by omega), HF.out.drewN _⟩
        case measure => simp [intOf]; omega
      · have hd : (gi a k != gi b k) = true := by simpa using he
        have HB : Hid (aheadB a b = decide (gi a k < gi b k)) := aheadB_at (by rw [← HLa.out]; exact hlt) (by rw [← HLb.out]; exact hlt) HQ.out he
        clear he
        go_wp2
        go_quiet (fail)
        go_wp2
        go_quiet (fail)
        go_wp2
        go_ret
        exact ⟨by rw [HB.out]; rfl, (HF.out.drewN _).drewN _⟩
    · have HB : Hid (aheadB a b = false) := aheadB_none fun j h1 _ => HQ.out j (by rw [← HLa.out] at h1; omega)
      go_wp2
      go_ret
      exact ⟨by rw [HB.out]; rfl, HF.out⟩
#print axioms may_any'
#print axioms ahead_any
end Go.Proofs.Ytddpdjbgidmdlaa
