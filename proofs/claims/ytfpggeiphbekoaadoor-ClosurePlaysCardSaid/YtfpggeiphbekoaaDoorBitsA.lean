/- Contracts of the small functions of package bits, each of them walked once: a set in memory is a number (bit i: is i in it?). -/
import Derived.Test.YtfpggeiphbekoaaDoorHeap
import Derived.Test.YtfpggeiphbekoaaDoorBitsMath
import Derived.Test.YtfpggeiphbekoaaDoorProg
namespace Go.Proofs.YtfpggeiphbekoaaDoor
open Go.RowKit
set_option linter.unusedVariables false

/-- A set of size n, with the numbers X, at block b; it and its words lie in D. -/
structure SetIn (w : World) (D : Nat → Prop) (b n X : Nat) : Prop where
  le : n ≤ 65536
  lt : X < 2 ^ n
  here : D b
  words : ∃ c cap, nw n ≤ cap ∧ cap ≤ maxLen ∧ w.heap[b]? = some (.cells #[.int .i64 (n : Int), .slice (some ⟨c, 0, none⟩) (nw n) cap] 122 (0, 0)) ∧
    (nw n = 0 ∨ D c ∧ ∃ cs, w.heap[c]? = some (.cells cs 119 (0, 0)) ∧ ∀ k, k < nw n → cs[k]? = some (.int .u64 (wd X k)))

/-- The same behind a pointer, which may be nil: then it is as one of size 0. -/
def SetP (w : World) (D : Nat → Prop) (p : Option Addr) (n X : Nat) : Prop :=
  (p = none ∧ n = 0 ∧ X = 0) ∨ ∃ b, p = some ⟨b, 0, none⟩ ∧ SetIn w D b n X

theorem SetIn.keep {w w1 : World} {D S : Nat → Prop} {b n X : Nat} (h : SetIn w D b n X) (hf : Fx S w w1) (hd : ∀ k, D k → ¬ S k) : SetIn w1 D b n X := by
  obtain ⟨c, cap, hm1, hm2, h1, h2⟩ := h.words
  refine ⟨h.le, h.lt, h.here, c, cap, hm1, hm2, hf.at_ h1 (hd b h.here), ?_⟩
  rcases h2 with h2 | ⟨hc, cs, h3, h4⟩
  · exact .inl h2
  · exact .inr ⟨hc, cs, hf.at_ h3 (hd c hc), h4⟩
theorem SetIn.mono {w : World} {D T : Nat → Prop} {b n X : Nat} (h : SetIn w D b n X) (hd : ∀ k, D k → T k) : SetIn w T b n X := by
  obtain ⟨c, cap, hm1, hm2, h1, h2⟩ := h.words
  exact ⟨h.le, h.lt, hd b h.here, c, cap, hm1, hm2, h1, h2.imp id fun ⟨hc, r⟩ => ⟨hd c hc, r⟩⟩
theorem SetP.keep {w w1 : World} {D S : Nat → Prop} {p : Option Addr} {n X : Nat} (h : SetP w D p n X) (hf : Fx S w w1) (hd : ∀ k, D k → ¬ S k) : SetP w1 D p n X :=
  h.imp id fun ⟨b, h1, h2⟩ => ⟨b, h1, h2.keep hf hd⟩
theorem SetP.mono {w : World} {D T : Nat → Prop} {p : Option Addr} {n X : Nat} (h : SetP w D p n X) (hd : ∀ k, D k → T k) : SetP w T p n X :=
  h.imp id fun ⟨b, h1, h2⟩ => ⟨b, h1, h2.mono hd⟩
theorem SetIn.bound {w : World} {D : Nat → Prop} {b n X : Nat} (h : SetIn w D b n X) : SetIn w (fun k => D k ∧ k < w.heap.size) b n X := by
  obtain ⟨c, cap, hm1, hm2, h1, h2⟩ := h.words
  refine ⟨h.le, h.lt, ⟨h.here, (Array.getElem?_eq_some_iff.1 h1).1⟩, c, cap, hm1, hm2, h1, ?_⟩
  rcases h2 with h2 | ⟨hD, cs, h3, h4⟩
  · exact .inl h2
  · exact .inr ⟨⟨hD, (Array.getElem?_eq_some_iff.1 h3).1⟩, cs, h3, h4⟩
theorem SetP.no' {w w1 : World} {D : Nat → Prop} {p : Option Addr} {n X : Nat} (h : SetP w D p n X) (hf : Fx No w w1) : SetP w1 D p n X := h.keep hf No.disj
theorem SetIn.no {w w1 : World} {D : Nat → Prop} {b n X : Nat} (h : SetIn w D b n X) (hf : Fx No w w1) : SetIn w1 D b n X := h.keep hf No.disj
theorem SetIn.p {w : World} {D : Nat → Prop} {b n X : Nat} (h : SetIn w D b n X) : SetP w D (some ⟨b, 0, none⟩) n X := .inr ⟨b, rfl, h⟩
theorem SetP.le {w : World} {D : Nat → Prop} {p : Option Addr} {n X : Nat} (h : SetP w D p n X) : n ≤ 65536 ∧ X < 2 ^ n := by
  rcases h with ⟨_, rfl, rfl⟩ | ⟨b, _, h⟩
  · simp
  · exact ⟨h.le, h.lt⟩

/-- what a walk reads -/
theorem SetIn.facts {w : World} {D : Nat → Prop} {b n X : Nat} (h : SetIn w D b n X) : ∃ c cap, w.cell? ⟨b, 0, none⟩ = some (.int .i64 (n : Int)) ∧
    w.cell? ⟨b, 1, none⟩ = some (.slice (some ⟨c, 0, none⟩) (nw n) cap) ∧
    (∀ k, k < nw n → w.cell? ⟨c, k, none⟩ = some (.int .u64 (wd X k)) ∧ w.frozen? ⟨c, k, none⟩ = false) ∧ (0 < nw n → D c) := by
  obtain ⟨c, cap, hm1, hm2, h1, h2⟩ := h.words
  refine ⟨c, cap, by simp [World.cell?, h1], by simp [World.cell?, h1], fun k hk => ?_, fun hn => ?_⟩
  · rcases h2 with h2 | ⟨_, cs, h3, h4⟩
    · omega
    · exact ⟨by simp [World.cell?, h3, h4 k hk], by simp [World.frozen?, h3]⟩
  · rcases h2 with h2 | ⟨hc, _⟩
    · omega
    · exact hc
/-- A word is written over. -/
theorem SetIn.setWord {w : World} {D : Nat → Prop} {b n X Y k c cap : Nat} (h : SetIn w D b n X) (hc : w.cell? ⟨b, 1, none⟩ = some (.slice (some ⟨c, 0, none⟩) (nw n) cap)) (hk : k < nw n) (hY : Y < 2 ^ n)
    (hw : ∀ j, wd Y j = if j = k then wd Y k else wd X j) : SetIn (w.setCell ⟨c, k, none⟩ (.int .u64 (wd Y k))) D b n Y := by
  obtain ⟨c', cap', hm1, hm2, h1, h2⟩ := h.words
  have e : c' = c := by
    have : w.cell? ⟨b, 1, none⟩ = some (.slice (some ⟨c', 0, none⟩) (nw n) cap') := by simp [World.cell?, h1]
    rw [this] at hc
    simp only [Option.some.injEq, Value.slice.injEq, Addr.mk.injEq] at hc
    exact hc.1.1
  subst e
  rcases h2 with h2 | ⟨hc, cs, h3, h4⟩
  · omega
  · have hcb : c' ≠ b := by rintro rfl; rw [h1] at h3; simp at h3
    refine ⟨h.le, hY, h.here, c', cap', hm1, hm2, ?_, .inr ⟨hc, cs.setIfInBounds k (.int .u64 (wd Y k)), ?_, fun j hj => ?_⟩⟩
    · rw [Below.heap_setCell _ _ _ _ (by simpa using hcb.symm)]; exact h1
    · simp [World.setCell, Array.getElem?_modify, h3]
    · have hks : k < cs.size := by have := h4 k hk; exact (Array.getElem?_eq_some_iff.1 this).1
      rw [Array.getElem?_setIfInBounds, hw j]
      by_cases e : j = k
      · subst e; simp [hks]
      · rw [if_neg (fun h => e h.symm), if_neg e]; exact h4 j hj

theorem nw_le {n : Nat} (h : n ≤ 65536) : nw n ≤ 1024 := by unfold nw; omega
theorem div_lt_nw {n k : Nat} (h : k < n) : k / 64 < nw n := by unfold nw; omega

/-! Size, may, at, Has -/
theorem size_any {w : World} {D : Nat → Prop} {p : Option Addr} {n X : Nat} (h : SetP w D p n X) :
    Calls Tryd.prog 84 #[.pointer p] w fun e w' => e = .returned (.int .i64 (n : Int)) ∧ w = w' := by
  rcases h with ⟨rfl, rfl, rfl⟩ | ⟨b, rfl, h⟩
  · go_enter Tryd.func84, Tryd.ntmps84
    go_wp2
    go_ret
    exact ⟨rfl, rfl⟩
  · obtain ⟨c, cap, h0, h1, hw, _⟩ := h.facts
    clear hw h1
    go_enter Tryd.func84, Tryd.ntmps84
    go_wp2
    go_ret
    exact ⟨rfl, rfl⟩

/-- may a set of size n take i in? -/
def mayB (n : Nat) (i : Int) : Bool := decide (0 ≤ i ∧ i < n)
theorem may_any {w : World} {D : Nat → Prop} {p : Option Addr} {n X : Nat} (h : SetP w D p n X) (i : Int) :
    Calls Tryd.prog 63 #[.pointer p, .int .i64 i] w fun e w' => e = .returned (.bool (mayB n i)) ∧ w = w' := by
  have H := Lib.hid h
  clear h
  by_cases hi : 0 ≤ i
  · go_enter Tryd.func63, Tryd.ntmps63
    go_wp2_with (go_at_call 84; refine (size_any H.out).mono ?_; rintro e w' ⟨rfl, rfl⟩)
    go_ret
    exact ⟨by simp [mayB, hi], rfl⟩
  · have HF : Hid (mayB n i = false) := by simp [Hid, mayB, hi]
    go_enter Tryd.func63, Tryd.ntmps63
    go_wp2_with (go_at_call 84; refine (size_any H.out).mono ?_; rintro e w' ⟨rfl, rfl⟩)
    go_ret
    exact ⟨by rw [HF.out]; rfl, rfl⟩

theorem at_any {w : World} {D : Nat → Prop} {p : Option Addr} {n X : Nat} (h : SetP w D p n X) (k : Nat) :
    Calls Tryd.prog 85 #[.pointer p, .int .i64 (k : Int)] w fun e w' => e = .returned (.int .u64 (wd X k : Int)) ∧ w = w' := by
  rcases h with ⟨rfl, rfl, rfl⟩ | ⟨b, rfl, h⟩
  · go_enter Tryd.func85, Tryd.ntmps85
    go_wp2
    go_ret
    exact ⟨by simp [wd], rfl⟩
  · obtain ⟨c, cap, h0, h1, hw, _⟩ := h.facts
    have hn := nw_le h.le
    by_cases hlt : k < nw n
    · have hc := (hw k hlt).1
      clear hw
      go_enter Tryd.func85, Tryd.ntmps85
      go_wp2
      go_ret
      exact ⟨rfl, rfl⟩
    · clear hw
      have hz : wd X k = 0 := wd_zero h.lt (by omega)
      have HZ := Lib.hid hz
      clear hz
      go_enter Tryd.func85, Tryd.ntmps85
      go_wp2
      go_ret
      exact ⟨by rw [HZ.out]; rfl, rfl⟩

/-- is i in X? -/
def hasB (X : Nat) (i : Int) : Bool := decide (0 ≤ i) && X.testBit i.toNat
theorem hasB_nat (X k : Nat) : hasB X (k : Int) = X.testBit k := by simp [hasB]
theorem has_any {w : World} {D : Nat → Prop} {p : Option Addr} {n X : Nat} (h : SetP w D p n X) (i : Int) :
    Calls Tryd.prog 47 #[.pointer p, .int .i64 i] w fun e w' => e = .returned (.bool (hasB X i)) ∧ w = w' := by
  have hle := h.le
  have H := Lib.hid h
  by_cases hm : mayB n i = true
  · obtain ⟨k, rfl⟩ := Int.eq_ofNat_of_zero_le (by simp [mayB] at hm; exact hm.1 : 0 ≤ i)
    have hk : k < n := by simp [mayB] at hm; exact hm
    rcases h with ⟨rfl, rfl, rfl⟩ | ⟨b, rfl, h⟩
    · omega
    · obtain ⟨c, cap, h0, h1, hw, _⟩ := h.facts
      have hc := (hw (k / 64) (div_lt_nw hk)).1
      have hlt := div_lt_nw hk
      have hn := nw_le hle.1
      have HB : Hid (hasB X (k : Int) = _) := (hasB_nat X k).trans (go_has X k).symm
      clear hw hle h
      go_enter Tryd.func47, Tryd.ntmps47
      go_wp2_with (go_at_call 63; refine (may_any H.out _).mono ?_; rintro e w' ⟨rfl, rfl⟩)
      go_ret
      exact ⟨by rw [HB.out]; rfl, rfl⟩
  · have hm' : mayB n i = false := by simpa using hm
    have hf : hasB X i = false := by
      unfold hasB
      unfold mayB at hm
      by_cases h0 : 0 ≤ i
      · have := testBit_ge hle.2 (i := i.toNat) (by simp at hm; have := hm h0; omega)
        simp [this]
      · simp [h0]
    have HF := Lib.hid hf
    clear hf h hm hle
    go_enter Tryd.func47, Tryd.ntmps47
    go_wp2_with (go_at_call 63; refine (may_any H.out _).mono ?_; rintro e w' ⟨rfl, rfl⟩)
    go_ret
    exact ⟨by rw [HF.out]; rfl, rfl⟩
#print axioms has_any
end Go.Proofs.YtfpggeiphbekoaaDoor
