/- Contracts of package bits: Remove, Of, Within, Same, Copy. -/
import Derived.Test.YthbfpcheljaeaaaDoorBitsB
namespace Go.Proofs.YthbfpcheljaeaaaDoor
open Go.RowKit
set_option linter.unusedVariables false

/-- X, having been asked to take i out -/
def remX (X : Nat) (i : Int) : Nat := if hasB X i then del X i.toNat else X
theorem remX_lt {n X : Nat} (h : X < 2 ^ n) (i : Int) : remX X i < 2 ^ n := by
  unfold remX; split
  · exact del_lt h
  · exact h

theorem remove_any {w : World} {D : Nat → Prop} {p : Option Addr} {n X : Nat} (h : SetP w D p n X) (i : Int) :
    Calls Tryd.prog 21 #[.pointer p, .int .i64 i] w fun e w' => e = .returned (.bool (hasB X i)) ∧ Fx D w w' ∧ SetP w' D p n (remX X i) := by
  have hle := h.le
  have H := Lib.hid h
  by_cases hh : hasB X i = true
  · obtain ⟨k, rfl⟩ := Int.eq_ofNat_of_zero_le (by simp [hasB] at hh; exact hh.1 : 0 ≤ i)
    have hb : X.testBit k = true := by rw [hasB_nat] at hh; exact hh
    have hk : k < n := testBit_lt hle.2 hb
    rcases h with ⟨rfl, rfl, rfl⟩ | ⟨b, rfl, h⟩
    · omega
    · obtain ⟨c, cap, h0, h1, hw, hD⟩ := h.facts
      obtain ⟨hc, hf⟩ := hw (k / 64) (div_lt_nw hk)
      have hlt := div_lt_nw hk
      have hn := nw_le hle.1
      have hS := h.setWord h1 hlt (del_lt (i := k) hle.2) (fun j => by rw [del_wd, del_wd, if_pos rfl]; split <;> simp_all)
      have hX : remX X (k : Int) = del X k := by simp [remX, hh]
      rw [← hX, ← show Value.int .u64 (bits .andNot .u64 (wd X (k / 64) : Int) (IntKind.u64.wrap (2 ^ (k % 64)))) = .int .u64 (wd (remX X (k : Int)) (k / 64)) from by rw [go_remove, hX]] at hS
      have HS := Lib.hid hS
      have HC := Lib.hid (hD (by omega))
      clear hS hX hw hD hle h hb
      go_enter Tryd.func21, Tryd.ntmps21
      go_wp2_with (go_at_call 19; refine (has_any H.out _).mono ?_; rintro e w' ⟨rfl, rfl⟩)
      go_region
      go_wp2
      go_ret
      exact ⟨by rw [hh]; rfl, ((Fx.refl _ _).setCell (.inr HC.out) _).drew, .inr ⟨b, rfl, HS.out.keep (S := No) ((Fx.refl _ _).drew) No.disj⟩⟩
  · have hh' : hasB X i = false := by simpa using hh
    have HX : Hid (remX X i = X) := by simp [Hid, remX, hh']
    clear h hle hh
    go_enter Tryd.func21, Tryd.ntmps21
    go_wp2_with (go_at_call 19; refine (has_any H.out _).mono ?_; rintro e w' ⟨rfl, rfl⟩)
    go_ret
    exact ⟨by rw [hh']; rfl, Fx.refl _ _, by rw [HX.out]; exact H.out⟩

/-- all of l taken in -/
def ofX (n : Nat) (l : List Int) : Nat := l.foldl (addX n) 0
theorem ofX_take {n : Nat} {l : List Int} {k : Nat} (h : k < l.length) : ofX n (l.take (k + 1)) = addX n (ofX n (l.take k)) (gi l k) := by
  unfold ofX; rw [take_gi h, List.foldl_append]; rfl
theorem ofX_lt (n : Nat) (l : List Int) : ofX n l < 2 ^ n := by
  unfold ofX
  have : ∀ (l : List Int) (X : Nat), X < 2 ^ n → l.foldl (addX n) X < 2 ^ n := by
    intro l
    induction l with
    | nil => exact fun X h => h
    | cons i l ih => exact fun X h => ih _ (addX_lt h i)
  exact this l 0 (Nat.two_pow_pos n)

theorem of_any {w : World} {D : Nat → Prop} {v : Value} {l : List Int} (n : Int) (h : IntsV w D v l) :
    Calls Tryd.prog 9 #[.int .i64 n, v] w fun e w' => ∃ b, e = .returned (.pointer (some ⟨b, 0, none⟩)) ∧ Fx No w w' ∧ SetIn w' (Iv w.heap.size w'.heap.size) b (newN n) (ofX (newN n) l) := by
  obtain ⟨ao, cap, rfl, hlen, hc⟩ := h.facts
  have HC := Lib.hid hc
  clear hc h
  go_enter Tryd.func9, Tryd.ntmps9
  go_wp2_with fail
  refine (new_any n w).mono ?_
  rintro e w1 ⟨b, rfl, hf1, hs1⟩
  have HF1 := Lib.hid hf1
  have HS1 := Lib.hid hs1
  clear hf1 hs1
  go_wp2
  go_loopw [7, 12] (fun _ i wr => ∃ k : Nat, k ≤ l.length ∧ i = .int .i64 k ∧ Fx No w wr ∧ w1.heap.size ≤ wr.heap.size ∧ SetIn wr (Iv w.heap.size w1.heap.size) b (newN n) (ofX (newN n) (l.take k))) (fun _ i _ => l.length - (intOf i).toNat)
  case atStart => exact ⟨0, Nat.zero_le _, rfl, HF1.out, Nat.le_refl _, HS1.out⟩
  case round =>
    obtain ⟨k, hk, rfl, hf, hsz, hs⟩ := hrel
    have HF := Lib.hid hf
    have HS := Lib.hid hs
    clear hf hs
    by_cases hlt : k < l.length
    · obtain ⟨bl, o, rfl, _, hcell⟩ := HC.out k hlt
      have hcell' := HF.out.cell' hcell (fun h => h)
      clear hcell
      go_wp2_with fail
      refine (add_any HS.out.p _).mono ?_
      rintro e w2 ⟨rfl, hf2, hs2⟩
      have hs3 : SetIn w2 (Iv w.heap.size w1.heap.size) b (newN n) (ofX (newN n) (l.take (k + 1))) := by
        rw [ofX_take hlt]
        rcases hs2 with ⟨h, _⟩ | ⟨b', h, h'⟩
        · cases h
        · obtain rfl : b = b' := by simpa using h
          exact h'
      have HS3 := Lib.hid hs3
      have HF3 := Lib.hid (HF.out.trans' hf2 (fun j hj hlt => by unfold Iv at hj; omega))
      have hsz2 := hf2.size
      clear hs2 hs3 hf2
      go_wp2
      go_roundw
      case rel => exact ⟨k + 1, by omega, by go_num, HF3.out, by omega, HS3.out⟩
      case measure => simp [intOf]; omega
    · obtain rfl : k = l.length := by omega
      go_wp2
      go_ret
      exact ⟨b, rfl, HF.out, by have := HS.out; rw [List.take_length] at this; exact this.mono fun j ⟨h1, h2⟩ => ⟨h1, by omega⟩⟩

theorem within_any {w : World} {D E : Nat → Prop} {p q : Option Addr} {n X m Y : Nat} (h : SetP w D p n X) (h' : SetP w E q m Y) :
    Calls Tryd.prog 13 #[.pointer p, .pointer q] w fun e w' => e = .returned (.bool (withinB X Y)) ∧ w = w' := by
  have hle := h.le
  have hn := nw_le hle.1
  have hlt0 := diff_lt hle.2 Y
  have H := Lib.hid h
  have H' := Lib.hid h'
  have HZ := Lib.hid hlt0
  clear h h' hlt0
  obtain ⟨hle, _⟩ := hle
  go_enter Tryd.func13, Tryd.ntmps13
  go_wp2_with (go_at_call 18; refine (size_any H.out).mono ?_; rintro e w' ⟨rfl, rfl⟩)
  go_loop [5, 11] (fun _ i => ∃ k : Nat, k ≤ nw n ∧ i = .int .i64 k ∧ ∀ j, j < k → wd (diff X Y) j = 0) (fun _ i => nw n - (intOf i).toNat)
  case atStart => exact ⟨0, Nat.zero_le _, rfl, fun j hj => by omega⟩
  case round =>
    obtain ⟨k, hk, rfl, hz⟩ := hrel
    have HK := Lib.hid hz
    clear hz
    by_cases hlt : k < nw n
    · have hd := go_diff X Y k
      have hlt2 : (k : Int) < ((n : Int) + 64 - 1) / 64 := by unfold nw at hlt; omega
      by_cases hz : wd (diff X Y) k = 0
      · have HW := Lib.hid hz
        go_wp2_with fail
        refine (at_any H.out _).mono ?_
        rintro e w' ⟨rfl, rfl⟩
        go_wp2_with fail
        refine (at_any H'.out _).mono ?_
        rintro e w' ⟨rfl, rfl⟩
        go_wp2
        go_round
        case rel => exact ⟨k + 1, by omega, by go_num, fun j hj => by
          by_cases e : j = k
          · subst e; exact HW.out
          · exact HK.out j (by omega)⟩
        case measure => simp [intOf]; omega
      · have hp : (0 : Int) < (wd (diff X Y) k : Int) := by omega
        have HB : Hid (withinB X Y = false) := by
          show withinB X Y = false
          unfold withinB
          rw [beq_eq_false_iff_ne]
          intro e; rw [e] at hz; simp [wd] at hz
        clear hz
        go_wp2_with fail
        refine (at_any H.out _).mono ?_
        rintro e w' ⟨rfl, rfl⟩
        go_wp2_with fail
        refine (at_any H'.out _).mono ?_
        rintro e w' ⟨rfl, rfl⟩
        go_wp2
        go_ret
        exact ⟨by rw [HB.out]; rfl, rfl⟩
    · have HB : Hid (withinB X Y = true) := by
        show withinB X Y = true
        unfold withinB
        rw [beq_iff_eq]
        exact eq_zero_of_wd HZ.out fun j hj => HK.out j (by omega)
      have hge : ((n : Int) + 64 - 1) / 64 ≤ (k : Int) := by unfold nw at hlt; omega
      go_wp2
      go_ret
      exact ⟨by rw [HB.out]; rfl, rfl⟩

/-- are both the same? -/
def sameB (n X m Y : Nat) : Bool := n == m && (withinB X Y && withinB Y X)
theorem sameB_iff (n X m Y : Nat) : sameB n X m Y = true ↔ n = m ∧ X = Y := by
  unfold sameB
  simp only [Bool.and_eq_true, beq_iff_eq, withinB_iff]
  constructor
  · rintro ⟨rfl, h1, h2⟩
    refine ⟨rfl, Nat.eq_of_testBit_eq fun i => ?_⟩
    have a := h1 i
    have b := h2 i
    cases hx : X.testBit i <;> cases hy : Y.testBit i <;> simp_all
  · rintro ⟨rfl, rfl⟩
    exact ⟨rfl, fun _ h => h, fun _ h => h⟩
theorem same_any {w : World} {D E : Nat → Prop} {p q : Option Addr} {n X m Y : Nat} (h : SetP w D p n X) (h' : SetP w E q m Y) :
    Calls Tryd.prog 11 #[.pointer p, .pointer q] w fun e w' => e = .returned (.bool (sameB n X m Y)) ∧ w = w' := by
  have H := Lib.hid h
  have H' := Lib.hid h'
  clear h h'
  have first_calls : ∀ (b : Bool), ((n : Int) == (m : Int)) = b → (b = true → withinB X Y = true → Hid (sameB n X m Y = withinB Y X)) → (b = false ∨ withinB X Y = false → Hid (sameB n X m Y = false)) →
      Calls Tryd.prog 11 #[.pointer p, .pointer q] w fun e w' => e = .returned (.bool (sameB n X m Y)) ∧ w = w' := by
    intro b hb h1 h2
    cases b
    · have HB := h2 (.inl rfl)
      clear h1 h2
      go_enter Tryd.func11, Tryd.ntmps11
      go_wp2_with fail
      refine (size_any H.out).mono ?_
      rintro e w' ⟨rfl, rfl⟩
      go_wp2_with fail
      refine (size_any H'.out).mono ?_
      rintro e w' ⟨rfl, rfl⟩
      go_wp2
      go_ret
      exact ⟨by rw [HB.out]; rfl, rfl⟩
    · cases hw : withinB X Y
      · have HB := h2 (.inr hw)
        clear h1 h2
        go_enter Tryd.func11, Tryd.ntmps11
        go_wp2_with fail
        refine (size_any H.out).mono ?_
        rintro e w' ⟨rfl, rfl⟩
        go_wp2_with fail
        refine (size_any H'.out).mono ?_
        rintro e w' ⟨rfl, rfl⟩
        go_wp2_with fail
        refine (within_any H.out H'.out).mono ?_
        rintro e w' ⟨rfl, rfl⟩
        go_wp2
        go_ret
        exact ⟨by rw [HB.out]; rfl, rfl⟩
      · have HB := h1 rfl hw
        clear h1 h2
        go_enter Tryd.func11, Tryd.ntmps11
        go_wp2_with fail
        refine (size_any H.out).mono ?_
        rintro e w' ⟨rfl, rfl⟩
        go_wp2_with fail
        refine (size_any H'.out).mono ?_
        rintro e w' ⟨rfl, rfl⟩
        go_wp2_with fail
        refine (within_any H.out H'.out).mono ?_
        rintro e w' ⟨rfl, rfl⟩
        go_wp2_with fail
        refine (within_any H'.out H.out).mono ?_
        rintro e w' ⟨rfl, rfl⟩
        go_wp2
        go_ret
        exact ⟨by rw [HB.out]; rfl, rfl⟩
  refine first_calls _ rfl (fun hb hw => ?_) (fun hb => ?_)
  · show sameB n X m Y = _
    have : n = m := by have := eq_of_beq hb; omega
    simp [sameB, hw, this]
  · show sameB n X m Y = false
    unfold sameB
    rcases hb with hb | hb
    · have : (n == m) = false := by rw [beq_eq_false_iff_ne]; intro e; subst e; simp at hb
      simp [this]
    · simp [hb]
#print axioms same_any
#print axioms remove_any
#print axioms of_any
#print axioms within_any
end Go.Proofs.YthbfpcheljaeaaaDoor
