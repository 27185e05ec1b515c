/- Contracts of package bits: New, Add, Remove, Of, Within, Same. -/
import Derived.Test.YtfpggeiphbekoaaDoorBitsA
import Derived.KernelRfl
namespace Go.Proofs.YtfpggeiphbekoaaDoor
open Go.RowKit
set_option linter.unusedVariables false

theorem info_u64 : (Tryd.prog.info? 119).map (fun i => (i.zero, i.size, i.bytes)) = some (some (.int .u64 0), 1, 8) := by kernel_rfl

/-- so many zero words -/
def zeroWords (k : Nat) : Array Value := Array.replicate k (.int .u64 0)
theorem makeWords {E : Int} {k : Nat} (h0 : 0 ≤ E) (h1 : E ≤ 100000) (hk : E.toNat = k) (w : World) :
    (Instr.makeSlice 120 (.int .i64 E) (.int .i64 E)).run Tryd.prog w = .ok (.slice (some ⟨w.heap.size, 0, none⟩) k k) (w.alloc (.cells (zeroWords k) 119)) := by
  obtain ⟨i, hi, hz, hs, hb⟩ := info_parts info_u64
  have := run_make (P := Tryd.prog) w 120 119 i _ Tryd.underlying120 hi hz .i64 .i64 E E h0 (Int.le_refl _) (by rw [hb]; omega) (by omega)
  rw [this, hk, hs]
  have e : madeCells (Value.int .u64 0).cells (k * 1) = zeroWords k := by
    apply Array.ext'
    rw [show (Value.int .u64 0).cells = #[.int .u64 0] from rfl, toList_madeCells_one]
    simp [zeroWords]
  rw [e]

/-- the size of a set that New makes -/
def newN (n : Int) : Nat := (max 0 (min n 65536)).toNat
theorem newN_le (n : Int) : newN n ≤ 65536 := by unfold newN; omega

theorem setIn_made (w : World) (n k : Nat) (h : n ≤ 65536) (hk : nw n = k) :
    SetIn ((w.alloc (.cells (zeroWords k) 119)).alloc (.cells #[.int .i64 (n : Int), .slice (some ⟨w.heap.size, 0, none⟩) k k] 122)) (Iv w.heap.size (w.heap.size + 2)) (w.heap.size + 1) n 0 := by
  subst hk
  refine ⟨h, Nat.two_pow_pos n, ⟨by omega, by omega⟩, w.heap.size, nw n, Nat.le_refl _, by unfold maxLen nw; omega, ?_, .inr ⟨⟨by omega, by omega⟩, zeroWords (nw n), ?_, fun j hj => ?_⟩⟩
  · have := heap_alloc_new (w.alloc (.cells (zeroWords (nw n)) 119)) (.cells #[.int .i64 (n : Int), .slice (some ⟨w.heap.size, 0, none⟩) (nw n) (nw n)] 122)
    rwa [World.size_alloc] at this
  · exact (Below.heap_alloc _ _ _ (by simp)).trans (heap_alloc_new w _)
  · simp [zeroWords, hj, wd]

set_option maxRecDepth 100000 in
theorem new_any (n : Int) (w : World) : Calls Tryd.prog 61 #[.int .i64 n] w fun e w' => ∃ b, e = .returned (.pointer (some ⟨b, 0, none⟩)) ∧ Fx No w w' ∧ SetIn w' (Iv w.heap.size w'.heap.size) b (newN n) 0 := by
  have hfx : ∀ (w : World) o o', Fx No w ((w.alloc o).alloc o') := fun w o o' => ((Fx.refl No w).alloc o).alloc o'
  by_cases h0 : n ≤ 0
  · have hmk := makeWords (E := 0) (k := 0) (by omega) (by omega) rfl
    have HN : Hid (newN n = 0) := by unfold Hid newN; omega
    have HS := Lib.hid (setIn_made w 0 0 (by omega) rfl)
    have HF := Lib.hid hfx
    clear hfx
    go_enter Tryd.func61, Tryd.ntmps61
    go_wp2
    all_goals first
      | omega
      | (go_ret
         refine ⟨_, rfl, HF.out _ _ _, ?_⟩
         rw [HN.out]
         simpa using HS.out)
  · by_cases h1 : n ≤ 65536
    · obtain ⟨m, rfl⟩ := Int.eq_ofNat_of_zero_le (by omega : 0 ≤ n)
      have hmk := makeWords (E := ((m : Int) + 64 - 1) / 64) (k := nw m) (by omega) (by omega) (by unfold nw; omega)
      have HN : Hid (newN m = m) := by unfold Hid newN; omega
      have HS := Lib.hid (setIn_made w m (nw m) (by omega) rfl)
      have HF := Lib.hid hfx
      clear hfx
      go_enter Tryd.func61, Tryd.ntmps61
      go_wp2
      all_goals first
        | omega
        | (go_ret
           refine ⟨_, rfl, HF.out _ _ _, ?_⟩
           rw [HN.out]
           simpa using HS.out)
    · have hmk := makeWords (E := 1024) (k := 1024) (by omega) (by omega) rfl
      have HN : Hid (newN n = 65536) := by unfold Hid newN; omega
      have HS := Lib.hid (setIn_made w 65536 1024 (by omega) rfl)
      have HF := Lib.hid hfx
      clear hfx
      go_enter Tryd.func61, Tryd.ntmps61
      go_wp2
      all_goals first
        | omega
        | (go_ret
           refine ⟨_, rfl, HF.out _ _ _, ?_⟩
           rw [HN.out]
           simpa using HS.out)

/-- X, having been asked to take i in -/
def addX (n X : Nat) (i : Int) : Nat := if mayB n i then ins X i.toNat else X
def addB (n X : Nat) (i : Int) : Bool := mayB n i && !hasB X i
theorem addX_lt {n X : Nat} (h : X < 2 ^ n) (i : Int) : addX n X i < 2 ^ n := by
  unfold addX
  split
  · rename_i hm; exact ins_lt h (by simp [mayB] at hm; omega)
  · exact h
theorem addX_of_not {n X : Nat} {i : Int} (h : addB n X i = false) : addX n X i = X := by
  unfold addX
  split
  · rename_i hm
    unfold addB at h
    rw [hm] at h
    simp at h
    unfold hasB at h
    simp at h
    exact ins_of_mem h.2
  · rfl

theorem add_any {w : World} {D : Nat → Prop} {p : Option Addr} {n X : Nat} (h : SetP w D p n X) (i : Int) :
    Calls Tryd.prog 40 #[.pointer p, .int .i64 i] w fun e w' => e = .returned (.bool (addB n X i)) ∧ Fx D w w' ∧ SetP w' D p n (addX n X i) := by
  have hle := h.le
  have H := Lib.hid h
  by_cases hm : mayB n i = true
  · by_cases hh : hasB X i = true
    · have HF : Hid (addB n X i = false) := by simp [Hid, addB, hh]
      have HX := Lib.hid (addX_of_not HF.out)
      clear h hle
      go_enter Tryd.func40, Tryd.ntmps40
      go_wp2_with (first | (go_at_call 63; refine (may_any H.out _).mono ?_; rintro e w' ⟨rfl, rfl⟩) | (go_at_call 47; refine (has_any H.out _).mono ?_; rintro e w' ⟨rfl, rfl⟩))
      go_ret
      exact ⟨by rw [HF.out]; rfl, Fx.refl _ _, by rw [HX.out]; exact H.out⟩
    · have hh' : hasB X i = false := by simpa using hh
      have HF : Hid (addB n X i = true) := by simp [Hid, addB, hm, hh']
      obtain ⟨k, rfl⟩ := Int.eq_ofNat_of_zero_le (by simp [mayB] at hm; exact hm.1 : 0 ≤ i)
      have hk : k < n := by simp [mayB] at hm; exact hm
      rcases h with ⟨rfl, rfl, rfl⟩ | ⟨b, rfl, h⟩
      · omega
      · obtain ⟨c, cap, h0, h1, hw, hD⟩ := h.facts
        obtain ⟨hc, hf⟩ := hw (k / 64) (div_lt_nw hk)
        have hlt := div_lt_nw hk
        have hn := nw_le hle.1
        have hS := h.setWord h1 hlt (ins_lt hle.2 hk) (fun j => by rw [ins_wd, ins_wd, if_pos rfl]; split <;> simp_all)
        have hX : addX n X (k : Int) = ins X k := by simp [addX, hm]
        rw [← hX, ← show Value.int .u64 (bits .or .u64 (wd X (k / 64) : Int) (IntKind.u64.wrap (2 ^ (k % 64)))) = .int .u64 (wd (addX n X (k : Int)) (k / 64)) from by rw [go_add, hX]] at hS
        have HS := Lib.hid hS
        have HC := Lib.hid (hD (by omega))
        clear hS hX hw hD hle h hh
        go_enter Tryd.func40, Tryd.ntmps40
        go_wp2_with (first | (go_at_call 63; refine (may_any H.out _).mono ?_; rintro e w' ⟨rfl, rfl⟩) | (go_at_call 47; refine (has_any H.out _).mono ?_; rintro e w' ⟨rfl, rfl⟩))
        go_region
        go_wp2
        go_ret
        exact ⟨by rw [HF.out]; rfl, ((Fx.refl _ _).setCell (.inr HC.out) _).drew, .inr ⟨b, rfl, HS.out.keep (S := No) ((Fx.refl _ _).drew) No.disj⟩⟩
  · have hm' : mayB n i = false := by simpa using hm
    have HF : Hid (addB n X i = false) := by simp [Hid, addB, hm']
    have HX := Lib.hid (addX_of_not HF.out)
    clear h hle hm
    go_enter Tryd.func40, Tryd.ntmps40
    go_wp2_with (first | (go_at_call 63; refine (may_any H.out _).mono ?_; rintro e w' ⟨rfl, rfl⟩) | (go_at_call 47; refine (has_any H.out _).mono ?_; rintro e w' ⟨rfl, rfl⟩))
    go_ret
    exact ⟨by rw [HF.out]; rfl, Fx.refl _ _, by rw [HX.out]; exact H.out⟩
#print axioms add_any
#print axioms new_any
end Go.Proofs.YtfpggeiphbekoaaDoor
