/- Contract: perm.Count. -/
import Derived.Test.YtddpdjbgidmdlaaNew
import Derived.Test.YtddpdjbgidmdlaaCntMath2
namespace Go.Proofs.Ytddpdjbgidmdlaa
open Go.RowKit
set_option linter.unusedVariables false

/-- masks of who must stand ahead of each one -/
def MaskOf (n : Nat) (ps : List (Int × Int)) (M : Nat → Nat) : Prop := ∀ k, k < n → M k < 2 ^ n ∧ ∀ b, b < n → (M k).testBit b = decide ((k : Int) ∈ bhL ps (b : Int))
/-- of the first rows, and of the next one so many -/
def MaskP (n : Nat) (ps : List (Int × Int)) (M : Nat → Nat) (i τ : Nat) : Prop := ∀ k, k < n → M k < 2 ^ n ∧ ∀ b, b < n → (M k).testBit b = (decide (b < i ∧ (k : Int) ∈ bhL ps (b : Int)) || decide (b = i ∧ (k : Int) ∈ (bhL ps (i : Int)).take τ))
theorem maskP_start (n : Nat) (ps : List (Int × Int)) : MaskP n ps (fun _ => 0) 0 0 := fun k hk => ⟨Nat.pos_of_ne_zero (by simp), fun b hb => by simp⟩
theorem maskP_next {n i : Nat} {ps : List (Int × Int)} {M : Nat → Nat} (h : MaskP n ps M i (bhL ps (i : Int)).length) : MaskP n ps M (i + 1) 0 := fun k hk => ⟨(h k hk).1, fun b hb => by
  rw [(h k hk).2 b hb, List.take_length]
  by_cases e : b = i
  · subst e; simp
  · have e1 : decide (b = i ∧ (k : Int) ∈ bhL ps (i : Int)) = false := decide_eq_false fun h => e h.1
    have e2 : decide (b < i ∧ (k : Int) ∈ bhL ps (b : Int)) = decide (b < i + 1 ∧ (k : Int) ∈ bhL ps (b : Int)) := by
      rw [decide_eq_decide]; exact ⟨fun h => ⟨by omega, h.2⟩, fun h => ⟨by omega, h.2⟩⟩
    rw [e1, e2]; simp⟩
theorem maskP_all {n : Nat} {ps : List (Int × Int)} {M : Nat → Nat} (h : MaskP n ps M n 0) : MaskOf n ps M := fun k hk => ⟨(h k hk).1, fun b hb => by
  rw [(h k hk).2 b hb]
  simp [hb]⟩
theorem maskP_step {n i τ x : Nat} {ps : List (Int × Int)} {M : Nat → Nat} (h : MaskP n ps M i τ) (hi : i < n) (hτ : τ < (bhL ps (i : Int)).length) (hx : gi (bhL ps (i : Int)) τ = (x : Int)) :
    MaskP n ps (fun k => if k = x then M x ||| 2 ^ i else M k) i (τ + 1) := fun k hk => by
  have ht : (bhL ps (i : Int)).take (τ + 1) = (bhL ps (i : Int)).take τ ++ [(x : Int)] := by rw [take_gi hτ, hx]
  by_cases e : k = x
  · subst e
    simp only [↓reduceIte]
    refine ⟨Nat.or_lt_two_pow (h k hk).1 (Nat.pow_lt_pow_right (by omega) hi), fun b hb => ?_⟩
    rw [Nat.testBit_or, (h k hk).2 b hb, Nat.testBit_two_pow, ht]
    by_cases e2 : b = i
    · subst e2; simp
    · have e3 : decide (i = b) = false := decide_eq_false fun h => e2 h.symm
      have e4 : ∀ l : List Int, decide (b = i ∧ (k : Int) ∈ l) = false := fun l => decide_eq_false fun h => e2 h.1
      rw [e3, e4, e4, Bool.or_false]
  · simp only [if_neg e]
    refine ⟨(h k hk).1, fun b hb => ?_⟩
    rw [(h k hk).2 b hb, ht]
    congr 1
    rw [decide_eq_decide, List.mem_append, List.mem_singleton]
    exact ⟨fun h => ⟨h.1, .inl h.2⟩, fun h => ⟨h.1, h.2.resolve_right (by omega)⟩⟩
theorem info_u64 : (Try.prog.info? 30).map (fun i => (i.zero, i.size, i.bytes)) = some (some (.int .u64 0), 1, 8) := by kernel_rfl
def zeroU (k : Nat) : Array Value := Array.replicate k (.int .u64 0)
theorem makeU {E : Int} {k : Nat} (h0 : 0 ≤ E) (h1 : E ≤ 1000000) (hk : E.toNat = k) (w : World) :
    (Instr.makeSlice 67 (.int .i64 E) (.int .i64 E)).run Try.prog w = .ok (.slice (some ⟨w.heap.size, 0, none⟩) k k) (w.alloc (.cells (zeroU k) 30)) := by
  obtain ⟨i, hi, hz, hs, hb⟩ := info_parts info_u64
  have := run_make (P := Try.prog) w 67 30 i _ Try.underlying67 hi hz .i64 .i64 E E h0 (Int.le_refl _) (by rw [hb]; omega) (by omega)
  rw [this, hk, hs]
  have e : madeCells (Value.int .u64 0).cells (k * 1) = zeroU k := by
    apply Array.ext'
    rw [show (Value.int .u64 0).cells = #[.int .u64 0] from rfl, toList_madeCells_one]
    simp [zeroU]
  rw [e]
def CellsU (w : World) (g n : Nat) (A : Nat → Nat) : Prop := ∀ k, k < n → w.cell? ⟨g, k, none⟩ = some (.int .u64 ((A k : Nat) : Int)) ∧ w.frozen? ⟨g, k, none⟩ = false
theorem CellsU.fx {S : Nat → Prop} {w w' : World} {g n : Nat} {A : Nat → Nat} (h : CellsU w g n A) (hf : Fx S w w') (hn : ¬ S g) : CellsU w' g n A := fun k hk => hf.cellF (h k hk).1 (h k hk).2 hn
theorem CellsU.set {w : World} {g n x : Nat} {A : Nat → Nat} (h : CellsU w g n A) (hx : x < n) (a : Nat) : CellsU (w.setCell ⟨g, x, none⟩ (.int .u64 ((a : Nat) : Int))) g n (fun k => if k = x then a else A k) := by
  intro k hk
  refine ⟨?_, by simpa using (h k hk).2⟩
  by_cases e : k = x
  · subst e; simp only [↓reduceIte]; exact World.cell?_setCell_same _ _ _ (h k hk).1
  · simp only [if_neg e]
    rw [World.cell?_setCell_other _ _ _ _ (by intro e2; injection e2; omega)]
    exact (h k hk).1
theorem CellsU.congr {w : World} {g n : Nat} {A B : Nat → Nat} (h : CellsU w g n A) (e : ∀ k, k < n → A k = B k) : CellsU w g n B := fun k hk => by rw [← e k hk]; exact h k hk
def CountR (n : Int) (ps : List (Int × Int)) (w : World) (e : Ending) (w' : World) : Prop :=
  Fx No w w' ∧ ((mayE n ps ≠ 0 ∧ e = .returned (.tuple #[.int .u64 0, .int .i64 (mayE n ps)])) ∨ (mayE n ps = 0 ∧ 16 < n ∧ e = .returned (.tuple #[.int .u64 0, .int .i64 3])) ∨
    (mayE n ps = 0 ∧ n ≤ 16 ∧ ∃ M, MaskOf n.toNat ps M ∧ e = .returned (.tuple #[.int .u64 ((cnt n.toNat M (2 ^ n.toNat - 1) : Nat) : Int), .int .i64 0])))
set_option maxHeartbeats 4000000 in
theorem count_any {w : World} {D : Nat → Prop} {v : Value} {ps : List (Int × Int)} (h : PairsV w D v ps) (n : Int) (hps : ps.length ≤ 100000) :
    Calls Try.prog 17 #[.int .i64 n, v] w (CountR n ps w) := by
  have HRel := Lib.hid (related_any h n hps)
  obtain ⟨vo, vc, rfl, _⟩ := h.facts
  by_cases he : mayE n ps = 0
  · obtain ⟨h1, h2, h3⟩ := mayE_zero he
    obtain ⟨N, rfl⟩ := Int.eq_ofNat_of_zero_le h1
    have hok : PsOk ps N := fun q hq => by
      have := h3 q hq
      simp only [pOk, decide_eq_true_eq] at this
      omega
    have HOk := Lib.hid hok
    have HE := Lib.hid he
    have HPs := Lib.hid hps
    have hne0 : ((0 : Int) != 0) = false := by simp
    clear h3 hok he h1 hps h
    by_cases h16 : 16 < N
    · have h16' : (16 : Int) < (N : Int) := by omega
      go_enter Try.func17, Try.ntmps17
      go_wp2_with fail
      refine HRel.out.mono ?_
      rintro e w1 (⟨h1, _⟩ | ⟨_, r, bB, aB, V, rfl, hR⟩)
      · exact absurd HE.out h1
      · have HF := Lib.hid hR.fx
        clear hR
        go_wp2
        go_ret2
        exact ⟨HF.out, .inr (.inl ⟨HE.out, h16', rfl⟩)⟩
    · have hN : N ≤ 16 := by omega
      have hT : 2 ^ N ≤ 65536 := Nat.pow_le_pow_right (n := 2) (i := N) (j := 16) (by omega) hN
      have d16 : decide ((16 : Int) < (N : Int)) = false := decide_eq_false (by omega)
      have hm := makeInts (E := (N : Int)) (k := N) (by omega) (by omega) (by omega)
      clear h16
      go_enter Try.func17, Try.ntmps17
      go_wp2_with fail
      refine HRel.out.mono ?_
      rintro e w1 (⟨h1, _⟩ | ⟨_, r, bB, aB, V, rfl, hR⟩)
      · exact absurd HE.out h1
      · rw [Int.toNat_natCast] at hR
        have hR2 := hR.no ((Fx.refl No w1).alloc (.cells (zeroInts N) 3))
        have r1 := hR2.r1
        have HR := Lib.hid hR
        clear hR hR2
        obtain ⟨W1, hW1⟩ : ∃ W, W = w1.alloc (.cells (zeroInts N) 3) := ⟨_, rfl⟩
        obtain ⟨nb, hnb⟩ : ∃ b, b = w1.heap.size := ⟨_, rfl⟩
        have hC0 : CellsF W1 nb N (fun _ => ((0 : Nat) : Int)) := by
          have eb := heap_alloc_new w1 (.cells (zeroInts N) 3)
          rw [hW1, hnb]
          exact fun j hj => ⟨by rw [cell_of_row _ _ _ _ _ _ eb]; simp [zeroInts, hj], frozen_of_row _ _ _ _ _ eb⟩
        have HC0 := Lib.hid hC0
        have hF1 : Fx No w1 W1 := by rw [hW1]; exact (Fx.refl No w1).alloc _
        have hsz1 : nb < W1.heap.size := by rw [hW1, hnb]; simp
        have HF1 := Lib.hid hF1
        have HB := Lib.hid HR.out.hi.2.1
        rw [← hnb] at HB
        have HZ := Lib.hid hnb
        go_wp2
        rw [← hW1, ← hnb]
        rw [← hW1] at r1
        clear hC0 hF1 hm hW1 hnb
        go_loopw [37] (fun i wr => ∃ (k : Nat) (M : Nat → Nat), i = .int .i64 k ∧ k ≤ N ∧ Fx (fun b => b = nb) W1 wr ∧ CellsF wr nb N (fun j => ((M j : Nat) : Int)) ∧ MaskP N ps M k 0) (fun i _ => N - (intOf i).toNat)
        case atStart => exact ⟨0, fun _ => 0, rfl, Nat.zero_le _, Fx.refl _ _, HC0.out, maskP_start N ps⟩
        case round =>
          obtain ⟨k, M, rfl, hk, hf, hC, hM⟩ := hrel
          have HF := Lib.hid hf
          have HC := Lib.hid hC
          have HM := Lib.hid hM
          clear hf hC hM
          by_cases hlt : k < N
          · obtain ⟨v1, v2, v3⟩ := HR.out.bh k hlt
            obtain ⟨vo', vc', hv, hlen, hcell⟩ := (OwnI.own v3).facts
            have q1 := HF.out.cell' (HF1.out.cell' v1 (fun h => h)) (Nat.ne_of_lt HB.out)
            obtain ⟨len, hl⟩ : ∃ l, l = (bhL ps (k : Int)).length := ⟨_, rfl⟩
            rw [hv, ← hl] at q1
            rw [← hl] at hlen hcell
            have hle : len ≤ 100000 := by rw [hl]; exact Nat.le_trans (bhL_length _ _) HPs.out
            have HLen := Lib.hid hl
            have HCell : Hid (∀ τ, τ < len → ∃ b o, vo' = some ⟨b, o, none⟩ ∧ b ≠ nb ∧ W1.cell? ⟨b, o + τ, none⟩ = some (.int .i64 (gi (bhL ps (k : Int)) τ))) := fun τ hτ => by
              obtain ⟨b, o, e1, e2, e3⟩ := hcell τ hτ
              have := (OwnI.lt v3 e2).2
              exact ⟨b, o, e1, by have := HZ.out; omega, HF1.out.cell' e3 (fun h => h)⟩
            clear hcell hl v1 v2 v3 hv
            go_wp2
            go_loopw [44] (fun i ws => ∃ (τ : Nat) (M : Nat → Nat), i = .int .i64 τ ∧ τ ≤ len ∧ Fx (fun b => b = nb) W1 ws ∧ CellsF ws nb N (fun j => ((M j : Nat) : Int)) ∧ MaskP N ps M k τ) (fun i _ => len - (intOf i).toNat)
            case atStart => exact ⟨0, M, rfl, Nat.zero_le _, HF.out, HC.out, HM.out⟩
            case round =>
              obtain ⟨τ, L, rfl, hτ, hf2, hC2, hM2⟩ := hrel
              have HF2 := Lib.hid hf2
              have HC2 := Lib.hid hC2
              have HM2 := Lib.hid hM2
              clear hf2 hC2 hM2
              by_cases hlt2 : τ < len
              · obtain ⟨b, o, rfl, hbn, hcell⟩ := HCell.out τ hlt2
                have hmem : gi (bhL ps (k : Int)) τ ∈ bhL ps (k : Int) := gi_mem (by rw [← HLen.out]; exact hlt2)
                have hrg := bhL_range HOk.out _ _ hmem
                obtain ⟨x, hx⟩ := Int.eq_ofNat_of_zero_le hrg.1
                have HX := Lib.hid hx
                have hxN : x < N := by omega
                rw [hx] at hcell
                have q2 := HF2.out.cell' hcell hbn
                obtain ⟨q3, q4⟩ := HC2.out x hxN
                obtain ⟨a, ha⟩ : ∃ a, a = L x := ⟨_, rfl⟩
                have ha2 : a < 65536 := by rw [ha]; exact Nat.lt_of_lt_of_le (HM2.out x hxN).1 hT
                simp only at q3
                rw [← ha] at q3
                have HAx := Lib.hid ha
                clear hcell hmem hrg hx ha
                obtain ⟨q, hq⟩ : ∃ q, q = 2 ^ k := ⟨_, rfl⟩
                have hp2 : q < 65536 := by rw [hq]; exact Nat.lt_of_lt_of_le (Nat.pow_lt_pow_right (by omega) hlt) hT
                obtain ⟨a', ha'⟩ : ∃ a', a' = a ||| q := ⟨_, rfl⟩
                have hor : bits .or .i64 (a : Int) (q : Int) = (a' : Int) := by rw [ha']; exact i64_or_nat a q (by omega) (by omega)
                have hsh : IntKind.i64.wrap ((2 : Int) ^ k) = (q : Int) := by
                  have : ((2 : Int) ^ k) = (q : Int) := by rw [hq]; simp
                  rw [this, IntKind.wrap_i64]; omega
                have HNew : Hid (MaskP N ps (fun j => if j = x then L x ||| 2 ^ k else L j) k (τ + 1) ∧ ∀ j, j < N → (if j = x then (a' : Int) else (L j : Int)) = ((if j = x then L x ||| 2 ^ k else L j : Nat) : Int)) := by
                  refine ⟨maskP_step HM2.out hlt (by rw [← HLen.out]; exact hlt2) HX.out, fun j _ => ?_⟩
                  rw [ha', HAx.out, hq]
                  split <;> rfl
                clear ha' hq
                go_wp2_with fail
                go_region
                all_goals
                  go_wp2
                  go_roundw
                  case rel => exact ⟨τ + 1, _, by go_num, by omega, (HF2.out.setCell (.inr rfl) _).drew, ((HC2.out.set hxN (a' : Int)).congr HNew.out.2).fx ((Fx.refl No _).drew) (fun h => h), HNew.out.1⟩
                  case measure => simp [intOf]; omega
              · obtain rfl : τ = len := by omega
                have HM3 : Hid (MaskP N ps L (k + 1) 0) := by
                  have := HM2.out
                  rw [HLen.out] at this
                  exact maskP_next this
                go_wp2
                go_roundw
                case rel => exact ⟨k + 1, L, by go_num, by omega, HF2.out, HC2.out, HM3.out⟩
                case measure => simp [intOf]; omega
          · obtain rfl : k = N := by omega
            have HMo : Hid (MaskOf k ps M) := maskP_all HM.out
            obtain ⟨T, hTdef⟩ : ∃ T, T = 2 ^ k := ⟨_, rfl⟩
            have hT0 : 0 < T := by rw [hTdef]; exact Nat.pos_of_ne_zero (by simp)
            rw [← hTdef] at hT
            have hshT : IntKind.i64.wrap ((2 : Int) ^ k) = (T : Int) := by
              have : ((2 : Int) ^ k) = (T : Int) := by rw [hTdef]; simp
              rw [this, IntKind.wrap_i64]; omega
            have hmU := makeU (E := (T : Int)) (k := T) (by omega) (by omega) (by omega)
            obtain ⟨ub, hub⟩ : ∃ b, b = wr.heap.size := ⟨_, rfl⟩
            obtain ⟨W2, hW2⟩ : ∃ W, W = wr.alloc (.cells ((zeroU T).setIfInBounds 0 (.int .u64 1)) 30) := ⟨_, rfl⟩
            have hU : CellsU W2 ub T (fun t => got k M t 0 0) := by
              have eb := heap_alloc_new wr (.cells ((zeroU T).setIfInBounds 0 (.int .u64 1)) 30)
              rw [hW2, hub]
              refine fun j hj => ⟨?_, frozen_of_row _ _ _ _ _ eb⟩
              show _ = some (Value.int .u64 ((got k M j 0 0 : Nat) : Int))
              rw [cell_of_row _ _ _ _ _ _ eb, got_start]
              cases j with
              | zero => simp [zeroU, hj]
              | succ j => simp [zeroU, hj]
            have hlt1 : nb < wr.heap.size := Nat.lt_of_lt_of_le hsz1 HF.out.size
            have hne : nb ≠ ub := by rw [hub]; omega
            have hF2 : Fx (fun b => b = ub) wr W2 := by
              rw [hW2]
              exact (Fx.refl _ wr).alloc _
            have HAll : Hid (Fx No w W2) := by
              have h1 : Fx No w w1 := HR.out.fx
              have h2 := h1.trans HF1.out
              have hz1 := h1.size
              have h3 := h2.trans' HF.out fun j e hl => by have := HZ.out; omega
              have hz3 := h3.size
              exact h3.trans' hF2 fun j e hl => by omega
            have HCm : Hid (CellsF W2 nb k (fun j => ((M j : Nat) : Int))) := HC.out.fx hF2 hne
            have HU := Lib.hid hU
            have HUb : Hid (w.heap.size ≤ ub) := by
              have h1 := HR.out.fx.size
              have h2 := HF1.out.size
              have h3 := HF.out.size
              show _ ≤ _
              omega
            have HTd := Lib.hid hTdef
            clear hU hF2 hlt1 hTdef
            obtain ⟨z1, z2⟩ : (wr.alloc (.cells (zeroU T) 30)).cell? ⟨wr.heap.size, 0, none⟩ = some (.int .u64 0) ∧ (wr.alloc (.cells (zeroU T) 30)).frozen? ⟨wr.heap.size, 0, none⟩ = false := by
              have eb := heap_alloc_new wr (.cells (zeroU T) 30)
              exact ⟨by rw [cell_of_row _ _ _ _ _ _ eb]; simp [zeroU, hT0], frozen_of_row _ _ _ _ _ eb⟩
            go_wp2_with fail
            rw [← hub, ← hW2]
            clear z1 z2 hub hW2 hmU
            go_loopw [65] (fun i ws => ∃ s : Nat, i = .int .i64 s ∧ s ≤ T ∧ Fx (fun b => b = ub) W2 ws ∧ CellsU ws ub T (fun t => got k M t s 0)) (fun i _ => T - (intOf i).toNat)
            case atStart => exact ⟨0, rfl, Nat.zero_le _, Fx.refl _ _, HU.out⟩
            case round =>
              obtain ⟨s, rfl, hs, hf2, hU2⟩ := hrel
              have HF2 := Lib.hid hf2
              have HU2 := Lib.hid hU2
              clear hf2 hU2
              by_cases hlt : s < T
              · go_wp2
                go_loopw [70] (fun i ws => ∃ j : Nat, i = .int .i64 j ∧ j ≤ k ∧ Fx (fun b => b = ub) W2 ws ∧ CellsU ws ub T (fun t => got k M t s j)) (fun i _ => k - (intOf i).toNat)
                case atStart => exact ⟨0, rfl, Nat.zero_le _, HF2.out, HU2.out⟩
                case round =>
                  obtain ⟨j, rfl, hj, hf3, hU3⟩ := hrel
                  have HF3 := Lib.hid hf3
                  have HU3 := Lib.hid hU3
                  clear hf3 hU3
                  by_cases hlt2 : j < k
                  · obtain ⟨q3, _⟩ := (HCm.out.fx HF3.out hne) j hlt2
                    obtain ⟨a, ha⟩ : ∃ a, a = M j := ⟨_, rfl⟩
                    have ha2 : a < 65536 := by rw [ha]; exact Nat.lt_of_lt_of_le (HMo.out j hlt2).1 (by rw [← HTd.out]; exact hT)
                    simp only at q3
                    rw [← ha] at q3
                    have HAj := Lib.hid ha
                    clear ha
                    have hsT : s < 65536 := by omega
                    have hin := go_inM a s (by omega) (by omega)
                    have hbit : bits .and .i64 ((s : Int) / (2 : Int) ^ j) 1 = 0 ↔ s.testBit j = false := by
                      have e : (s : Int) / (2 : Int) ^ j = ((s / 2 ^ j : Nat) : Int) := by simp
                      rcases go_bit s j with h | h
                      · rw [e]
                        rw [Bool.eq_iff_iff, beq_iff_eq] at h
                        rw [h]; simp
                      · omega
                    by_cases hok : s.testBit j = false ∧ inM a s = true
                    · obtain ⟨ho1, ho2⟩ := hok
                      have hbt := hbit.2 ho1
                      rw [ho2] at hin
                      obtain ⟨t, ht⟩ : ∃ t, t = s + 2 ^ j := ⟨_, rfl⟩
                      obtain ⟨q, hq⟩ : ∃ q, q = 2 ^ j := ⟨_, rfl⟩
                      have hor : bits .or .i64 (s : Int) (q : Int) = (t : Int) := by
                        have hq2 : q < 65536 := by rw [hq]; exact Nat.lt_of_lt_of_le (Nat.pow_lt_pow_right (by omega) hlt2) (by rw [← HTd.out]; exact hT)
                        rw [i64_or_nat s q (by omega) (by omega), hq, or_bit ho1, ht]
                      have hsh : IntKind.i64.wrap ((2 : Int) ^ j) = (q : Int) := by
                        have hq2 : q < 65536 := by rw [hq]; exact Nat.lt_of_lt_of_le (Nat.pow_lt_pow_right (by omega) hlt2) (by rw [← HTd.out]; exact hT)
                        have : ((2 : Int) ^ j) = (q : Int) := by rw [hq]; simp
                        rw [this, IntKind.wrap_i64]; omega
                      have htT : t < T := by
                        rw [ht, ← or_bit ho1, HTd.out]
                        exact Nat.or_lt_two_pow (by rw [← HTd.out]; exact hlt) (Nat.pow_lt_pow_right (by omega) hlt2)
                      have htne : t ≠ s := by have : 0 < 2 ^ j := Nat.pos_of_ne_zero (by simp)
                                              omega
                      obtain ⟨c1, c2⟩ := HU3.out t htT
                      obtain ⟨c3, c4⟩ := HU3.out s hlt
                      obtain ⟨A, hA⟩ : ∃ A, A = got k M t s j := ⟨_, rfl⟩
                      obtain ⟨B, hB⟩ : ∃ B, B = got k M s s j := ⟨_, rfl⟩
                      simp only at c1 c3
                      rw [← hA] at c1
                      rw [← hB] at c3
                      have hBc : B = cnt k M s := by rw [hB]; exact got_done (Nat.le_refl s)
                      have hstep : ∀ t', got k M t' s (j + 1) = got k M t' s j + if t' = t then B else 0 := fun t' => by
                        rw [got_step hlt2, ← hBc]
                        congr 1
                        by_cases e : t' = t
                        · rw [if_pos e, if_pos (okJ_iff.2 ⟨by rw [e, ht], ho1, by rw [← HAj.out]; exact ho2⟩)]
                        · rw [if_neg e, if_neg fun h => e (by rw [(okJ_iff.1 h).1, ht])]
                      have hAB : A + B ≤ 20922789888000 := by
                        have h1 := hstep t
                        rw [if_pos rfl, ← hA] at h1
                        rw [← h1]
                        exact Nat.le_trans got_le (cnt_bound hN t)
                      have hw : IntKind.u64.wrap ((A : Int) + (B : Int)) = ((A + B : Nat) : Int) := by
                        rw [IntKind.wrap_u64]; omega
                      have HStep : Hid (∀ x, x < T → (if x = t then A + B else got k M x s j) = got k M x s (j + 1)) := fun x _ => by
                        rw [hstep x]
                        by_cases e : x = t
                        · rw [if_pos e, if_pos e, e, hA]
                        · rw [if_neg e, if_neg e, Nat.add_zero]
                      clear hq hA hB ht hstep hAB hBc ho1 ho2 hbit
                      obtain ⟨C, hC⟩ : ∃ C, C = A + B := ⟨_, rfl⟩
                      rw [← hC] at hw HStep
                      clear hC
                      go_wp2_with fail
                      go_region
                      all_goals
                        go_wp2
                        go_roundw
                        case rel => exact ⟨j + 1, by go_num, by omega, (HF3.out.setCell (.inr rfl) _).drew, ((HU3.out.set htT C).congr HStep.out).fx ((Fx.refl No _).drew) (fun h => h)⟩
                        case measure => simp [intOf]; omega
                    · have HU4 : Hid (CellsU wr ub T (fun t => got k M t s (j + 1))) := HU3.out.congr fun t _ => by
                        rw [got_step hlt2, if_neg fun h => hok ⟨(okJ_iff.1 h).2.1, by rw [HAj.out]; exact (okJ_iff.1 h).2.2⟩, Nat.add_zero]
                      by_cases hb : s.testBit j = false
                      · have hbt := hbit.2 hb
                        have hi : inM a s = false := by simpa using fun h => hok ⟨hb, h⟩
                        rw [hi] at hin
                        clear hbit hok hb hi
                        go_wp2
                        go_roundw
                        case rel => exact ⟨j + 1, by go_num, by omega, HF3.out, HU4.out⟩
                        case measure => simp [intOf]; omega
                      · have hbt := fun h => hb (hbit.1 h)
                        clear hbit hok hb hin
                        go_wp2
                        go_roundw
                        case rel => exact ⟨j + 1, by go_num, by omega, HF3.out, HU4.out⟩
                        case measure => simp [intOf]; omega
                  · obtain rfl : j = k := by omega
                    have HU4 := Lib.hid (HU3.out.congr (B := fun t => got j M t (s + 1) 0) fun t _ => got_end)
                    go_wp2
                    go_roundw
                    case rel => exact ⟨s + 1, by go_num, by omega, HF3.out, HU4.out⟩
                    case measure => simp [intOf]; omega
              · obtain rfl : s = T := by omega
                obtain ⟨T1, hT1⟩ : ∃ T1, s = T1 + 1 := ⟨s - 1, by omega⟩
                subst hT1
                obtain ⟨c1, _⟩ := HU2.out T1 (by omega)
                simp only at c1
                rw [got_done (by omega)] at c1
                have HRes : Hid (T1 = 2 ^ k - 1) := by have := HTd.out; show _ = _; omega
                obtain ⟨C, hC⟩ : ∃ C, C = cnt k M T1 := ⟨_, rfl⟩
                rw [← hC] at c1
                have HCc := Lib.hid hC
                clear hC hlt hs
                have HFin : Hid (Fx No w wr) := HAll.out.trans' HF2.out fun j e hl => by have := HUb.out; omega
                go_wp2
                go_ret2
                refine ⟨HFin.out, .inr (.inr ⟨HE.out, by omega, M, by rw [Int.toNat_natCast]; exact HMo.out, ?_⟩)⟩
                rw [Int.toNat_natCast, ← HRes.out, ← HCc.out]
                rfl
  · have HE := Lib.hid he
    have hne : (mayE n ps != 0) = true := by simpa using he
    obtain ⟨z, hz⟩ : ∃ z, z = mayE n ps := ⟨_, rfl⟩
    rw [← hz] at hne
    have HZ := Lib.hid hz
    clear he hz h
    go_enter Try.func17, Try.ntmps17
    go_wp2_with fail
    refine HRel.out.mono ?_
    rintro e w1 (⟨_, rfl, hf⟩ | ⟨h1, _⟩)
    · rw [← HZ.out]
      have HF := Lib.hid hf
      clear hf
      go_wp2
      go_ret2
      exact ⟨HF.out, .inl ⟨HE.out, by rw [← HZ.out]; rfl⟩⟩
    · exact absurd h1 HE.out
end Go.Proofs.Ytddpdjbgidmdlaa
