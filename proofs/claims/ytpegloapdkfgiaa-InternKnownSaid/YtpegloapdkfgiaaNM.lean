/- intern: the document's tables: a number's name, the order of names; the law's 'same'. -/
import Derived.Test.YtpegloapdkfgiaaNL
import Derived.Laws.MakeOwn
import Derived.Deep.Slices
namespace Go.Proofs.Ytpegloapdkfgiaa
open Go.RowKit
set_option linter.unusedVariables false

section
variable {w : World} {D E : Nat → Prop} {v u : Value} {ks : List Int} {L ps : List (Int × Int)} {x : Int × Int}
def namP (L : List (Int × Int)) (n : Int) : Int × Int := if 0 ≤ n ∧ n < (L.length : Int) then gp L n.toNat else (0, 0)
def namPE (L : List (Int × Int)) (n : Int) : Int := if 0 ≤ n ∧ n < (L.length : Int) then 0 else 70
theorem namP_up (L : List Int) (n : Int) : namP (up L) n = (nam L n, 0) ∧ namPE (up L) n = namE L n := by
  unfold namP namPE nam namE
  rw [up_length]
  by_cases h : 0 ≤ n ∧ n < (L.length : Int)
  · rw [if_pos h, if_pos h, if_pos h, gp_up (by omega)]
    exact ⟨rfl, rfl⟩
  · rw [if_neg h, if_neg h, if_neg h]
    exact ⟨rfl, rfl⟩
theorem refName_any (h : PaV w D v L) (n : Int) : Calls Try.prog 23 #[v, .int .i64 n] w fun e w' => e = .returned (.tuple #[.agg #[.int .u64 (namP L n).1, .int .u64 (namP L n).2], .int .i64 (namPE L n)]) ∧ Fx No w w' := by
  obtain ⟨ao, cap, rfl, _, hcm, hc⟩ := PaV.facts h
  have HC := Lib.hid hc
  have HN : Hid (namP L n = if 0 ≤ n ∧ n < (L.length : Int) then gp L n.toNat else (0, 0)) := Lib.hid rfl
  have HE : Hid (namPE L n = if 0 ≤ n ∧ n < (L.length : Int) then 0 else 70) := Lib.hid rfl
  clear h hc
  by_cases h1 : n < 0
  · have d1 : decide (n < 0) = true := decide_eq_true h1
    rw [HN.out, HE.out, if_neg (by omega), if_neg (by omega)]
    go_enter Try.func23, Try.ntmps23
    go_wp2
    (try simp only [Exit.inBlock, Exit.then])
    refine bodyPost_ret (v := .tuple #[.agg #[.int .u64 0, .int .u64 0], .int .i64 70]) ?_ rfl ⟨rfl, ?_⟩
    · rw [results_cell_tmp rfl]
      go_simp
    · first | exact (Fx.refl No w).alloc _ | (repeat (first | exact Fx.refl _ _ | exact (Fx.refl No w).alloc _ | refine Fx.setCell ?_ (.inl (Nat.le_refl _)) _))
  · obtain ⟨k, rfl⟩ := Int.eq_ofNat_of_zero_le (by omega : 0 ≤ n)
    have d1 : decide ((k : Int) < 0) = false := decide_eq_false (by omega)
    by_cases h2 : k < L.length
    · obtain ⟨g, o, rfl, _, hca, hcb⟩ := HC.out k h2
      have d2 : decide ((L.length : Int) ≤ (k : Int)) = false := decide_eq_false (by omega)
      have d2' : decide (L.length ≤ k) = false := decide_eq_false (by omega)
      have k1 : (k : Int) < (L.length : Int) := by omega
      have k0 : (0 : Int) ≤ (k : Int) := by omega
      rw [HN.out, HE.out, if_pos (by omega), if_pos (by omega), Int.toNat_natCast]
      obtain ⟨y, hy⟩ : ∃ y, y = gp L k := ⟨_, rfl⟩
      rw [← hy] at hca hcb ⊢
      clear hy
      have hgl := World.block_lt_of_cell? w _ hca
      go_enter Try.func23, Try.ntmps23
      go_wp2
      (try simp only [Exit.inBlock, Exit.then])
      refine bodyPost_ret (v := .tuple #[.agg #[.int .u64 y.1, .int .u64 y.2], .int .i64 0]) ?_ rfl ⟨rfl, ?_⟩
      · rw [results_cell_tmp rfl]
        go_simp
      · first | exact (Fx.refl No w).alloc _ | (repeat (first | exact Fx.refl _ _ | exact (Fx.refl No w).alloc _ | refine Fx.setCell ?_ (.inl (Nat.le_refl _)) _))
    · have d2 : decide ((L.length : Int) ≤ (k : Int)) = true := decide_eq_true (by omega)
      have d2' : decide (L.length ≤ k) = true := decide_eq_true (by omega)
      rw [HN.out, HE.out, if_neg (by omega), if_neg (by omega)]
      go_enter Try.func23, Try.ntmps23
      go_wp2
      (try simp only [Exit.inBlock, Exit.then])
      refine bodyPost_ret (v := .tuple #[.agg #[.int .u64 0, .int .u64 0], .int .i64 70]) ?_ rfl ⟨rfl, ?_⟩
      · rw [results_cell_tmp rfl]
        go_simp
      · first | exact (Fx.refl No w).alloc _ | (repeat (first | exact Fx.refl _ _ | exact (Fx.refl No w).alloc _ | refine Fx.setCell ?_ (.inl (Nat.le_refl _)) _))
theorem less_any (a b : Int × Int) (w : World) : Calls Try.prog 37 #[.agg #[.int .u64 a.1, .int .u64 a.2], .agg #[.int .u64 b.1, .int .u64 b.2]] w fun e w' => e = .returned (.bool (lessP a b)) ∧ Fx No w w' := by
  have HL : Hid (lessP a b = (decide (a.1 < b.1) || (decide (a.1 = b.1) && decide (a.2 < b.2)))) := Lib.hid rfl
  by_cases h1 : a.1 < b.1
  · have d1 : decide (a.1 < b.1) = true := decide_eq_true h1
    rw [HL.out, d1, Bool.true_or]
    go_enter Try.func37, Try.ntmps37
    go_wp2
    go_ret
    exact ⟨rfl, ((Fx.refl No w).alloc _).alloc _⟩
  · have d1 : decide (a.1 < b.1) = false := decide_eq_false h1
    by_cases h2 : a.1 = b.1
    · have d2 : decide (a.1 = b.1) = true := decide_eq_true h2
      have d2' : (a.1 == b.1) = true := by simpa using h2
      by_cases h3 : a.2 < b.2
      · have d3 : decide (a.2 < b.2) = true := decide_eq_true h3
        rw [HL.out, d1, d2, d3]
        go_enter Try.func37, Try.ntmps37
        go_wp2
        go_ret
        exact ⟨rfl, ((Fx.refl No w).alloc _).alloc _⟩
      · have d3 : decide (a.2 < b.2) = false := decide_eq_false h3
        rw [HL.out, d1, d2, d3]
        go_enter Try.func37, Try.ntmps37
        go_wp2
        go_ret
        exact ⟨rfl, ((Fx.refl No w).alloc _).alloc _⟩
    · have d2 : decide (a.1 = b.1) = false := decide_eq_false h2
      have d2' : (a.1 == b.1) = false := by simpa using h2
      rw [HL.out, d1, d2]
      go_enter Try.func37, Try.ntmps37
      go_wp2
      go_ret
      exact ⟨rfl, ((Fx.refl No w).alloc _).alloc _⟩
def zeroInts (k : Nat) : Array Value := Array.replicate k (.int .i64 0)
theorem makeInts {F : Int} {k : Nat} (h0 : 0 ≤ F) (h1 : F ≤ 1000000) (hk : F.toNat = k) (w : World) :
    (Instr.makeSlice 47 (.int .i64 F) (.int .i64 F)).run Try.prog w = .ok (.slice (some ⟨w.heap.size, 0, none⟩) k k) (w.alloc (.cells (zeroInts k) 3)) := by
  obtain ⟨i, hi, hz, hs, hb⟩ := info_parts info_int'
  have := run_make (P := Try.prog) w 47 3 i _ Try.underlying47 hi hz .i64 .i64 F F h0 (Int.le_refl _) (by rw [hb]; omega) (by omega)
  rw [this, hk, hs]
  have e : madeCells (Value.int .i64 0).cells (k * 1) = zeroInts k := by
    apply Array.ext'
    rw [show (Value.int .i64 0).cells = #[.int .i64 0] from rfl, toList_madeCells_one]
    simp [zeroInts]
  rw [e]
/-- the row that is being filled: cells of a block -/
def Filled (L : List (Int × Int)) (w0 ws : World) (i : Nat) : Prop := Fx No w0 ws ∧ w0.heap.size < ws.heap.size ∧ (∀ p, p < L.length → ∃ z, ws.cell? ⟨w0.heap.size, p, none⟩ = some (.int .i64 z) ∧ ws.frozen? ⟨w0.heap.size, p, none⟩ = false) ∧
  ∀ j, j < i → ws.cell? ⟨w0.heap.size, aheadN (ltP L) L.length j, none⟩ = some (.int .i64 ((j : Nat) : Int))
theorem Filled.no {w0 ws w' : World} {i : Nat} (h : Filled L w0 ws i) (hf : Fx No ws w') : Filled L w0 w' i := by
  obtain ⟨h1, h2, h3, h4⟩ := h
  refine ⟨h1.trans hf, Nat.lt_of_lt_of_le h2 hf.size, fun p hp => ?_, fun j hj => hf.cell' (h4 j hj) (fun h => h)⟩
  obtain ⟨z, c, f⟩ := h3 p hp
  exact ⟨z, hf.cellF c f (fun h => h)⟩
theorem Filled.put {w0 ws : World} {i : Nat} (hn : L.Nodup) (h : Filled L w0 ws i) (hi : i < L.length) : Filled L w0 (ws.setCell ⟨w0.heap.size, aheadN (ltP L) L.length i, none⟩ (.int .i64 ((i : Nat) : Int))) (i + 1) := by
  obtain ⟨h1, h2, h3, h4⟩ := h
  have hal := ahead_lt (lt := ltP L) (fun a => lessP_irr _) hi
  obtain ⟨z0, c0, _⟩ := h3 _ hal
  refine ⟨h1.setCell (.inl (Nat.le_refl _)) _, by simpa [World.setCell] using h2, fun p hp => ?_, fun j hj => ?_⟩
  · obtain ⟨z, c, f⟩ := h3 p hp
    by_cases e : p = aheadN (ltP L) L.length i
    · subst e
      exact ⟨_, World.cell?_setCell_same _ _ _ c, by simpa using f⟩
    · refine ⟨z, ?_, by simpa using f⟩
      rw [World.cell?_setCell_other]
      · exact c
      · simp only [ne_eq, Addr.mk.injEq, true_and, and_true]; exact fun q => e q.symm
  · by_cases e : j = i
    · subst e
      exact World.cell?_setCell_same _ _ _ c0
    · have hne : aheadN (ltP L) L.length i ≠ aheadN (ltP L) L.length j := fun q => by
        rcases lessP_total (gp_ne hn (show j < L.length by omega) hi e) with h5 | h5
        · have := ahead_mono (lt := ltP L) (n := L.length) (i := j) (j := i) (fun a b c h6 h7 => lessP_trans _ _ _ h6 h7) (fun a => lessP_irr _) (by omega) h5
          omega
        · have := ahead_mono (lt := ltP L) (n := L.length) (i := i) (j := j) (fun a b c h6 h7 => lessP_trans _ _ _ h6 h7) (fun a => lessP_irr _) hi h5
          omega
      rw [World.cell?_setCell_other]
      · exact h4 j (by omega)
      · simp only [ne_eq, Addr.mk.injEq, true_and, and_true]; exact hne
theorem Filled.done {w0 ws : World} (h : Filled L w0 ws L.length) (hl : L.length ≤ 100000) : ∃ Z, IntsV ws (fun j => j = w0.heap.size) (.slice (some ⟨w0.heap.size, 0, none⟩) L.length L.length) Z ∧ RisenZ L Z := by
  obtain ⟨h1, h2, h3, h4⟩ := h
  obtain ⟨f, hf⟩ := Go.Deep.choose_lt (p := fun p z => ws.cell? ⟨w0.heap.size, p, none⟩ = some (.int .i64 z)) (fun p hp => (by obtain ⟨z, c, _⟩ := h3 p hp; exact ⟨z, c⟩ : ∃ z : Int, ws.cell? ⟨w0.heap.size, p, none⟩ = some (.int .i64 z)))
  have hg : ∀ p, p < L.length → gi ((List.range L.length).map f) p = f p := fun p hp => by simp [gi, List.getD, hp]
  refine ⟨(List.range L.length).map f, ?_, by simp, fun i hi => ?_⟩
  · unfold IntsV
    have hln : ((List.range L.length).map f).length = L.length := by simp
    rw [hln]
    refine ⟨_, L.length, rfl, Nat.le_refl _, by unfold maxLen; omega, by simp [ints], by simp, .inr ⟨w0.heap.size, 0, rfl, rfl, fun p hp => ?_⟩⟩
    have hp' : p < L.length := by simpa [ints] using hp
    rw [Nat.zero_add, hf p hp']
    simp [ints, List.getD, hp']
  · have hal := ahead_lt (lt := ltP L) (n := L.length) (fun a => lessP_irr _) hi
    rw [hg _ hal]
    have h5 := hf _ hal
    rw [h4 i hi] at h5
    simp only [Option.some.injEq, Value.int.injEq, true_and] at h5
    exact h5.symm
/-- how many of the first k are ahead -/
def aheadTo (L : List (Int × Int)) (k i : Nat) : Nat := aheadN (ltP L) k i
theorem aheadTo_succ (L : List (Int × Int)) (k i : Nat) : aheadTo L (k + 1) i = aheadTo L k i + (if ltP L k i = true then 1 else 0) := by
  unfold aheadTo
  rw [aheadN_count, aheadN_count, List.range_succ, List.countP_append]
  simp [List.countP_cons]
theorem aheadTo_le (L : List (Int × Int)) (k i : Nat) : aheadTo L k i ≤ k := by
  unfold aheadTo
  rw [aheadN_count]
  have := List.countP_le_length (p := fun j => ltP L j i) (l := List.range k)
  simpa using this
set_option maxRecDepth 100000 in
set_option maxHeartbeats 4000000 in
theorem refRising_any (h : PaV w D v L) (hn : L.Nodup) (hl : L.length ≤ 100000) : Calls Try.prog 21 #[v] w fun e w' => ∃ v' Z, e = .returned v' ∧ Fx No w w' ∧ RisenZ L Z ∧ IntsV w' (fun j => j = w.heap.size) v' Z := by
  obtain ⟨ao, cap, rfl, _, hcm, hc⟩ := PaV.facts h
  have HC := Lib.hid hc
  have HNd := Lib.hid hn
  have hmk := makeInts (F := (L.length : Int)) (k := L.length) (by omega) (by omega) (by omega)
  have H0 : Hid (Filled L w (w.alloc (.cells (zeroInts L.length) 3)) 0) := Lib.hid ⟨(Fx.refl No w).alloc _, by simp, fun p hp => ⟨0, by simp [zeroInts, hp], by simp⟩, fun j hj => by omega⟩
  clear h hc hn
  go_enter Try.func21, Try.ntmps21
  go_wp2
  clear hmk
  go_loopw [4, 5, 6] (fun ii _ _ ws => ∃ i : Nat, ii = .int .i64 i ∧ i ≤ L.length ∧ Filled L w ws i) (fun ii _ _ _ => L.length - (intOf ii).toNat)
  case atStart => exact ⟨0, rfl, by omega, H0.out⟩
  case round =>
    obtain ⟨i, rfl, hi, hF⟩ := hrel
    have HF := Lib.hid hF
    obtain ⟨wa, hwa⟩ : ∃ x, x = wr := ⟨_, rfl⟩
    subst hwa
    clear hF H0
    by_cases hil : i < L.length
    · have d1 : decide ((i : Int) < (L.length : Int)) = true := decide_eq_true (by omega)
      have d1' : decide (i < L.length) = true := decide_eq_true hil
      have i0 : (0 : Int) ≤ (i : Int) := by omega
      have i1 : (i : Int) < (L.length : Int) := by omega
      go_wp2
      go_loopw [5, 6] (fun aa kk ws => ∃ k : Nat, kk = .int .i64 k ∧ k ≤ L.length ∧ aa = .int .i64 (aheadTo L k i : Nat) ∧ Fx No wa ws) (fun _ kk _ => L.length - (intOf kk).toNat)
      case atStart => exact ⟨0, rfl, by omega, rfl, Fx.refl _ _⟩
      case round =>
        obtain ⟨k, rfl, hk, rfl, hf⟩ := hrel
        have HFk := Lib.hid hf
        obtain ⟨wk, hwk⟩ : ∃ x, x = wr := ⟨_, rfl⟩
        subst hwk
        clear hf
        by_cases hkl : k < L.length
        · have d2 : decide ((k : Int) < (L.length : Int)) = true := decide_eq_true (by omega)
          have d2' : decide (k < L.length) = true := decide_eq_true hkl
          have k0 : (0 : Int) ≤ (k : Int) := by omega
          have k1 : (k : Int) < (L.length : Int) := by omega
          obtain ⟨g, o, rfl, _, hca, hcb⟩ := HC.out k hkl
          obtain ⟨g2, o2, e2, _, hcc, hcd⟩ := HC.out i hil
          simp only [Option.some.injEq, Addr.mk.injEq] at e2
          obtain ⟨rfl, rfl, _⟩ := e2
          have HA : Hid (∀ W, Fx No wk W → W.cell? ⟨g, o + k * 2, none⟩ = some (.int .u64 (gp L k).1)) := Lib.hid fun W q => q.cell' (HFk.out.cell' (HF.out.1.cell' hca (fun h => h)) (fun h => h)) (fun h => h)
          have HB : Hid (∀ W, Fx No wk W → W.cell? ⟨g, o + k * 2 + 1, none⟩ = some (.int .u64 (gp L k).2)) := Lib.hid fun W q => q.cell' (HFk.out.cell' (HF.out.1.cell' hcb (fun h => h)) (fun h => h)) (fun h => h)
          have HCc : Hid (∀ W, Fx No wk W → W.cell? ⟨g, o + i * 2, none⟩ = some (.int .u64 (gp L i).1)) := Lib.hid fun W q => q.cell' (HFk.out.cell' (HF.out.1.cell' hcc (fun h => h)) (fun h => h)) (fun h => h)
          have HCd : Hid (∀ W, Fx No wk W → W.cell? ⟨g, o + i * 2 + 1, none⟩ = some (.int .u64 (gp L i).2)) := Lib.hid fun W q => q.cell' (HFk.out.cell' (HF.out.1.cell' hcd (fun h => h)) (fun h => h)) (fun h => h)
          have hA := HA.out
          have hB := HB.out
          have hCc := HCc.out
          have hCd := HCd.out
          have a1 := hA wk (Fx.refl _ _)
          have a2 := hB wk (Fx.refl _ _)
          have a3 := hCc wk (Fx.refl _ _)
          have a4 := hCd wk (Fx.refl _ _)
          have hsu := aheadTo_succ L k i
          have hle := aheadTo_le L k i
          clear hca hcb hcc hcd
          go_wp2
          clear hA hB hCc hCd
          go_region_with (go_at_call 37; refine (less_any (gp L k) (gp L i) _).mono ?_; rintro e w5 ⟨rfl, hf⟩)
          all_goals
            have HF5 : Hid (Fx No wa w5) := Lib.hid (HFk.out.trans (by first | exact ((Fx.refl No wk).drew).trans hf | exact ((Fx.refl No wk).drewN _).trans hf))
            clear hf a1 a2 a3 a4
            cases hlt : lessP (gp L k) (gp L i) with
            | true =>
              have hs1 : aheadTo L (k + 1) i = aheadTo L k i + 1 := by rw [hsu]; unfold ltP; rw [hlt]; simp
              clear hsu
              go_wp2
              go_roundw
              case rel => exact ⟨k + 1, by first | rfl | go_num, by omega, by rw [hs1]; first | rfl | go_num, HF5.out⟩
              case measure => simp [intOf]; omega
            | false =>
              have hs1 : aheadTo L (k + 1) i = aheadTo L k i := by rw [hsu]; unfold ltP; rw [hlt]; simp
              clear hsu
              go_wp2
              go_roundw
              case rel => exact ⟨k + 1, by first | rfl | go_num, by omega, by rw [hs1], HF5.out⟩
              case measure => simp [intOf]; omega
        · obtain rfl : k = L.length := by omega
          have d2 : decide ((L.length : Int) < (L.length : Int)) = false := decide_eq_false (by omega)
          have d2' : decide (L.length < L.length) = false := decide_eq_false (by omega)
          have HF2 := Lib.hid (HF.out.no HFk.out)
          obtain ⟨a, ha⟩ : ∃ a, a = aheadTo L L.length i := ⟨_, rfl⟩
          have hal : a < L.length := by rw [ha]; exact ahead_lt (lt := ltP L) (n := L.length) (fun a => lessP_irr _) hil
          obtain ⟨z, hcz, hfz⟩ := HF2.out.2.2.1 a hal
          have HPut := Lib.hid (HF2.out.put HNd.out hil)
          have hae : aheadN (ltP L) L.length i = a := ha.symm
          rw [hae] at HPut
          rw [← ha]
          have a0 : (0 : Int) ≤ (a : Int) := by omega
          have a1 : (a : Int) < (L.length : Int) := by omega
          clear ha hae
          go_wp2
          go_roundw
          case rel => exact ⟨i + 1, by first | rfl | go_num, by omega, HPut.out⟩
          case measure => simp [intOf]; omega
    · obtain rfl : i = L.length := by omega
      have d1 : decide ((L.length : Int) < (L.length : Int)) = false := decide_eq_false (by omega)
      have d1' : decide (L.length < L.length) = false := decide_eq_false (by omega)
      obtain ⟨Z, hZ, hR⟩ := HF.out.done hl
      have HZ := Lib.hid hZ
      have HR := Lib.hid hR
      clear hZ hR
      go_wp2
      go_ret
      exact ⟨_, Z, rfl, HF.out.1, HR.out, HZ.out⟩
end
#print axioms refRising_any
#print axioms refName_any
#print axioms less_any
end Go.Proofs.Ytpegloapdkfgiaa
