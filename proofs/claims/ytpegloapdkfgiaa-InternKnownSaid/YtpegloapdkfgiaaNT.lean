/- intern: a table of pairs: what it tells; the law's 'pairs'. -/
import Derived.Test.YtpegloapdkfgiaaNS
import Derived.Deep.RegionWith
namespace Go.Proofs.Ytpegloapdkfgiaa
open Go.RowKit
set_option linter.unusedVariables false

section
variable {w : World} {D E : Nat → Prop} {b : Nat} {L ps : List (Int × Int)} {v : Value} {x : Int × Int}
set_option maxRecDepth 100000 in
theorem findP_core (h : TabP' w D b L) (hx : kP.ok x) : Calls Try.prog 42 #[.pointer (some ⟨b, 0, none⟩), .agg #[.int .u64 x.1, .int .u64 x.2]] w fun e w' => e = .returned (.tuple #[.int .i64 (fnd L x), .bool (isIn L x)]) ∧ Fx No w w' := by
  obtain ⟨mv, nv, hP⟩ := h
  have c0 := hP.c0
  have hbl := hP.lt _ hP.db
  have hlook : ∀ nn : Nat, (Instr.lookup 61 mv (.agg #[.int .u64 x.1, .int .u64 x.2]) true).run Try.prog ((w.alloc (.cells #[.int .u64 x.1, .int .u64 x.2] 60)).drewN nn) = .ok (.tuple #[.int .i64 (fnd L x), .bool (isIn L x)]) ((w.alloc (.cells #[.int .u64 x.1, .int .u64 x.2] 60)).drewN nn) := fun nn => (hP.keep (((Fx.refl No w).alloc _).drewN nn) No.disj).look fitP hx
  clear hP hx
  go_enter Try.func42, Try.ntmps42
  go_wp2
  go_quiet (fail)
  clear hlook
  go_wp2
  go_ret2
  exact ⟨rfl, ((Fx.refl No w).alloc _).drewN _⟩
theorem findP_any (h : TabP' w D b L) (hx : kP.ok x) : Calls Try.prog 29 #[.pointer (some ⟨b, 0, none⟩), .agg #[.int .u64 x.1, .int .u64 x.2]] w fun e w' => e = .returned (.tuple #[.int .i64 (fnd L x), .bool (isIn L x)]) ∧ Fx No w w' := by
  have H : Hid (∀ W, Fx No w W → TabP' W D b L) := Lib.hid fun W q => h.no q
  have HX := Lib.hid hx
  clear h hx
  go_enter Try.func29, Try.ntmps29
  go_wp2
  go_region_with (go_at_call 42; refine (findP_core (x := x) (H.out _ (by repeat (first | exact Fx.refl _ _ | apply Fx.drew | apply Fx.drewN | apply Fx.alloc))) HX.out).mono ?_; rintro e w' ⟨rfl, hf⟩)
  all_goals
    have HF : Hid (Fx No w w') := Lib.hid (Fx.trans (by repeat (first | exact Fx.refl _ _ | apply Fx.drew | apply Fx.drewN | apply Fx.alloc)) hf)
    clear hf
    go_wp2
    go_ret2
    exact ⟨rfl, HF.out⟩
theorem nameP_core (h : TabP' w D b L) (n : Int) : Calls Try.prog 43 #[.pointer (some ⟨b, 0, none⟩), .int .i64 n] w fun e w' => e = .returned (.tuple #[.agg #[.int .u64 (namP L n).1, .int .u64 (namP L n).2], .int .i64 (namPE L n)]) ∧ Fx No w w' := by
  obtain ⟨mv, nv, hP⟩ := h
  have c1 := hP.c1
  have hbl := hP.lt _ hP.db
  obtain ⟨ao, cap, rfl, _, _, hc⟩ := PaV.facts hP.namesD
  have HC := Lib.hid hc
  have HLt := Lib.hid hP.lt
  have HN : Hid (namP L n = if 0 ≤ n ∧ n < (L.length : Int) then gp L n.toNat else (0, 0)) := Lib.hid rfl
  have HE : Hid (namPE L n = if 0 ≤ n ∧ n < (L.length : Int) then 0 else 70) := Lib.hid rfl
  clear hP hc
  by_cases h1 : n < 0
  · have d1 : decide (n < 0) = true := decide_eq_true h1
    rw [HN.out, HE.out, if_neg (by omega), if_neg (by omega)]
    go_enter Try.func43, Try.ntmps43
    go_wp2
    (try simp only [Exit.inBlock, Exit.then])
    refine bodyPost_ret (v := .tuple #[.agg #[.int .u64 0, .int .u64 0], .int .i64 70]) ?_ rfl ⟨rfl, ?_⟩
    · rw [results_cell_tmp rfl]
      go_simp
    · first | exact (Fx.refl No w).alloc _ | (repeat (first | exact Fx.refl _ _ | exact (Fx.refl No w).alloc _ | refine Fx.setCell ?_ (.inl (Nat.le_refl _)) _))
  · obtain ⟨k, rfl⟩ := Int.eq_ofNat_of_zero_le (by omega : 0 ≤ n)
    have d1 : decide ((k : Int) < 0) = false := decide_eq_false (by omega)
    by_cases h2 : k < L.length
    · obtain ⟨g, o, rfl, hgD, hca, hcb⟩ := HC.out k h2
      have hgl := HLt.out g hgD
      have d2 : decide ((L.length : Int) ≤ (k : Int)) = false := decide_eq_false (by omega)
      have d2' : decide (L.length ≤ k) = false := decide_eq_false (by omega)
      have k1 : (k : Int) < (L.length : Int) := by omega
      have k0 : (0 : Int) ≤ (k : Int) := by omega
      rw [HN.out, HE.out, if_pos (by omega), if_pos (by omega), Int.toNat_natCast]
      obtain ⟨y, hy⟩ : ∃ y, y = gp L k := ⟨_, rfl⟩
      rw [← hy] at hca hcb ⊢
      clear hy
      go_enter Try.func43, Try.ntmps43
      go_wp2
      (try simp only [Exit.inBlock, Exit.then])
      refine bodyPost_ret (v := .tuple #[.agg #[.int .u64 y.1, .int .u64 y.2], .int .i64 0]) ?_ rfl ⟨rfl, ?_⟩
      · rw [results_cell_tmp rfl]
        go_simp
      · first | exact (Fx.refl No w).alloc _ | (repeat (first | exact Fx.refl _ _ | exact (Fx.refl No w).alloc _ | refine Fx.setCell ?_ (.inl (Nat.le_refl _)) _))
    · have d2 : decide ((L.length : Int) ≤ (k : Int)) = true := decide_eq_true (by omega)
      have d2' : decide (L.length ≤ k) = true := decide_eq_true (by omega)
      rw [HN.out, HE.out, if_neg (by omega), if_neg (by omega)]
      go_enter Try.func43, Try.ntmps43
      go_wp2
      (try simp only [Exit.inBlock, Exit.then])
      refine bodyPost_ret (v := .tuple #[.agg #[.int .u64 0, .int .u64 0], .int .i64 70]) ?_ rfl ⟨rfl, ?_⟩
      · rw [results_cell_tmp rfl]
        go_simp
      · first | exact (Fx.refl No w).alloc _ | (repeat (first | exact Fx.refl _ _ | exact (Fx.refl No w).alloc _ | refine Fx.setCell ?_ (.inl (Nat.le_refl _)) _))
theorem nameP_any (h : TabP' w D b L) (n : Int) : Calls Try.prog 30 #[.pointer (some ⟨b, 0, none⟩), .int .i64 n] w fun e w' => e = .returned (.tuple #[.agg #[.int .u64 (namP L n).1, .int .u64 (namP L n).2], .int .i64 (namPE L n)]) ∧ Fx No w w' := by
  have H : Hid (TabP' (w.alloc (.cells #[.int .u64 0, .int .u64 0] 60)) D b L) := Lib.hid (h.no ((Fx.refl No w).alloc _))
  have hc0 : (w.alloc (.cells #[.int .u64 0, .int .u64 0] 60)).cell? ⟨w.heap.size, 0, none⟩ = some (.int .u64 0) ∧ (w.alloc (.cells #[.int .u64 0, .int .u64 0] 60)).frozen? ⟨w.heap.size, 0, none⟩ = false := ⟨by go_simp, by simp⟩
  have hc1 : (w.alloc (.cells #[.int .u64 0, .int .u64 0] 60)).cell? ⟨w.heap.size, 1, none⟩ = some (.int .u64 0) ∧ (w.alloc (.cells #[.int .u64 0, .int .u64 0] 60)).frozen? ⟨w.heap.size, 1, none⟩ = false := ⟨by go_simp, by simp⟩
  have HC0 := Lib.hid hc0
  have HC1 := Lib.hid hc1
  clear h hc0 hc1
  go_enter Try.func30, Try.ntmps30
  go_wp2_with fail
  refine (nameP_core H.out n).mono ?_
  rintro e w1 ⟨rfl, hf⟩
  obtain ⟨c0, z0⟩ := hf.cellF HC0.out.1 HC0.out.2 (fun h => h)
  obtain ⟨c1, z1⟩ := hf.cellF HC1.out.1 HC1.out.2 (fun h => h)
  have HF : Hid (Fx No w w1) := Lib.hid (((Fx.refl No w).alloc _).trans hf)
  obtain ⟨y, hy⟩ : ∃ y, y = namP L n := ⟨_, rfl⟩
  obtain ⟨ye, hye⟩ : ∃ y, y = namPE L n := ⟨_, rfl⟩
  rw [← hy, ← hye]
  have HY := Lib.hid hy
  have HYe := Lib.hid hye
  clear hf hy hye
  go_wp2
  (try simp only [Exit.inBlock, Exit.then])
  have k0 := World.cell?_setCell_same w1 ⟨w.heap.size, 0, none⟩ (.int .u64 y.1) c0
  refine bodyPost_ret (v := .tuple #[.agg #[.int .u64 y.1, .int .u64 y.2], .int .i64 ye]) ?_ rfl ⟨by rw [HY.out, HYe.out], ?_⟩
  · rw [results_cell_tmp rfl]
    go_simp
  · exact (HF.out.setCell (.inl (Nat.le_refl _)) _).setCell (.inl (Nat.le_refl _)) _
theorem lenP_any (h : TabP' w D b L) : Calls Try.prog 27 #[.pointer (some ⟨b, 0, none⟩)] w fun e w' => e = .returned (.int .i64 (L.length : Nat)) ∧ Fx No w w' := by
  obtain ⟨mv, nv, hP⟩ := h
  have c1 := hP.c1
  obtain ⟨ao, cap, rfl, _, _, hc⟩ := PaV.facts hP.namesD
  clear hP hc
  go_enter Try.func27, Try.ntmps27
  go_wp2
  go_ret
  exact ⟨rfl, Fx.refl _ _⟩
theorem addPs_any (h : TabP' w D b L) (hv : PaV w E v ps) (hok : ∀ x ∈ ps, kP.ok x) (hE : ∀ j, E j → ¬ D j) (hs : L.length + ps.length ≤ 100000) :
    Calls Try.prog 26 #[.pointer (some ⟨b, 0, none⟩), v] w fun e w' => e = .returned (.int .i64 (numN L ps (-1))) ∧ Fx D w w' ∧ ∃ D', TabP' w' D' b (addN L ps) ∧ ∀ j, D' j → D j ∨ w.heap.size ≤ j := by
  have H := Lib.hid h
  have HV := Lib.hid hv
  have HO := Lib.hid hok
  have HE := Lib.hid hE
  obtain ⟨ao, cap, rfl, _⟩ := PaV.facts hv
  clear h hv hok hE
  go_enter Try.func26, Try.ntmps26
  go_wp2_with fail
  refine (addP_any H.out HV.out HO.out HE.out hs).mono ?_
  rintro e w1 ⟨rfl, hf, hT⟩
  go_wp2
  go_ret
  exact ⟨rfl, hf, hT⟩
theorem risingP_any (h : TabP' w D b L) : Calls Try.prog 28 #[.pointer (some ⟨b, 0, none⟩)] w fun e w' => ∃ v R, e = .returned v ∧ Fx No w w' ∧ Risen (ltP L) L.length R ∧ RowR w w' v R := by
  have H := Lib.hid h
  clear h
  go_enter Try.func28, Try.ntmps28
  go_wp2_with fail
  refine (risingP_core H.out).mono ?_
  rintro e w1 ⟨v, R, rfl, hf, hR, hr⟩
  obtain ⟨ao, cap, rfl, _⟩ := IntsV.facts hr.1
  have HF := Lib.hid hf
  have HR := Lib.hid hR
  have Hr := Lib.hid hr
  clear hf hR hr
  go_wp2
  go_ret
  exact ⟨_, R, rfl, HF.out, HR.out, Hr.out⟩
end
#print axioms risingP_any
end Go.Proofs.Ytpegloapdkfgiaa
