/- A closure in memory; what its methods that only read tell: Len, Leads, From, To, Loops, Cyclic, Pairs. -/
import Derived.Test.YtfpggeiphbekoaaDoorFamD
import Derived.Test.YtfpggeiphbekoaaDoorCloMath
namespace Go.Proofs.YtfpggeiphbekoaaDoor
open Go.RowKit
set_option linter.unusedVariables false

/-- where a closure lies -/
structure CC where
  b : Nat
  c0 : FC
  c1 : FC
  c2 : FC
  D0 : Nat → Prop
  D1 : Nat → Prop
  D2 : Nat → Prop
/-- a closure of n nodes: to whom nodes lead, who leads to them, its edges -/
structure Clo (w : World) (D : Nat → Prop) (n : Nat) (dn up ed : Nat → Nat) (k : CC) : Prop where
  v0 : w.cell? ⟨k.b, 0, none⟩ = some k.c0.v
  v1 : w.cell? ⟨k.b, 1, none⟩ = some k.c1.v
  v2 : w.cell? ⟨k.b, 2, none⟩ = some k.c2.v
  f0 : Fam w k.D0 n dn k.c0
  f1 : Fam w k.D1 n up k.c1
  f2 : Fam w k.D2 n ed k.c2
  d01 : ∀ x, k.D0 x → ¬ k.D1 x
  d02 : ∀ x, k.D0 x → ¬ k.D2 x
  d12 : ∀ x, k.D1 x → ¬ k.D2 x
  nb : ¬ k.D0 k.b ∧ ¬ k.D1 k.b ∧ ¬ k.D2 k.b
  s0 : ∀ x, k.D0 x → D x
  s1 : ∀ x, k.D1 x → D x
  s2 : ∀ x, k.D2 x → D x
  sb : D k.b
  le : n ≤ 1024
section
variable {w w' : World} {D S : Nat → Prop} {n : Nat} {dn up ed : Nat → Nat} {k : CC}
theorem Clo.keep (h : Clo w D n dn up ed k) (hf : Fx S w w') (hd : ∀ x, D x → ¬ S x) : Clo w' D n dn up ed k :=
  ⟨hf.cell' h.v0 (hd _ h.sb), hf.cell' h.v1 (hd _ h.sb), hf.cell' h.v2 (hd _ h.sb), h.f0.keep hf fun x hx => hd x (h.s0 x hx), h.f1.keep hf fun x hx => hd x (h.s1 x hx), h.f2.keep hf fun x hx => hd x (h.s2 x hx),
    h.d01, h.d02, h.d12, h.nb, h.s0, h.s1, h.s2, h.sb, h.le⟩
theorem Clo.no (h : Clo w D n dn up ed k) (hf : Fx No w w') : Clo w' D n dn up ed k := h.keep hf No.disj
theorem Clo.congr {dn' up' ed' : Nat → Nat} (h : Clo w D n dn up ed k) (h0 : ∀ i, i < n → dn i = dn' i) (h1 : ∀ i, i < n → up i = up' i) (h2 : ∀ i, i < n → ed i = ed' i) : Clo w D n dn' up' ed' k :=
  ⟨h.v0, h.v1, h.v2, h.f0.congr h0, h.f1.congr h1, h.f2.congr h2, h.d01, h.d02, h.d12, h.nb, h.s0, h.s1, h.s2, h.sb, h.le⟩
/-- whether a node leads to another one -/
def leadsB (n : Nat) (dn : Nat → Nat) (i j : Int) : Bool := hasB (ofM n dn i) j
theorem cloLen_any (h : Clo w D n dn up ed k) : Calls Tryd.prog 23 #[.pointer (some ⟨k.b, 0, none⟩)] w fun e w' => e = .returned (.int .i64 (n : Int)) ∧ w = w' := by
  have v2 := h.v2
  obtain ⟨ao, cap, hv, _⟩ := h.f2.facts
  rw [hv] at v2
  clear h hv
  go_enter Tryd.func23, Tryd.ntmps23
  go_wp2
  go_ret
  exact ⟨rfl, rfl⟩
theorem leads_any (h : Clo w D n dn up ed k) (i j : Int) : Calls Tryd.prog 17 #[.pointer (some ⟨k.b, 0, none⟩), .int .i64 i, .int .i64 j] w fun e w' => e = .returned (.bool (leadsB n dn i j)) ∧ Fx No w w' := by
  have v0 := h.v0
  have H := Lib.hid h.f0
  clear h
  go_enter Tryd.func17, Tryd.ntmps17
  go_wp2_with fail
  refine (rowsOf_any H.out i).mono ?_
  rintro e w1 ⟨rfl, hf⟩
  have HF := Lib.hid hf
  clear hf
  go_wp2_with fail
  refine (has_any ((H.out.no HF.out).of i) j).mono ?_
  rintro e w2 ⟨rfl, rfl⟩
  go_wp2
  go_ret
  exact ⟨rfl, HF.out⟩
theorem from_any' (h : Clo w D n dn up ed k) (hT : TabOk w) (i : Int) : Calls Tryd.prog 18 #[.pointer (some ⟨k.b, 0, none⟩), .int .i64 i] w fun e w' => ∃ v, e = .returned v ∧ Fx No w w' ∧ OwnI w' w.heap.size v (allX (ofN n i) (ofM n dn i)) := by
  have v0 := h.v0
  have H := Lib.hid h.f0
  have HT := Lib.hid hT
  clear h hT
  go_enter Tryd.func18, Tryd.ntmps18
  go_wp2_with fail
  refine (rowsOf_any H.out i).mono ?_
  rintro e w1 ⟨rfl, hf⟩
  have HF := Lib.hid hf
  have hz := hf.size
  clear hf
  go_wp2_with fail
  refine (all_any ((H.out.no HF.out).of i) (HT.out.keep HF.out (fun h => h))).mono ?_
  rintro e w2 ⟨v, rfl, hf, ho⟩
  have HF2 := Lib.hid (HF.out.trans hf)
  have HO := Lib.hid ho
  clear hf ho
  go_wp2
  go_ret
  exact ⟨v, rfl, HF2.out, ownsRow_base HO.out hz⟩
theorem to_any (h : Clo w D n dn up ed k) (hT : TabOk w) (i : Int) : Calls Tryd.prog 19 #[.pointer (some ⟨k.b, 0, none⟩), .int .i64 i] w fun e w' => ∃ v, e = .returned v ∧ Fx No w w' ∧ OwnI w' w.heap.size v (allX (ofN n i) (ofM n up i)) := by
  have v1 := h.v1
  have H := Lib.hid h.f1
  have HT := Lib.hid hT
  clear h hT
  go_enter Tryd.func19, Tryd.ntmps19
  go_wp2_with fail
  refine (rowsOf_any H.out i).mono ?_
  rintro e w1 ⟨rfl, hf⟩
  have HF := Lib.hid hf
  have hz := hf.size
  clear hf
  go_wp2_with fail
  refine (all_any ((H.out.no HF.out).of i) (HT.out.keep HF.out (fun h => h))).mono ?_
  rintro e w2 ⟨v, rfl, hf, ho⟩
  have HF2 := Lib.hid (HF.out.trans hf)
  have HO := Lib.hid ho
  clear hf ho
  go_wp2
  go_ret
  exact ⟨v, rfl, HF2.out, ownsRow_base HO.out hz⟩
/-- the nodes below m that lead to themselves -/
def loopsTo (dn : Nat → Nat) (m : Nat) : List Int := ((List.range m).filter fun i => (dn i).testBit i).map fun i : Nat => (i : Int)
theorem loopsTo_succ (dn : Nat → Nat) (m : Nat) : loopsTo dn (m + 1) = loopsTo dn m ++ if (dn m).testBit m then [(m : Int)] else [] := by
  unfold loopsTo
  rw [List.range_succ, List.filter_append, List.map_append]
  congr 1
  by_cases h : (dn m).testBit m = true <;> simp [h]
theorem loopsTo_len (dn : Nat → Nat) (m : Nat) : (loopsTo dn m).length ≤ m := by
  unfold loopsTo
  rw [List.length_map]
  exact Nat.le_trans (List.length_filter_le _ _) (by simp)
theorem leadsB_nat {n : Nat} {dn : Nat → Nat} {i j : Nat} (hi : i < n) : leadsB n dn (i : Int) (j : Int) = (dn i).testBit j := by
  unfold leadsB ofM
  rw [if_pos (by omega), hasB_nat]
  rfl
set_option maxHeartbeats 1000000 in
theorem loops_any (h : Clo w D n dn up ed k) : Calls Tryd.prog 21 #[.pointer (some ⟨k.b, 0, none⟩)] w fun e w' => ∃ v, e = .returned v ∧ Fx No w w' ∧ OwnI w' w.heap.size v (loopsTo dn n) := by
  obtain ⟨ii, hi, hz, hs, hb⟩ := info_parts info_int'
  have H := Lib.hid h
  have hle := h.le
  clear h
  go_enter Tryd.func21, Tryd.ntmps21
  go_wp2_with fail
  refine (cloLen_any H.out).mono ?_
  rintro e w1 ⟨rfl, rfl⟩
  go_wp2
  go_loopw [2, 3, 6] (fun l _ i wr => ∃ m : Nat, i = .int .i64 m ∧ m ≤ n ∧ Fx No w wr ∧ OwnI wr w.heap.size l (loopsTo dn m)) (fun _ _ i _ => n - (intOf i).toNat)
  case atStart => exact ⟨0, rfl, Nat.zero_le _, Fx.refl _ _, World.ownsRow_nil _ _ _ _⟩
  case round =>
    obtain ⟨m, rfl, hm, hf, ho⟩ := hrel
    have HF := Lib.hid hf
    have HO := Lib.hid ho
    have hzr := hf.size
    have hll := loopsTo_len dn m
    clear hf ho
    by_cases hlt : m < n
    · have HL := Lib.hid (loopsTo_succ dn m)
      go_wp2_with fail
      refine (leads_any (H.out.no HF.out) (m : Int) (m : Int)).mono ?_
      rintro e w2 ⟨rfl, hf⟩
      rw [leadsB_nat hlt]
      have HF2 := Lib.hid (HF.out.trans hf)
      have HO2 := Lib.hid (ownsRow_fx HO.out hf fun _ _ h => h)
      have hz2 := hf.size
      clear hf
      obtain ⟨t, ht⟩ : ∃ t, t = (dn m).testBit m := ⟨_, rfl⟩
      rw [← ht] at HL ⊢
      clear ht
      cases t
      · go_wp2
        go_roundw
        case rel => exact ⟨m + 1, by go_num, by omega, HF2.out, by rw [HL.out]; simpa [OwnI] using HO2.out⟩
        case measure => simp [intOf]; omega
      · go_wp2_with (at_builtin; refine wpList_append_sl rfl _ _ 37 rfl w.heap.size 3 Tryd.underlying37 hi hz hs hb rfl (by decide) rfl (World.ownsRow.alloc HO2.out _) rfl (SlV.lit _ 3 #[.int .i64 _] 1 1 rfl (by unfold maxLen; omega)) (ints_one [_]) (by unfold maxLen; omega) (by omega) (by simp; omega) ?_)
        intro v' w3 ho hfx _
        have HO3 : Hid (OwnI w3 w.heap.size v' (loopsTo dn (m + 1))) := by
          show OwnI w3 w.heap.size v' (loopsTo dn (m + 1))
          rw [HL.out]
          unfold OwnI
          rw [List.length_append]
          simpa [ints] using ho
        have HF3 : Hid (Fx No w w3) := (HF2.out.alloc _).trans' hfx fun g e hl => by have := (World.ownsRow.lt HO2.out g e).1; omega
        clear ho hfx
        go_wp2
        go_roundw
        case rel => exact ⟨m + 1, by go_num, by omega, HF3.out, HO3.out⟩
        case measure => simp [intOf]; omega
    · obtain rfl : m = n := by omega
      go_wp2
      go_ret
      exact ⟨_, rfl, HF.out, HO.out⟩
def cycB (n : Nat) (dn : Nat → Nat) : Bool := decide (0 < (loopsTo dn n).length)
theorem cyclic_any (h : Clo w D n dn up ed k) : Calls Tryd.prog 20 #[.pointer (some ⟨k.b, 0, none⟩)] w fun e w' => e = .returned (.bool (cycB n dn)) ∧ Fx No w w' := by
  have H := Lib.hid h
  have hll := loopsTo_len dn n
  have hle := h.le
  clear h
  go_enter Tryd.func20, Tryd.ntmps20
  go_wp2_with fail
  refine (loops_any H.out).mono ?_
  rintro e w1 ⟨v, rfl, hf, ho⟩
  obtain ⟨ao, cap, rfl, _⟩ := ho.ints.facts
  have HF := Lib.hid hf
  have HC : Hid (cycB n dn = decide (0 < (loopsTo dn n).length)) := Lib.hid rfl
  obtain ⟨len, hlen⟩ : ∃ l, l = (loopsTo dn n).length := ⟨_, rfl⟩
  rw [← hlen] at hll HC ⊢
  clear hf ho hlen
  go_wp2
  go_ret
  refine ⟨?_, HF.out⟩
  rw [HC.out]
  first | rfl | simp
/-- how many pairs of nodes, the first below m, lead one to the other -/
def pairsTo (n : Nat) (dn : Nat → Nat) : Nat → Nat
  | 0 => 0
  | m + 1 => pairsTo n dn m + cntX n (dn m)
theorem pairsTo_le (n : Nat) (dn : Nat → Nat) : ∀ m, pairsTo n dn m ≤ m * n
  | 0 => by simp [pairsTo]
  | m + 1 => by
    have h1 := pairsTo_le n dn m
    have h2 := cntX_le n (dn m)
    rw [pairsTo, Nat.succ_mul]
    omega
set_option maxHeartbeats 1000000 in
theorem pairs_any (h : Clo w D n dn up ed k) : Calls Tryd.prog 22 #[.pointer (some ⟨k.b, 0, none⟩)] w fun e w' => e = .returned (.int .i64 (pairsTo n dn n : Nat)) ∧ Fx No w w' := by
  have H := Lib.hid h
  have hle := h.le
  clear h
  go_enter Tryd.func22, Tryd.ntmps22
  go_wp2_with fail
  refine (cloLen_any H.out).mono ?_
  rintro e w1 ⟨rfl, rfl⟩
  go_wp2
  go_loopw [2, 3, 6] (fun l _ i wr => ∃ m : Nat, i = .int .i64 m ∧ m ≤ n ∧ Fx No w wr ∧ l = .int .i64 (pairsTo n dn m : Nat)) (fun _ _ i _ => n - (intOf i).toNat)
  case atStart => exact ⟨0, rfl, Nat.zero_le _, Fx.refl _ _, rfl⟩
  case round =>
    obtain ⟨m, rfl, hm, hf, rfl⟩ := hrel
    have HF := Lib.hid hf
    have v0 := (H.out.no hf).v0
    have HFam := Lib.hid (H.out.no hf).f0
    have hp := pairsTo_le n dn m
    have hmn : m * n ≤ 1024 * 1024 := Nat.mul_le_mul (by omega) hle
    clear hf
    by_cases hlt : m < n
    · have HP : Hid (pairsTo n dn (m + 1) = pairsTo n dn m + cntX n (dn m)) := Lib.hid rfl
      have hcl := cntX_le n (dn m)
      have HM : Hid (ofM n dn (m : Int) = dn m ∧ ofN n (m : Int) = n) := Lib.hid ⟨by unfold ofM; rw [if_pos (by omega)]; rfl, by unfold ofN; rw [if_pos (by omega)]⟩
      obtain ⟨P, hP⟩ : ∃ x, x = pairsTo n dn m := ⟨_, rfl⟩
      obtain ⟨C, hC⟩ : ∃ x, x = cntX n (dn m) := ⟨_, rfl⟩
      rw [← hP, ← hC] at HP
      rw [← hC] at hcl
      rw [← hP] at hp ⊢
      have HC := Lib.hid hC
      clear hC hP
      go_wp2_with fail
      refine (rowsOf_any HFam.out (m : Int)).mono ?_
      rintro e w2 ⟨rfl, hf⟩
      have HF2 := Lib.hid (HF.out.trans hf)
      have hs := (HFam.out.no hf).of (m : Int)
      rw [HM.out.1, HM.out.2] at hs
      have HS := Lib.hid hs
      clear hf hs
      go_wp2_with fail
      refine (len_any HS.out).mono ?_
      rintro e w3 ⟨rfl, rfl⟩
      rw [← HC.out]
      go_wp2
      go_roundw
      case rel => exact ⟨m + 1, by go_num, by omega, HF2.out, by rw [HP.out]; go_num⟩
      case measure => simp [intOf]; omega
    · obtain rfl : m = n := by omega
      go_wp2
      go_ret
      exact ⟨rfl, HF.out⟩
end
#print axioms pairs_any
#print axioms cyclic_any
#print axioms to_any
end Go.Proofs.YtfpggeiphbekoaaDoor
