/- A closure in memory; what its methods that only read tell: Len, Leads, From, To, Loops, Cyclic, Pairs. | closure: Edges, needed, Least. | Equality of two arrays, of two structs of ints: what '==' tells. | closure: needed, Least. | closure: Least. -/
import Derived.Test.YtfpggeiphbekoaaGreatDoorA4
import Derived.ChangeKeysEq
import Derived.Laws.StructEq

namespace Go.Proofs.YtfpggeiphbekoaaGreatDoor
open Go.RowKit
set_option linter.unusedVariables false

/-- where a closure lies -/
structure CC where
  b : Nat
  c0 : FC
  c1 : FC
  c2 : FC
  D0 : Nat → Prop
  D1 : Nat → Prop
  D2 : Nat → Prop
/-- a closure of n nodes: to whom nodes lead, who leads to them, its edges -/
structure Clo (w : World) (D : Nat → Prop) (n : Nat) (dn up ed : Nat → Nat) (k : CC) : Prop where
  v0 : w.cell? ⟨k.b, 0, none⟩ = some k.c0.v
  v1 : w.cell? ⟨k.b, 1, none⟩ = some k.c1.v
  v2 : w.cell? ⟨k.b, 2, none⟩ = some k.c2.v
  f0 : Fam w k.D0 n dn k.c0
  f1 : Fam w k.D1 n up k.c1
  f2 : Fam w k.D2 n ed k.c2
  d01 : ∀ x, k.D0 x → ¬ k.D1 x
  d02 : ∀ x, k.D0 x → ¬ k.D2 x
  d12 : ∀ x, k.D1 x → ¬ k.D2 x
  nb : ¬ k.D0 k.b ∧ ¬ k.D1 k.b ∧ ¬ k.D2 k.b
  s0 : ∀ x, k.D0 x → D x
  s1 : ∀ x, k.D1 x → D x
  s2 : ∀ x, k.D2 x → D x
  sb : D k.b
  le : n ≤ 1024
section
variable {w w' : World} {D S : Nat → Prop} {n : Nat} {dn up ed : Nat → Nat} {k : CC}
theorem Clo.keep (h : Clo w D n dn up ed k) (hf : Fx S w w') (hd : ∀ x, D x → ¬ S x) : Clo w' D n dn up ed k :=
  ⟨hf.cell' h.v0 (hd _ h.sb), hf.cell' h.v1 (hd _ h.sb), hf.cell' h.v2 (hd _ h.sb), h.f0.keep hf fun x hx => hd x (h.s0 x hx), h.f1.keep hf fun x hx => hd x (h.s1 x hx), h.f2.keep hf fun x hx => hd x (h.s2 x hx),
    h.d01, h.d02, h.d12, h.nb, h.s0, h.s1, h.s2, h.sb, h.le⟩
theorem Clo.no (h : Clo w D n dn up ed k) (hf : Fx No w w') : Clo w' D n dn up ed k := h.keep hf No.disj
theorem Clo.congr {dn' up' ed' : Nat → Nat} (h : Clo w D n dn up ed k) (h0 : ∀ i, i < n → dn i = dn' i) (h1 : ∀ i, i < n → up i = up' i) (h2 : ∀ i, i < n → ed i = ed' i) : Clo w D n dn' up' ed' k :=
  ⟨h.v0, h.v1, h.v2, h.f0.congr h0, h.f1.congr h1, h.f2.congr h2, h.d01, h.d02, h.d12, h.nb, h.s0, h.s1, h.s2, h.sb, h.le⟩
/-- whether a node leads to another one -/
def leadsB (n : Nat) (dn : Nat → Nat) (i j : Int) : Bool := hasB (ofM n dn i) j
theorem cloLen_any (h : Clo w D n dn up ed k) : Calls Tryz.prog 34 #[.pointer (some ⟨k.b, 0, none⟩)] w fun e w' => e = .returned (.int .i64 (n : Int)) ∧ w = w' := by
  have v2 := h.v2
  obtain ⟨ao, cap, hv, _⟩ := h.f2.facts
  rw [hv] at v2
  clear h hv
  go_enter Tryz.func34, Tryz.ntmps34
  go_wp2
  go_ret
  exact ⟨rfl, rfl⟩
theorem leads_any (h : Clo w D n dn up ed k) (i j : Int) : Calls Tryz.prog 24 #[.pointer (some ⟨k.b, 0, none⟩), .int .i64 i, .int .i64 j] w fun e w' => e = .returned (.bool (leadsB n dn i j)) ∧ Fx No w w' := by
  have v0 := h.v0
  have H := Lib.hid h.f0
  clear h
  go_enter Tryz.func24, Tryz.ntmps24
  go_wp2_with fail
  refine (rowsOf_any H.out i).mono ?_
  rintro e w1 ⟨rfl, hf⟩
  have HF := Lib.hid hf
  clear hf
  go_wp2_with fail
  refine (has_any ((H.out.no HF.out).of i) j).mono ?_
  rintro e w2 ⟨rfl, rfl⟩
  go_wp2
  go_ret
  exact ⟨rfl, HF.out⟩
theorem from_any' (h : Clo w D n dn up ed k) (hT : TabOk w) (i : Int) : Calls Tryz.prog 30 #[.pointer (some ⟨k.b, 0, none⟩), .int .i64 i] w fun e w' => ∃ v, e = .returned v ∧ Fx No w w' ∧ OwnI w' w.heap.size v (allX (ofN n i) (ofM n dn i)) := by
  have v0 := h.v0
  have H := Lib.hid h.f0
  have HT := Lib.hid hT
  clear h hT
  go_enter Tryz.func30, Tryz.ntmps30
  go_wp2_with fail
  refine (rowsOf_any H.out i).mono ?_
  rintro e w1 ⟨rfl, hf⟩
  have HF := Lib.hid hf
  have hz := hf.size
  clear hf
  go_wp2_with fail
  refine (all_any ((H.out.no HF.out).of i) (HT.out.keep HF.out (fun h => h))).mono ?_
  rintro e w2 ⟨v, rfl, hf, ho⟩
  have HF2 := Lib.hid (HF.out.trans hf)
  have HO := Lib.hid ho
  clear hf ho
  go_wp2
  go_ret
  exact ⟨v, rfl, HF2.out, ownsRow_base HO.out hz⟩
theorem to_any (h : Clo w D n dn up ed k) (hT : TabOk w) (i : Int) : Calls Tryz.prog 31 #[.pointer (some ⟨k.b, 0, none⟩), .int .i64 i] w fun e w' => ∃ v, e = .returned v ∧ Fx No w w' ∧ OwnI w' w.heap.size v (allX (ofN n i) (ofM n up i)) := by
  have v1 := h.v1
  have H := Lib.hid h.f1
  have HT := Lib.hid hT
  clear h hT
  go_enter Tryz.func31, Tryz.ntmps31
  go_wp2_with fail
  refine (rowsOf_any H.out i).mono ?_
  rintro e w1 ⟨rfl, hf⟩
  have HF := Lib.hid hf
  have hz := hf.size
  clear hf
  go_wp2_with fail
  refine (all_any ((H.out.no HF.out).of i) (HT.out.keep HF.out (fun h => h))).mono ?_
  rintro e w2 ⟨v, rfl, hf, ho⟩
  have HF2 := Lib.hid (HF.out.trans hf)
  have HO := Lib.hid ho
  clear hf ho
  go_wp2
  go_ret
  exact ⟨v, rfl, HF2.out, ownsRow_base HO.out hz⟩
/-- the nodes below m that lead to themselves -/
def loopsTo (dn : Nat → Nat) (m : Nat) : List Int := ((List.range m).filter fun i => (dn i).testBit i).map fun i : Nat => (i : Int)
theorem loopsTo_succ (dn : Nat → Nat) (m : Nat) : loopsTo dn (m + 1) = loopsTo dn m ++ if (dn m).testBit m then [(m : Int)] else [] := by
  unfold loopsTo
  rw [List.range_succ, List.filter_append, List.map_append]
  congr 1
  by_cases h : (dn m).testBit m = true <;> simp [h]
theorem loopsTo_len (dn : Nat → Nat) (m : Nat) : (loopsTo dn m).length ≤ m := by
  unfold loopsTo
  rw [List.length_map]
  exact Nat.le_trans (List.length_filter_le _ _) (by simp)
theorem leadsB_nat {n : Nat} {dn : Nat → Nat} {i j : Nat} (hi : i < n) : leadsB n dn (i : Int) (j : Int) = (dn i).testBit j := by
  unfold leadsB ofM
  rw [if_pos (by omega), hasB_nat]
  rfl
set_option maxHeartbeats 1000000 in
theorem loops_any (h : Clo w D n dn up ed k) : Calls Tryz.prog 32 #[.pointer (some ⟨k.b, 0, none⟩)] w fun e w' => ∃ v, e = .returned v ∧ Fx No w w' ∧ OwnI w' w.heap.size v (loopsTo dn n) := by
  obtain ⟨ii, hi, hz, hs, hb⟩ := info_parts info_int'
  have H := Lib.hid h
  have hle := h.le
  clear h
  go_enter Tryz.func32, Tryz.ntmps32
  go_wp2_with fail
  refine (cloLen_any H.out).mono ?_
  rintro e w1 ⟨rfl, rfl⟩
  go_wp2
  go_loopw [2, 3, 6] (fun l _ i wr => ∃ m : Nat, i = .int .i64 m ∧ m ≤ n ∧ Fx No w wr ∧ OwnI wr w.heap.size l (loopsTo dn m)) (fun _ _ i _ => n - (intOf i).toNat)
  case atStart => exact ⟨0, rfl, Nat.zero_le _, Fx.refl _ _, World.ownsRow_nil _ _ _ _⟩
  case round =>
    obtain ⟨m, rfl, hm, hf, ho⟩ := hrel
    have HF := Lib.hid hf
    have HO := Lib.hid ho
    have hzr := hf.size
    have hll := loopsTo_len dn m
    clear hf ho
    by_cases hlt : m < n
    · have HL := Lib.hid (loopsTo_succ dn m)
      go_wp2_with fail
      refine (leads_any (H.out.no HF.out) (m : Int) (m : Int)).mono ?_
      rintro e w2 ⟨rfl, hf⟩
      rw [leadsB_nat hlt]
      have HF2 := Lib.hid (HF.out.trans hf)
      have HO2 := Lib.hid (ownsRow_fx HO.out hf fun _ _ h => h)
      have hz2 := hf.size
      clear hf
      obtain ⟨t, ht⟩ : ∃ t, t = (dn m).testBit m := ⟨_, rfl⟩
      rw [← ht] at HL ⊢
      clear ht
      cases t
      · go_wp2
        go_roundw
        case rel => exact ⟨m + 1, by go_num, by omega, HF2.out, by rw [HL.out]; simpa [OwnI] using HO2.out⟩
        case measure => simp [intOf]; omega
      · go_wp2_with (at_builtin; refine wpList_append_sl rfl _ _ 24 rfl w.heap.size 3 Tryz.underlying24 hi hz hs hb rfl (by decide) rfl (World.ownsRow.alloc HO2.out _) rfl (SlV.lit _ 3 #[.int .i64 _] 1 1 rfl (by unfold maxLen; omega)) (ints_one [_]) (by unfold maxLen; omega) (by omega) (by simp; omega) ?_)
        intro v' w3 ho hfx _
        have HO3 : Hid (OwnI w3 w.heap.size v' (loopsTo dn (m + 1))) := by
          show OwnI w3 w.heap.size v' (loopsTo dn (m + 1))
          rw [HL.out]
          unfold OwnI
          rw [List.length_append]
          simpa [ints] using ho
        have HF3 : Hid (Fx No w w3) := (HF2.out.alloc _).trans' hfx fun g e hl => by have := (World.ownsRow.lt HO2.out g e).1; omega
        clear ho hfx
        go_wp2
        go_roundw
        case rel => exact ⟨m + 1, by go_num, by omega, HF3.out, HO3.out⟩
        case measure => simp [intOf]; omega
    · obtain rfl : m = n := by omega
      go_wp2
      go_ret
      exact ⟨_, rfl, HF.out, HO.out⟩
def cycB (n : Nat) (dn : Nat → Nat) : Bool := decide (0 < (loopsTo dn n).length)
theorem cyclic_any (h : Clo w D n dn up ed k) : Calls Tryz.prog 20 #[.pointer (some ⟨k.b, 0, none⟩)] w fun e w' => e = .returned (.bool (cycB n dn)) ∧ Fx No w w' := by
  have H := Lib.hid h
  have hll := loopsTo_len dn n
  have hle := h.le
  clear h
  go_enter Tryz.func20, Tryz.ntmps20
  go_wp2_with fail
  refine (loops_any H.out).mono ?_
  rintro e w1 ⟨v, rfl, hf, ho⟩
  obtain ⟨ao, cap, rfl, _⟩ := ho.ints.facts
  have HF := Lib.hid hf
  have HC : Hid (cycB n dn = decide (0 < (loopsTo dn n).length)) := Lib.hid rfl
  obtain ⟨len, hlen⟩ : ∃ l, l = (loopsTo dn n).length := ⟨_, rfl⟩
  rw [← hlen] at hll HC ⊢
  clear hf ho hlen
  go_wp2
  go_ret
  refine ⟨?_, HF.out⟩
  rw [HC.out]
  first | rfl | simp
/-- how many pairs of nodes, the first below m, lead one to the other -/
def pairsTo (n : Nat) (dn : Nat → Nat) : Nat → Nat
  | 0 => 0
  | m + 1 => pairsTo n dn m + cntX n (dn m)
theorem pairsTo_le (n : Nat) (dn : Nat → Nat) : ∀ m, pairsTo n dn m ≤ m * n
  | 0 => by simp [pairsTo]
  | m + 1 => by
    have h1 := pairsTo_le n dn m
    have h2 := cntX_le n (dn m)
    rw [pairsTo, Nat.succ_mul]
    omega
set_option maxHeartbeats 1000000 in
theorem pairs_any (h : Clo w D n dn up ed k) : Calls Tryz.prog 33 #[.pointer (some ⟨k.b, 0, none⟩)] w fun e w' => e = .returned (.int .i64 (pairsTo n dn n : Nat)) ∧ Fx No w w' := by
  have H := Lib.hid h
  have hle := h.le
  clear h
  go_enter Tryz.func33, Tryz.ntmps33
  go_wp2_with fail
  refine (cloLen_any H.out).mono ?_
  rintro e w1 ⟨rfl, rfl⟩
  go_wp2
  go_loopw [2, 3, 6] (fun l _ i wr => ∃ m : Nat, i = .int .i64 m ∧ m ≤ n ∧ Fx No w wr ∧ l = .int .i64 (pairsTo n dn m : Nat)) (fun _ _ i _ => n - (intOf i).toNat)
  case atStart => exact ⟨0, rfl, Nat.zero_le _, Fx.refl _ _, rfl⟩
  case round =>
    obtain ⟨m, rfl, hm, hf, rfl⟩ := hrel
    have HF := Lib.hid hf
    have v0 := (H.out.no hf).v0
    have HFam := Lib.hid (H.out.no hf).f0
    have hp := pairsTo_le n dn m
    have hmn : m * n ≤ 1024 * 1024 := Nat.mul_le_mul (by omega) hle
    clear hf
    by_cases hlt : m < n
    · have HP : Hid (pairsTo n dn (m + 1) = pairsTo n dn m + cntX n (dn m)) := Lib.hid rfl
      have hcl := cntX_le n (dn m)
      have HM : Hid (ofM n dn (m : Int) = dn m ∧ ofN n (m : Int) = n) := Lib.hid ⟨by unfold ofM; rw [if_pos (by omega)]; rfl, by unfold ofN; rw [if_pos (by omega)]⟩
      obtain ⟨P, hP⟩ : ∃ x, x = pairsTo n dn m := ⟨_, rfl⟩
      obtain ⟨C, hC⟩ : ∃ x, x = cntX n (dn m) := ⟨_, rfl⟩
      rw [← hP, ← hC] at HP
      rw [← hC] at hcl
      rw [← hP] at hp ⊢
      have HC := Lib.hid hC
      clear hC hP
      go_wp2_with fail
      refine (rowsOf_any HFam.out (m : Int)).mono ?_
      rintro e w2 ⟨rfl, hf⟩
      have HF2 := Lib.hid (HF.out.trans hf)
      have hs := (HFam.out.no hf).of (m : Int)
      rw [HM.out.1, HM.out.2] at hs
      have HS := Lib.hid hs
      clear hf hs
      go_wp2_with fail
      refine (len_any HS.out).mono ?_
      rintro e w3 ⟨rfl, rfl⟩
      rw [← HC.out]
      go_wp2
      go_roundw
      case rel => exact ⟨m + 1, by go_num, by omega, HF2.out, by rw [HP.out]; go_num⟩
      case measure => simp [intOf]; omega
    · obtain rfl : m = n := by omega
      go_wp2
      go_ret
      exact ⟨rfl, HF.out⟩
end
#print axioms pairs_any
#print axioms cyclic_any
#print axioms to_any
end Go.Proofs.YtfpggeiphbekoaaGreatDoor

namespace Go.Proofs.YtfpggeiphbekoaaGreatDoor
open Go.RowKit
set_option linter.unusedVariables false

theorem info_pair : (Tryz.prog.info? 25).map (fun i => (i.zero, i.size, i.bytes)) = some (some (.agg #[.int .i64 0, .int .i64 0]), 2, 16) := by kernel_rfl
abbrev OwnP (w : World) (base : Nat) (v : Value) (ps : List (Int × Int)) : Prop := OwnT 25 e2 2 w base v ps
/-- the edges out of the first m nodes -/
def edgesTo (n : Nat) (ed : Nat → Nat) (m : Nat) : List (Int × Int) := (List.range m).flatMap fun i : Nat => (allX n (ed i)).map fun j => ((i : Int), j)
theorem edgesTo_succ (n : Nat) (ed : Nat → Nat) (m : Nat) : edgesTo n ed (m + 1) = edgesTo n ed m ++ (allX n (ed m)).map fun j => ((m : Int), j) := by
  unfold edgesTo
  rw [List.range_succ, List.flatMap_append]
  simp
theorem edgesTo_len (n : Nat) (ed : Nat → Nat) : ∀ m, (edgesTo n ed m).length ≤ m * n
  | 0 => by simp [edgesTo]
  | m + 1 => by
    have h1 := edgesTo_len n ed m
    have h2 := allX_length_le n (ed m)
    rw [edgesTo_succ, List.length_append, List.length_map, Nat.succ_mul]
    omega
section
variable {w w' : World} {D S : Nat → Prop} {n : Nat} {dn up ed : Nat → Nat} {k : CC}
set_option maxHeartbeats 2000000 in
theorem edges_any (h : Clo w D n dn up ed k) (hT : TabOk w) : Calls Tryz.prog 25 #[.pointer (some ⟨k.b, 0, none⟩)] w fun e w' => ∃ v, e = .returned v ∧ Fx No w w' ∧ OwnP w' w.heap.size v (edgesTo n ed n) := by
  obtain ⟨ii, hi, hz, hs, hb⟩ := info_parts info_pair
  have H := Lib.hid h
  have HT := Lib.hid hT
  have hle := h.le
  clear h hT
  go_enter Tryz.func25, Tryz.ntmps25
  go_wp2_with fail
  refine (cloLen_any H.out).mono ?_
  rintro e w1 ⟨rfl, rfl⟩
  go_wp2
  go_loopw [2, 3, 5, 8] (fun l _ _ i wr => ∃ m : Nat, i = .int .i64 m ∧ m ≤ n ∧ Fx No w wr ∧ OwnP wr w.heap.size l (edgesTo n ed m)) (fun _ _ _ i _ => n - (intOf i).toNat)
  case atStart => exact ⟨0, rfl, Nat.zero_le _, Fx.refl _ _, OwnT.nil _ _⟩
  case round =>
    obtain ⟨m, rfl, hm, hf, ho⟩ := hrel
    have HF := Lib.hid hf
    have HO := Lib.hid ho
    have v2 := (H.out.no hf).v2
    have HFam := Lib.hid (H.out.no hf).f2
    have hzr := hf.size
    have hel := edgesTo_len n ed m
    have hmn : m * n ≤ 1024 * 1024 := Nat.mul_le_mul (by omega) hle
    clear hf ho
    by_cases hlt : m < n
    · have HM : Hid (ofM n ed (m : Int) = ed m ∧ ofN n (m : Int) = n) := Lib.hid ⟨by unfold ofM; rw [if_pos (by omega)]; rfl, by unfold ofN; rw [if_pos (by omega)]⟩
      have HE := Lib.hid (edgesTo_succ n ed m)
      go_wp2_with fail
      refine (rowsOf_any HFam.out (m : Int)).mono ?_
      rintro e w2 ⟨rfl, hf⟩
      have HF2 := Lib.hid (HF.out.trans hf)
      have hs' := (HFam.out.no hf).of (m : Int)
      rw [HM.out.1, HM.out.2] at hs'
      have HS := Lib.hid hs'
      have HO2 := Lib.hid (HO.out.no hf)
      have hz2 := hf.size
      clear hf hs'
      go_wp2_with fail
      refine (all_any HS.out (HT.out.keep HF2.out (fun h => h))).mono ?_
      rintro e w3 ⟨v3, rfl, hf, ho⟩
      obtain ⟨l3, hl3⟩ : ∃ l, l = allX n (ed m) := ⟨_, rfl⟩
      rw [← hl3] at ho HE
      obtain ⟨a3, c3, rfl, _, hc3⟩ := ho.ints.facts
      have hl3n : l3.length ≤ n := by rw [hl3]; exact allX_length_le _ _
      have HF3 := Lib.hid (HF2.out.trans hf)
      have HO3 := Lib.hid (HO2.out.no hf)
      have HC3 := Lib.hid hc3
      have hz3 := hf.size
      obtain ⟨s2, hs2⟩ : ∃ s, s = w2.heap.size := ⟨_, rfl⟩
      rw [← hs2] at HC3 hz3
      have HB0 : Hid (∀ g, u2.ownBlock = some g → g < s2 ∨ w3.heap.size ≤ g) := Lib.hid fun g e => .inl (by rw [hs2]; exact (HO2.out.lt e).2)
      have hws : w.heap.size ≤ s2 := by rw [hs2]; exact HF2.out.size
      clear hf ho hc3 hl3 hs2
      go_wp2
      obtain ⟨wo, hwo⟩ : ∃ wo, wo = w3 := ⟨_, rfl⟩
      subst hwo
      go_loopw [2, 5, 19] (fun l _ j ws => ∃ q : Nat, j = .int .i64 q ∧ q ≤ l3.length ∧ Fx (fun g => w.heap.size ≤ g ∧ g < s2) wo ws ∧ (∀ g, l.ownBlock = some g → g < s2 ∨ wo.heap.size ≤ g) ∧ OwnP ws w.heap.size l (edgesTo n ed m ++ (l3.take q).map fun j => ((m : Int), j))) (fun _ _ j _ => l3.length - (intOf j).toNat)
      case atStart => exact ⟨0, rfl, Nat.zero_le _, Fx.refl _ _, HB0.out, by simpa using HO3.out⟩
      case round =>
        obtain ⟨q, rfl, hq, hf, hbb, ho⟩ := hrel
        have HFq := Lib.hid hf
        have HBq := Lib.hid hbb
        have HOq := Lib.hid ho
        have hzq := hf.size
        have hlen : (edgesTo n ed m ++ (l3.take q).map fun j => ((m : Int), j)).length ≤ 2000000 := by
          rw [List.length_append, List.length_map, List.length_take]; omega
        obtain ⟨xs, hxs⟩ : ∃ xs, xs = edgesTo n ed m ++ (l3.take q).map fun j => ((m : Int), j) := ⟨_, rfl⟩
        rw [← hxs] at hlen HOq
        have HX := Lib.hid hxs
        clear hf ho hxs hbb
        by_cases hql : q < l3.length
        · obtain ⟨bq, oq, rfl, hbq, hcell⟩ := HC3.out q hql
          have hcell' := HFq.out.cell' hcell (fun h => by have h1 := hbq.1; have h2 : bq < s2 := h.2; omega)
          obtain ⟨j, hj⟩ : ∃ j, j = gi l3 q := ⟨_, rfl⟩
          have HTk : Hid (edgesTo n ed m ++ (l3.take (q + 1)).map (fun j => ((m : Int), j)) = xs ++ [((m : Int), j)]) := by
            show _ = _
            rw [take_gi hql, List.map_append, ← List.append_assoc, ← HX.out, hj]; rfl
          rw [← hj] at hcell'
          clear hcell hj hbq
          go_wp2_with (at_builtin; refine wpList_append_kept rfl _ _ 22 rfl w.heap.size 25 Tryz.underlying22 hi hz hs hb rfl (by decide) rfl (World.ownsRow.alloc HOq.out _) rfl (SlV.lit _ 25 #[.int .i64 _, .int .i64 _] 2 1 rfl (by unfold maxLen; omega)) (ints_one [_, _]) (by omega) (by unfold maxLen; omega) (by omega) (by simp; omega) ?_)
          intro v' w4 ho hfx hk4 hb4
          have HB4 : Hid (∀ g, v'.ownBlock = some g → g < s2 ∨ wo.heap.size ≤ g) := Lib.hid fun g e => by
            rcases hb4 g e with h | h
            · exact HBq.out g h
            · try simp only [World.size_alloc] at h
              exact .inr (by omega)
          have HO4 : Hid (OwnP w4 w.heap.size v' (edgesTo n ed m ++ (l3.take (q + 1)).map fun j => ((m : Int), j))) := by
            show OwnP w4 w.heap.size v' _
            rw [HTk.out]
            exact OwnT.snoc ho
          have HF4 : Hid (Fx (fun g => w.heap.size ≤ g ∧ g < s2) wo w4) := (HFq.out.alloc _).trans' hfx fun g e hl => by
            have h1 := (World.ownsRow.lt HOq.out g e).1
            have h2 := HBq.out g e
            exact ⟨h1, by omega⟩
          clear ho hfx hk4 hb4
          go_wp2
          go_roundw
          case rel => exact ⟨q + 1, by go_num, by omega, HF4.out, HB4.out, HO4.out⟩
          case measure => simp [intOf]; omega
        · obtain rfl : q = l3.length := by omega
          have HO5 : Hid (OwnP wr w.heap.size u2 (edgesTo n ed (m + 1))) := by
            show OwnP wr w.heap.size u2 (edgesTo n ed (m + 1))
            rw [HE.out, ← List.take_length (l := l3), ← HX.out]
            exact HOq.out
          go_wp2
          go_roundw
          case rel => exact ⟨m + 1, by go_num, by omega, HF3.out.trans' HFq.out (fun j h1 h2 => by have h3 : w.heap.size ≤ j := h1.1; omega), HO5.out⟩
          case measure => simp [intOf]; omega
    · obtain rfl : m = n := by omega
      go_wp2
      go_ret
      exact ⟨_, rfl, HF.out, HO.out⟩
/-- is an edge needed: does none other from where it begins lead to where it ends? -/
def neededB (n : Nat) (dn ed : Nat → Nat) (a b : Int) : Bool := (allX (ofN n a) (ofM n ed a)).all fun j => ! (decide (j ≠ b) && leadsB n dn j b)
end
#print axioms edges_any
end Go.Proofs.YtfpggeiphbekoaaGreatDoor

namespace Go.Proofs.YtfpggeiphbekoaaGreatDoor
open Go.RowKit
set_option linter.unusedVariables false

theorem run_part_int {P : Program} {t : TypeId} {cs : Array Value} {off : Nat} {v : Value} (w : World) (hu : P.underlying t = some (.int .i64)) (hv : cs[off]? = some v) : (part t cs off).run P w = .ok v w := by
  simp [part, isAgg, run_underlying hu, hv]
theorem run_eqi (d : Nat) {P : Program} {t : TypeId} (w : World) (hu : P.underlying t = some (.int .i64)) (a b : Int) : (Op.equalIn (d + 1) t (.int .i64 a) (.int .i64 b)).run P w = .ok (a == b) w := by
  simp [Op.equalIn, run_underlying hu]
theorem run_eq2_at (d : Nat) (x y z u : Int) (w : World) : (Op.equalIn (d + 1 + 1) 25 (.agg #[.int .i64 x, .int .i64 y]) (.agg #[.int .i64 z, .int .i64 u])).run Tryz.prog w = .ok (x == z && y == u) w := by
  obtain ⟨j, hj, _, hjs, _⟩ := info_parts info_int'
  have hc : Tryz.prog.cellsOf 3 = 1 := by simp [Program.cellsOf, hj, hjs]
  rw [run_equalIn_array _ (d + 1) _ _ Tryz.underlying25 hj, hc]
  have p0 : ∀ (x y : Int) w, (part 3 #[.int .i64 x, .int .i64 y] (0 * 1)).run Tryz.prog w = .ok (.int .i64 x) w := fun x y w => run_part_int w Tryz.underlying3 rfl
  have p1 : ∀ (x y : Int) w, (part 3 #[.int .i64 x, .int .i64 y] (1 * 1)).run Tryz.prog w = .ok (.int .i64 y) w := fun x y w => run_part_int w Tryz.underlying3 rfl
  have e0 : ∀ (a b : Int) w, (Op.equalIn (d + 1) 3 (.int .i64 a) (.int .i64 b)).run Tryz.prog w = .ok (a == b) w := fun a b w => run_eqi d w Tryz.underlying3 a b
  rw [show List.range 2 = [0, 1] from rfl]
  simp only [Op.eqItems, Sem.run_bind, p0, p1, e0, Result.andThen_ok]
  have p1' : ∀ (x y : Int) w, (part 3 #[.int .i64 x, .int .i64 y] 1).run Tryz.prog w = .ok (.int .i64 y) w := fun x y w => run_part_int w Tryz.underlying3 rfl
  cases x == z
  · simp
  · simp only [Bool.not_true, Bool.false_eq_true, if_false, Op.eqItems, Sem.run_bind, p1, p1', e0, Result.andThen_ok, Bool.true_and]
    cases y == u <;> simp
theorem run_eq2 (x y z u : Int) (w : World) : (Op.equalIn 10000 25 (.agg #[.int .i64 x, .int .i64 y]) (.agg #[.int .i64 z, .int .i64 u])).run Tryz.prog w = .ok (x == z && y == u) w := run_eq2_at 9998 x y z u w
/-- two structs of ints: what '==' tells of their fields -/
theorem run_eqFields_int {P : Program} (d : Nat) (w : World) {ti : TypeId} (hu : P.underlying ti = some (.int .i64)) {xs ys : Array Value} : ∀ (fs : List Field) (us zs : List Int), fs.length = us.length → fs.length = zs.length →
    (∀ k, k < fs.length → ∃ f, fs[k]? = some f ∧ f.name ≠ "_" ∧ f.type = ti ∧ xs[f.offset]? = some (.int .i64 (gi us k)) ∧ ys[f.offset]? = some (.int .i64 (gi zs k))) →
    (Op.eqFields (d + 1) xs ys fs).run P w = .ok (us == zs) w
  | [], [], [], _, _, _ => by simp [Op.eqFields]
  | f :: fs, a :: us, b :: zs, h1, h2, h => by
    obtain ⟨f', hf, hn, ht, hx, hy⟩ := h 0 (by simp)
    simp only [List.getElem?_cons_zero, Option.some.injEq] at hf
    subst hf
    have ih := run_eqFields_int d w hu (xs := xs) (ys := ys) fs us zs (by simpa using h1) (by simpa using h2) fun k hk => by
      obtain ⟨g, hg, hr⟩ := h (k + 1) (by simpa using hk)
      exact ⟨g, by simpa using hg, hr.1, hr.2.1, by have := hr.2.2; simpa [gi] using this⟩
    have hx' : xs[f.offset]? = some (.int .i64 a) := hx
    have hy' : ys[f.offset]? = some (.int .i64 b) := hy
    have p1 : (part f.type xs f.offset).run P w = .ok (.int .i64 a) w := by rw [ht]; exact run_part_int w hu hx'
    have p2 : (part f.type ys f.offset).run P w = .ok (.int .i64 b) w := by rw [ht]; exact run_part_int w hu hy'
    have p3 : (Op.equalIn (d + 1) f.type (.int .i64 a) (.int .i64 b)).run P w = .ok (a == b) w := by rw [ht]; exact run_eqi d w hu a b
    simp only [Op.eqFields, hn, ne_eq, not_false_eq_true, if_true, Sem.run_bind, p1, p2, p3, Result.andThen_ok]
    rw [List.cons_beq_cons]
    cases a == b
    · simp
    · simpa using ih
theorem run_eqStruct {P : Program} (d : Nat) (w : World) {t ti : TypeId} (hu : P.underlying ti = some (.int .i64)) (ht : P.underlying t = some (.struct (P.fieldsOf t))) (hp : P.stoodInHeld t = false) {ns : List (String × Nat)}
    (hfs : (P.fieldsOf t).toList.map (fun f => (f.name, f.type, f.offset)) = ns.map fun q => (q.1, ti, q.2)) (us zs : List Int) (ha : ns.length = us.length) (hb : ns.length = zs.length) (hns : ∀ k, k < ns.length → (ns.getD k ("", 0)).1 ≠ "_" ∧ (ns.getD k ("", 0)).2 = k) :
    (Op.equalIn (d + 2) t (.agg (ints us).toArray) (.agg (ints zs).toArray)).run P w = .ok (us == zs) w := by
  rw [run_equalIn_struct w (d + 1) t _ _ ht hp]
  have hl : (P.fieldsOf t).toList.length = ns.length := by have := congrArg List.length hfs; simpa using this
  refine run_eqFields_int d w hu _ us zs (by omega) (by omega) fun k hk => ?_
  rw [hl] at hk
  have h1 := congrArg (fun l => l[k]?) hfs
  simp only [List.getElem?_map] at h1
  have h2 : ns[k]? = some (ns.getD k ("", 0)) := by simp [hk]
  rw [h2] at h1
  cases hf : (P.fieldsOf t).toList[k]? with
  | none => rw [hf] at h1; cases h1
  | some f =>
    rw [hf] at h1
    simp only [Option.map_some, Option.some.injEq, Prod.mk.injEq] at h1
    obtain ⟨n1, n2⟩ := hns k hk
    refine ⟨f, rfl, by rw [h1.1]; exact n1, h1.2.1, ?_, ?_⟩
    · rw [h1.2.2, n2]; simp [ints, gi, show k < us.length by omega]
    · rw [h1.2.2, n2]; simp [ints, gi, show k < zs.length by omega]
theorem fields17 : (Tryz.prog.fieldsOf 44).toList.map (fun f => (f.name, f.type, f.offset)) = [("From", 0), ("To", 1)].map fun q => (q.1, 3, q.2) := by kernel_rfl
theorem run_eqe (x y z u : Int) (w : World) : (Op.equalIn 10000 44 (.agg #[.int .i64 x, .int .i64 y]) (.agg #[.int .i64 z, .int .i64 u])).run Tryz.prog w = .ok (x == z && y == u) w := by
  have h := run_eqStruct (P := Tryz.prog) 9998 w Tryz.underlying3 (t := 44) (by kernel_rfl) (by kernel_rfl) fields17 [x, y] [z, u] rfl rfl (by decide)
  have e : ([x, y] == [z, u]) = (x == z && y == u) := by simp
  rw [e] at h
  exact h
#print axioms run_eqe
#print axioms run_eq2
end Go.Proofs.YtfpggeiphbekoaaGreatDoor

namespace Go.Proofs.YtfpggeiphbekoaaGreatDoor
open Go.RowKit
set_option linter.unusedVariables false

section
variable {w w' : World} {D S : Nat → Prop} {n : Nat} {dn up ed : Nat → Nat} {k : CC}
theorem neededB_take {n : Nat} {dn ed : Nat → Nat} {a b : Int} (q : Nat) (h : ∀ i, i < q → (decide (gi (allX (ofN n a) (ofM n ed a)) i ≠ b) && leadsB n dn (gi (allX (ofN n a) (ofM n ed a)) i) b) = false) (hq : (allX (ofN n a) (ofM n ed a)).length ≤ q) : neededB n dn ed a b = true := by
  unfold neededB
  rw [List.all_eq_true]
  intro j hj
  obtain ⟨i, hi, rfl⟩ := List.getElem_of_mem hj
  have := h i (by omega)
  rw [show gi (allX (ofN n a) (ofM n ed a)) i = (allX (ofN n a) (ofM n ed a))[i] by simp [gi, hi]] at this
  rw [this]; rfl
theorem neededB_not {n : Nat} {dn ed : Nat → Nat} {a b : Int} {i : Nat} (hi : i < (allX (ofN n a) (ofM n ed a)).length) (h : (decide (gi (allX (ofN n a) (ofM n ed a)) i ≠ b) && leadsB n dn (gi (allX (ofN n a) (ofM n ed a)) i) b) = true) : neededB n dn ed a b = false := by
  unfold neededB
  rw [List.all_eq_false]
  exact ⟨_, gi_mem hi, by rw [h]; simp⟩
set_option maxRecDepth 100000 in
set_option maxHeartbeats 2000000 in
theorem needed_any (h : Clo w D n dn up ed k) (hT : TabOk w) (a b : Int) : Calls Tryz.prog 60 #[.pointer (some ⟨k.b, 0, none⟩), .agg #[.int .i64 a, .int .i64 b]] w fun e w' => e = .returned (.bool (neededB n dn ed a b)) ∧ Fx No w w' := by
  have H := Lib.hid h
  have HT := Lib.hid hT
  have hle := h.le
  clear h hT
  go_enter Tryz.func60, Tryz.ntmps60
  go_wp2_with fail
  refine wp_hold (fun W => Fx No w W ∧ W.cell? ⟨w.heap.size, 0, none⟩ = some (.int .i64 a) ∧ W.cell? ⟨w.heap.size, 1, none⟩ = some (.int .i64 b)) ⟨(Fx.refl No w).alloc _, by simp, by simp⟩ ?_
  rintro wr ⟨hf, e0, e1⟩
  obtain ⟨eb, heb⟩ : ∃ e, e = w.heap.size := ⟨_, rfl⟩
  rw [← heb] at e0 e1 ⊢
  have HF := Lib.hid hf
  have hv2 := (H.out.no hf).v2
  have HFam := Lib.hid (H.out.no hf).f2
  have q1 : ∀ w', Fx No wr w' → w'.cell? ⟨k.b, 2, none⟩ = some k.c2.v := fun w' h => h.cell' hv2 (fun h => h)
  have q2 : ∀ w', Fx No wr w' → w'.cell? ⟨eb, 0, none⟩ = some (.int .i64 a) := fun w' h => h.cell' e0 (fun h => h)
  have s0 : Fx No wr wr := Fx.refl _ _
  have HE1 := Lib.hid e1
  have HE0 := Lib.hid e0
  clear hf heb hv2 e0 e1
  have CO : Hid (∀ W, Fx No wr W → Calls Tryz.prog 40 #[.agg #[k.c2.v], .int .i64 a] W fun e w' => e = .returned (.pointer (ofP k.c2 n a)) ∧ Fx No W w') := Lib.hid fun W h => rowsOf_any (HFam.out.no h) a
  have CA : Hid (∀ W, Fx No wr W → Calls Tryz.prog 59 #[.pointer (ofP k.c2 n a)] W fun e w' => ∃ v, e = .returned v ∧ Fx No W w' ∧ OwnI w' W.heap.size v (allX (ofN n a) (ofM n ed a))) := Lib.hid fun W h => all_any ((HFam.out.no h).of a) (HT.out.keep (HF.out.trans h) (fun h => h))
  go_region_held3 (fun w' => Fx No wr w')
    (first
      | exact s0.drew
      | exact Fx.transNo (by assumption) hfi)
    (first
      | (go_at_call 40; with_reducible refine (CO.out _ (by assumption)).mono ?_; rintro e w' ⟨rfl, hfi⟩)
      | (go_at_call 59; with_reducible refine (CA.out _ (by assumption)).mono ?_; rintro e w' ⟨v, rfl, hfi, hoi⟩; obtain ⟨vo, vc, rfl, _, hci⟩ := hoi.ints.facts; have HCi := Lib.hid hci; clear hoi hci))
  all_goals
    have HK : Hid (Fx No wr w') := by assumption
    obtain ⟨l, hl⟩ : ∃ l, l = allX (ofN n a) (ofM n ed a) := ⟨_, rfl⟩
    rw [← hl] at HCi ⊢
    have HL := Lib.hid hl
    have hll : l.length ≤ 1024 := by
      rw [hl]
      refine Nat.le_trans (allX_length_le _ _) ?_
      unfold ofN; split <;> omega
    clear q1 q2 s0 hl CO CA
    obtain ⟨wo, hwo⟩ : ∃ wo, wo = w' := ⟨_, rfl⟩
    subst hwo
    have HFo := Lib.hid (HF.out.trans HK.out)
    have HE2 := Lib.hid (HK.out.cell' HE0.out (fun h => h))
    have HE3 := Lib.hid (HK.out.cell' HE1.out (fun h => h))
    go_wp2
    go_loopw [6, 7, 17] (fun _ _ i ws => ∃ q : Nat, i = .int .i64 q ∧ q ≤ l.length ∧ Fx No wo ws ∧ ∀ i, i < q → (decide (gi l i ≠ b) && leadsB n dn (gi l i) b) = false) (fun _ _ i _ => l.length - (intOf i).toNat)
    case atStart => exact ⟨0, rfl, Nat.zero_le _, Fx.refl _ _, fun i hi => by omega⟩
    case round =>
      obtain ⟨q, rfl, hq, hf, hA⟩ := hrel
      have HFq := Lib.hid hf
      have HA := Lib.hid hA
      have e0 := hf.cell' HE2.out (fun h => h)
      have e1 := hf.cell' HE3.out (fun h => h)
      clear hf hA
      by_cases hql : q < l.length
      · obtain ⟨bq, oq, rfl, _, hcell⟩ := HCi.out q hql
        have hcell' := HFq.out.cell' hcell (fun h => h)
        have hbq : bq < wr.heap.size := World.block_lt_of_cell? wr _ hcell'
        have heb : eb < wr.heap.size := World.block_lt_of_cell? wr _ e0
        obtain ⟨j, hj⟩ : ∃ j, j = gi l q := ⟨_, rfl⟩
        rw [← hj] at hcell'
        have HJ := Lib.hid hj
        clear hcell hj
        have hq : ∀ W, (Op.equalIn 10000 25 (.agg #[.int .i64 a, .int .i64 j]) (.agg #[.int .i64 a, .int .i64 b])).run Tryz.prog W = .ok (j == b) W := fun W => by rw [run_eq2]; simp
        by_cases hjb : j = b
        · subst hjb
          simp only [beq_self_eq_true] at hq
          go_wp2
          go_roundw
          case rel => exact ⟨q + 1, by go_num, by omega, HFq.out.alloc _, fun i hi => by
            by_cases e : i = q
            · subst e; rw [← HJ.out]; simp
            · exact HA.out i (by omega)⟩
          case measure => simp [intOf]; omega
        · have djb : (j == b) = false := by simpa using hjb
          rw [djb] at hq
          have HNe := Lib.hid hjb
          clear hjb djb
          go_wp2_with fail
          refine (leads_any (H.out.no ((HFo.out.trans HFq.out).alloc _)) j b).mono ?_
          rintro e w2 ⟨rfl, hf⟩
          have HF2 := Lib.hid ((HFq.out.alloc _).trans hf)
          obtain ⟨L, hL⟩ : ∃ L, L = leadsB n dn j b := ⟨_, rfl⟩
          rw [← hL]
          have HLd := Lib.hid hL
          clear hf hL hq
          cases L
          · go_wp2
            go_roundw
            case rel => exact ⟨q + 1, by go_num, by omega, HF2.out, fun i hi => by
              by_cases e : i = q
              · subst e; rw [← HJ.out, ← HLd.out]; simp
              · exact HA.out i (by omega)⟩
            case measure => simp [intOf]; omega
          · have HN : Hid (neededB n dn ed a b = false) := Lib.hid (neededB_not (i := q) (by rw [← HL.out]; exact hql) (by rw [← HL.out, ← HJ.out, ← HLd.out]; simp [HNe.out]))
            go_wp2
            go_ret
            exact ⟨by rw [HN.out]; rfl, HFo.out.trans HF2.out⟩
      · obtain rfl : q = l.length := by omega
        have HN : Hid (neededB n dn ed a b = true) := Lib.hid (neededB_take l.length (by rw [← HL.out]; exact HA.out) (by rw [← HL.out]; exact Nat.le_refl _))
        go_wp2
        go_ret
        exact ⟨by rw [HN.out]; rfl, HFo.out.trans HFq.out⟩
end
#print axioms needed_any
end Go.Proofs.YtfpggeiphbekoaaGreatDoor

namespace Go.Proofs.YtfpggeiphbekoaaGreatDoor
open Go.RowKit
set_option linter.unusedVariables false

section
variable {w w' : World} {D S : Nat → Prop} {n : Nat} {dn up ed : Nat → Nat} {k : CC}
/-- the edges that are needed -/
def leastL (n : Nat) (dn ed : Nat → Nat) : List (Int × Int) := if cycB n dn = true then [] else (edgesTo n ed n).filter fun q => neededB n dn ed q.1 q.2
set_option maxRecDepth 100000 in
set_option maxHeartbeats 2000000 in
theorem least_any (h : Clo w D n dn up ed k) (hT : TabOk w) : Calls Tryz.prog 29 #[.pointer (some ⟨k.b, 0, none⟩)] w fun e w' => ∃ v, e = .returned v ∧ Fx No w w' ∧ OwnP w' w.heap.size v (leastL n dn ed) := by
  obtain ⟨ii, hi, hz, hs, hb⟩ := info_parts info_pair
  have H := Lib.hid h
  have HT := Lib.hid hT
  have hle := h.le
  clear h hT
  go_enter Tryz.func29, Tryz.ntmps29
  go_wp2_with fail
  refine (cyclic_any H.out).mono ?_
  rintro e w1 ⟨rfl, hf⟩
  have HF := Lib.hid hf
  clear hf
  have HLe : Hid (leastL n dn ed = if cycB n dn = true then [] else (edgesTo n ed n).filter fun q => neededB n dn ed q.1 q.2) := Lib.hid rfl
  obtain ⟨cy, hcy⟩ : ∃ x, x = cycB n dn := ⟨_, rfl⟩
  rw [← hcy] at HLe ⊢
  clear hcy
  cases cy
  · have HLe : Hid (leastL n dn ed = (edgesTo n ed n).filter fun q => neededB n dn ed q.1 q.2) := by have := HLe.out; rw [if_neg (by simp)] at this; exact Lib.hid this
    go_wp2_with fail
    refine (edges_any (H.out.no HF.out) (HT.out.keep HF.out (fun h => h))).mono ?_
    rintro e w2 ⟨v, rfl, hf, ho⟩
    have hel := edgesTo_len n ed n
    have hnn : n * n ≤ 1024 * 1024 := Nat.mul_le_mul hle hle
    obtain ⟨xs, hxs⟩ : ∃ xs, xs = edgesTo n ed n := ⟨_, rfl⟩
    rw [← hxs] at HLe ho hel
    obtain ⟨vo, vc, rfl, _, _, hcc⟩ := PairsV.facts ho.row
    have HC := Lib.hid hcc
    have hzb := hf.size
    have hz1 := HF.out.size
    have HF2 := Lib.hid (HF.out.trans hf)
    clear hf ho hcc hxs
    go_wp2
    obtain ⟨wo, hwo⟩ : ∃ wo, wo = w2 := ⟨_, rfl⟩
    subst hwo
    go_loopw [2, 4, 10] (fun l _ i ws => ∃ q : Nat, i = .int .i64 q ∧ q ≤ xs.length ∧ Fx No wo ws ∧ OwnP ws wo.heap.size l ((xs.take q).filter fun q => neededB n dn ed q.1 q.2)) (fun _ _ i _ => xs.length - (intOf i).toNat)
    case atStart => exact ⟨0, rfl, Nat.zero_le _, Fx.refl _ _, OwnT.nil _ _⟩
    case round =>
      obtain ⟨q, rfl, hq, hf, ho⟩ := hrel
      have HFq := Lib.hid hf
      have HO := Lib.hid ho
      have hzq := hf.size
      clear hf ho
      by_cases hql : q < xs.length
      · obtain ⟨bq, oq, rfl, _, c1, c2⟩ := HC.out q hql
        have c1 := HFq.out.cell' c1 (fun h => h)
        have c2 := HFq.out.cell' c2 (fun h => h)
        obtain ⟨x, hx⟩ : ∃ x, x = (gt xs q).1 := ⟨_, rfl⟩
        obtain ⟨y, hy⟩ : ∃ x, x = (gt xs q).2 := ⟨_, rfl⟩
        rw [← hx] at c1
        rw [← hy] at c2
        have HG : Hid (xs.take (q + 1) = xs.take q ++ [(x, y)]) := Lib.hid (by rw [take_gt hql, show gt xs q = (x, y) from Prod.ext hx.symm hy.symm])
        have hlen : ((xs.take q).filter fun q => neededB n dn ed q.1 q.2).length ≤ 1048576 := by
          refine Nat.le_trans (List.length_filter_le _ _) ?_
          rw [List.length_take]; omega
        obtain ⟨ys, hys⟩ : ∃ ys, ys = (xs.take q).filter fun q => neededB n dn ed q.1 q.2 := ⟨_, rfl⟩
        rw [← hys] at hlen HO
        have HY := Lib.hid hys
        clear hx hy hys
        go_wp2_with fail
        refine (needed_any (H.out.no ((HF2.out.trans HFq.out).alloc _)) (HT.out.keep ((HF2.out.trans HFq.out).alloc _) (fun h => h)) x y).mono ?_
        rintro e w3 ⟨rfl, hf⟩
        have hxc : w3.cell? ⟨wr.heap.size, 0, none⟩ = some (.int .i64 x) := hf.cell' (by simp) (fun h => h)
        have hyc : w3.cell? ⟨wr.heap.size, 1, none⟩ = some (.int .i64 y) := hf.cell' (by simp) (fun h => h)
        have HF3 := Lib.hid ((HFq.out.alloc _).trans hf)
        have HO3 := Lib.hid ((HO.out.no ((Fx.refl No wr).alloc _)).no hf)
        have hz3 := hf.size
        simp only [World.size_alloc] at hz3
        obtain ⟨N, hN⟩ : ∃ t, t = neededB n dn ed x y := ⟨_, rfl⟩
        rw [← hN]
        have HN := Lib.hid hN
        clear hf hN
        cases N
        · have HG2 : Hid (((xs.take (q + 1)).filter fun q => neededB n dn ed q.1 q.2) = ys) := Lib.hid (by rw [HG.out, List.filter_append, ← HY.out]; simp [← HN.out])
          go_wp2
          go_roundw
          case rel => exact ⟨q + 1, by go_num, by omega, HF3.out, by rw [HG2.out]; exact HO3.out⟩
          case measure => simp [intOf]; omega
        · have HG2 : Hid (((xs.take (q + 1)).filter fun q => neededB n dn ed q.1 q.2) = ys ++ [(x, y)]) := Lib.hid (by rw [HG.out, List.filter_append, ← HY.out]; simp [← HN.out])
          go_wp2_with (at_builtin; refine wpList_append_sl rfl _ _ 22 rfl wo.heap.size 25 Tryz.underlying22 hi hz hs hb rfl (by decide) rfl (World.ownsRow.alloc HO3.out _) rfl (SlV.lit _ 25 #[.int .i64 _, .int .i64 _] 2 1 rfl (by unfold maxLen; omega)) (ints_one [_, _]) (by unfold maxLen; omega) (by omega) (by simp; omega) ?_)
          intro v' w4 ho hfx _
          have HO4 : Hid (OwnP w4 wo.heap.size v' ((xs.take (q + 1)).filter fun q => neededB n dn ed q.1 q.2)) := Lib.hid (by rw [HG2.out]; exact OwnT.snoc ho)
          have HF4 : Hid (Fx No wo w4) := Lib.hid ((HF3.out.alloc _).trans' hfx fun g e hl => by have := (World.ownsRow.lt HO3.out g e).1; omega)
          clear ho hfx
          go_wp2
          go_roundw
          case rel => exact ⟨q + 1, by go_num, by omega, HF4.out, HO4.out⟩
          case measure => simp [intOf]; omega
      · obtain rfl : q = xs.length := by omega
        have HO2 : Hid (OwnP wr wo.heap.size u2 (leastL n dn ed)) := Lib.hid (by rw [HLe.out]; have := HO.out; rw [List.take_length] at this; exact this)
        have hzz : w.heap.size ≤ wo.heap.size := by omega
        go_wp2
        go_ret
        exact ⟨_, rfl, HF2.out.trans HFq.out, HO2.out.base hzz⟩
  · have HLe : Hid (leastL n dn ed = []) := by have := HLe.out; rw [if_pos rfl] at this; exact Lib.hid this
    go_wp2
    go_ret
    exact ⟨_, rfl, HF.out, by rw [HLe.out]; exact OwnT.nil _ _⟩
end
#print axioms least_any
end Go.Proofs.YtfpggeiphbekoaaGreatDoor
