/- Contracts of package alibiref08: a set is a row of truths, read as a number (bit i: is i in it?). -/
import Derived.Test.YthbfpcheljaeaaaDoorBitsC
namespace Go.Proofs.YthbfpcheljaeaaaDoor
open Go.RowKit
set_option linter.unusedVariables false

def boolsX (n X : Nat) : List Value := (List.range n).map fun i => .bool (X.testBit i)
theorem boolsX_length (n X : Nat) : (boolsX n X).length = n := by simp [boolsX]
theorem boolsX_one (n X : Nat) : One (boolsX n X) := by
  intro u hu
  obtain ⟨_, _, rfl⟩ := List.mem_map.1 hu
  rfl
/-- A row of truths that is the set X, of size n. -/
def IsR (w : World) (D : Nat → Prop) (v : Value) (n X : Nat) : Prop := n ≤ 65536 ∧ X < 2 ^ n ∧ SlV w D v 1 n (boolsX n X)
theorem IsR.keep {w w1 : World} {D S : Nat → Prop} {v : Value} {n X : Nat} (h : IsR w D v n X) (hf : Fx S w w1) (hd : ∀ k, D k → ¬ S k) : IsR w1 D v n X := ⟨h.1, h.2.1, h.2.2.keep hf hd⟩
theorem IsR.mono {w : World} {D T : Nat → Prop} {v : Value} {n X : Nat} (h : IsR w D v n X) (hd : ∀ k, D k → T k) : IsR w T v n X := ⟨h.1, h.2.1, h.2.2.mono hd⟩
theorem IsR.no {w w1 : World} {D : Nat → Prop} {v : Value} {n X : Nat} (h : IsR w D v n X) (hf : Fx No w w1) : IsR w1 D v n X := h.keep hf No.disj
theorem IsR.facts {w : World} {D : Nat → Prop} {v : Value} {n X : Nat} (h : IsR w D v n X) : ∃ ao cap, v = .slice ao n cap ∧
    ∀ k, k < n → ∃ b o, ao = some ⟨b, o, none⟩ ∧ D b ∧ w.cell? ⟨b, o + k, none⟩ = some (.bool (X.testBit k)) := by
  obtain ⟨_, _, ao, cap, h1, h2, h3, h4, h5, h6⟩ := h
  refine ⟨ao, cap, h1, fun k hk => ?_⟩
  obtain ⟨b, o, h7, h8, h9⟩ := h6.addr (by rw [boolsX_length]; omega)
  have := h9 k (by rw [boolsX_length]; exact hk)
  exact ⟨b, o, h7, h8, by rw [this]; simp [boolsX, hk]⟩

theorem IsR.shape {w : World} {D : Nat → Prop} {v : Value} {n X : Nat} (h : IsR w D v n X) : ∃ ao cap, v = .slice ao n cap := let ⟨ao, cap, h, _⟩ := h.facts; ⟨ao, cap, h⟩

theorem info_bool : (Tryd.prog.info? 4).map (fun i => (i.zero, i.size, i.bytes)) = some (some (.bool false), 1, 1) := by kernel_rfl
def zeroBools (k : Nat) : Array Value := Array.replicate k (.bool false)
theorem makeBools {E : Int} {k : Nat} (h0 : 0 ≤ E) (h1 : E ≤ 100000) (hk : E.toNat = k) (w : World) :
    (Instr.makeSlice 26 (.int .i64 E) (.int .i64 E)).run Tryd.prog w = .ok (.slice (some ⟨w.heap.size, 0, none⟩) k k) (w.alloc (.cells (zeroBools k) 4)) := by
  obtain ⟨i, hi, hz, hs, hb⟩ := info_parts info_bool
  have := run_make (P := Tryd.prog) w 26 4 i _ Tryd.underlying26 hi hz .i64 .i64 E E h0 (Int.le_refl _) (by rw [hb]; omega) (by omega)
  rw [this, hk, hs]
  have e : madeCells (Value.bool false).cells (k * 1) = zeroBools k := by
    apply Array.ext'
    rw [show (Value.bool false).cells = #[.bool false] from rfl, toList_madeCells_one]
    simp [zeroBools]
  rw [e]
/-- The same, owned. -/
def OwnR (w : World) (base : Nat) (v : Value) (n X : Nat) : Prop := n ≤ 65536 ∧ X < 2 ^ n ∧ w.ownsRow base 4 1 v n (boolsX n X)
theorem OwnR.isR {w : World} {base : Nat} {v : Value} {n X : Nat} (h : OwnR w base v n X) : IsR w (Iv base w.heap.size) v n X := ⟨h.1, h.2.1, SlV.ofOwns h.2.2⟩
theorem boolsX_zero (n : Nat) : (zeroBools n).toList = boolsX n 0 := by
  simp only [zeroBools, boolsX, Array.toList_replicate, Nat.zero_testBit]
  apply List.ext_getElem <;> simp
theorem ownR_made (w : World) (base n : Nat) (h : n ≤ 65536) (hb : base ≤ w.heap.size) : OwnR (w.alloc (.cells (zeroBools n) 4)) base (.slice (some ⟨w.heap.size, 0, none⟩) n n) n 0 := by
  refine ⟨h, Nat.two_pow_pos n, ?_⟩
  have h1 := World.ownsRow_lit (base := base) (e := 4) (size := 1) w (zeroBools n) n hb (by unfold maxLen; omega) (by simp [zeroBools])
  rwa [boolsX_zero] at h1
theorem refMay_any {w : World} {D : Nat → Prop} {v : Value} {n X : Nat} (h : IsR w D v n X) (i : Int) :
    Calls Tryd.prog 48 #[.agg #[v], .int .i64 i] w fun e w' => e = .returned (.bool (mayB n i)) ∧ Fx No w w' := by
  obtain ⟨ao, cap, rfl, hc⟩ := h.facts
  clear hc h
  by_cases hi : 0 ≤ i
  · have HB : Hid (mayB n i = decide (i < n)) := by simp [Hid, mayB, hi]
    go_enter Tryd.func48, Tryd.ntmps48
    go_wp2
    go_ret
    exact ⟨by rw [HB.out]; rfl, (Fx.refl _ _).alloc _⟩
  · have HB : Hid (mayB n i = false) := by simp [Hid, mayB, hi]
    go_enter Tryd.func48, Tryd.ntmps48
    go_wp2
    go_ret
    exact ⟨by rw [HB.out]; rfl, (Fx.refl _ _).alloc _⟩

theorem refHas_any {w : World} {D : Nat → Prop} {v : Value} {n X : Nat} (h : IsR w D v n X) (i : Int) :
    Calls Tryd.prog 34 #[.agg #[v], .int .i64 i] w fun e w' => e = .returned (.bool (hasB X i)) ∧ Fx No w w' := by
  have hX := h.2.1
  by_cases hm : mayB n i = true
  · obtain ⟨k, rfl⟩ := Int.eq_ofNat_of_zero_le (by simp [mayB] at hm; exact hm.1 : 0 ≤ i)
    have hk : k < n := by simp [mayB] at hm; exact hm
    have H := Lib.hid h
    obtain ⟨ao, cap, rfl, hc⟩ := h.facts
    obtain ⟨b, o, rfl, _, hcell⟩ := hc k hk
    have HC := Lib.hid hcell
    have HB : Hid (hasB X (k : Int) = X.testBit k) := hasB_nat X k
    clear hc h hX hcell
    go_enter Tryd.func34, Tryd.ntmps34
    go_wp2_with fail
    refine (refMay_any (H.out.no ((Fx.refl No w).alloc _)) _).mono ?_
    rintro e w1 ⟨rfl, hf⟩
    have hc1 := hf.cell' (a := ⟨w.heap.size, 0, none⟩) (v := .slice (some ⟨b, o, none⟩) n cap) (by simp) (fun h => h)
    have hc2 := (((Fx.refl No w).alloc _).trans hf).cell' HC.out (fun h => h)
    have HF := Lib.hid (((Fx.refl No w).alloc _).trans hf)
    clear hf
    go_wp2
    go_ret
    exact ⟨by rw [HB.out]; rfl, HF.out⟩
  · have hm' : mayB n i = false := by simpa using hm
    have hf : hasB X i = false := by
      unfold hasB
      unfold mayB at hm
      by_cases h0 : 0 ≤ i
      · have := testBit_ge hX (i := i.toNat) (by simp at hm; have := hm h0; omega)
        simp [this]
      · simp [h0]
    have HF := Lib.hid hf
    have H := Lib.hid h
    obtain ⟨ao, cap, rfl, hc⟩ := h.facts
    clear hc h hf hm hX
    go_enter Tryd.func34, Tryd.ntmps34
    go_wp2_with fail
    refine (refMay_any (H.out.no ((Fx.refl No w).alloc _)) _).mono ?_
    rintro e w1 ⟨rfl, hf⟩
    have HG := Lib.hid (((Fx.refl No w).alloc _).trans hf)
    clear hf
    go_wp2
    go_ret
    exact ⟨by rw [HF.out]; rfl, HG.out⟩

theorem refNew_any (n : Int) (w : World) : Calls Tryd.prog 30 #[.int .i64 n] w fun e w' => ∃ v, e = .returned (.agg #[v]) ∧ Fx No w w' ∧ OwnR w' w.heap.size v (newN n) 0 := by
  have main : ∀ (k : Nat) (u : Value), k ≤ 65536 → Fx No w ((w.alloc (.cells #[u] 28)).alloc (.cells (zeroBools k) 4)) ∧
      OwnR ((w.alloc (.cells #[u] 28)).alloc (.cells (zeroBools k) 4)) w.heap.size (.slice (some ⟨w.heap.size + 1, 0, none⟩) k k) k 0 := by
    rintro k u hk
    refine ⟨((Fx.refl No w).alloc _).alloc _, ?_⟩
    have h1 := ownR_made (w.alloc (.cells #[u] 28)) w.heap.size k hk (by simp)
    simpa only [World.size_alloc] using h1
  have HM := Lib.hid main
  clear main
  have fin : ∀ k, k ≤ 65536 → newN n = k → ∀ u, ∃ v, Ending.returned (.agg #[.slice (some ⟨w.heap.size + 1, 0, none⟩) k k]) = .returned (.agg #[v]) ∧ Fx No w ((w.alloc (.cells #[u] 28)).alloc (.cells (zeroBools k) 4)) ∧
      OwnR ((w.alloc (.cells #[u] 28)).alloc (.cells (zeroBools k) 4)) w.heap.size v (newN n) 0 := by
    rintro k hk hn u
    rw [hn]
    obtain ⟨h1, h2⟩ := HM.out k u hk
    exact ⟨_, rfl, h1, h2⟩
  have HF := Lib.hid fin
  clear fin
  by_cases h0 : n ≤ 0
  · have hmk := makeBools (E := 0) (k := 0) (by omega) (by omega) rfl
    have HN : Hid (newN n = 0) := by unfold Hid newN; omega
    go_enter Tryd.func30, Tryd.ntmps30
    go_wp2
    all_goals first
      | omega
      | exact bodyPost_ret (v := .agg #[.slice (some ⟨w.heap.size + 1, 0, none⟩) 0 0]) (by simp [results, Tryd.results30, go_sem]) rfl (HF.out 0 (by omega) HN.out _)
  · by_cases h1 : n ≤ 65536
    · obtain ⟨m, rfl⟩ := Int.eq_ofNat_of_zero_le (by omega : 0 ≤ n)
      have hmk := makeBools (E := (m : Int)) (k := m) (by omega) (by omega) (by omega)
      have HN : Hid (newN m = m) := by unfold Hid newN; omega
      go_enter Tryd.func30, Tryd.ntmps30
      go_wp2
      all_goals first
        | omega
        | exact bodyPost_ret (v := .agg #[.slice (some ⟨w.heap.size + 1, 0, none⟩) m m]) (by simp [results, Tryd.results30, go_sem]) rfl (HF.out m (by omega) HN.out _)
    · have hmk := makeBools (E := 65536) (k := 65536) (by omega) (by omega) rfl
      have HN : Hid (newN n = 65536) := by unfold Hid newN; omega
      go_enter Tryd.func30, Tryd.ntmps30
      go_wp2
      all_goals first
        | omega
        | exact bodyPost_ret (v := .agg #[.slice (some ⟨w.heap.size + 1, 0, none⟩) 65536 65536]) (by simp [results, Tryd.results30, go_sem]) rfl (HF.out 65536 (by omega) HN.out _)

theorem boolsX_set {n X Y k : Nat} {b : Bool} (hk : k < n) (hY : ∀ j, Y.testBit j = if j = k then b else X.testBit j) : (boolsX n X).set k (.bool b) = boolsX n Y := by
  apply List.ext_getElem
  · simp [boolsX]
  · intro j h1 h2
    rw [List.getElem_set]
    simp only [boolsX, List.getElem_map, List.getElem_range]
    rw [hY]
    by_cases e : j = k
    · subst e; simp
    · simp [e, Ne.symm e]

/-- 'with': a copy in which one truth has been turned -/
theorem refWith_any {w : World} {D : Nat → Prop} {v : Value} {n X Y k : Nat} {b : Bool} (h : IsR w D v n X) (hk : k < n) (hYlt : Y < 2 ^ n) (hY : ∀ j, Y.testBit j = if j = k then b else X.testBit j) :
    Calls Tryd.prog 49 #[.agg #[v], .int .i64 (k : Int), .bool b] w fun e w' => ∃ v', e = .returned (.agg #[v']) ∧ Fx No w w' ∧ IsR w' (Iv w.heap.size w'.heap.size) v' n Y := by
  obtain ⟨i0, hi, hz, hs, hb⟩ := info_parts info_bool
  have hle := h.1
  have HS := Lib.hid h.2.2
  have HY := Lib.hid hY
  clear hY h
  go_enter Tryd.func49, Tryd.ntmps49
  go_wp2_with (at_builtin; refine wpList_append_sl rfl _ _ 26 rfl (w.heap.size + 2) 4 Tryd.underlying26 hi hz hs hb rfl (by decide) rfl (World.ownsRow_nil _ _ _ _) rfl (HS.out.keep (S := No) (((Fx.refl _ _).alloc _).alloc _) No.disj) (boolsX_one _ _) (by unfold maxLen; omega) (by omega) (by simp) ?_)
  intro v' w1 hown1 hf1 hnil1
  obtain ⟨g, cap', rfl, hg1, hg2⟩ := ownsRow_pos hown1 (by omega)
  have HO := Lib.hid hown1
  have hc1 := hown1.cellAt k (by omega)
  rw [show (boolsX n X)[k]? = some (.bool (X.testBit k)) from by simp [boolsX, hk]] at hc1
  have hz1 := hown1.frozenAt k
  obtain ⟨hc2, hz2⟩ := hf1.cellF (a := ⟨w.heap.size + 1, 0, none⟩) (v := .slice none 0 0) (by simp) (by simp) (by simp [Value.ownBlock])
  have HF1 := Lib.hid hf1
  clear hown1 hf1 hnil1
  go_wp2
  have hres := World.cell?_setCell_same (w1.setCell ⟨g, k, none⟩ (.bool b)) ⟨w.heap.size + 1, 0, none⟩ (.slice (some ⟨g, 0, none⟩) n cap') (u := .slice none 0 0) (by rw [World.cell?_setCell_other _ _ _ _ (by intro e; have := congrArg Addr.block e; simp at this; omega)]; exact hc2)
  refine bodyPost_ret (v := .agg #[.slice (some ⟨g, 0, none⟩) n cap']) (by simp [results, Tryd.results49, go_sem, hres]) rfl ⟨_, rfl, ?_, hle, hYlt, ?_⟩
  · exact ((((Fx.refl No w).alloc _).alloc _).trans' HF1.out (by simp [Value.ownBlock])).setCell (.inl (by simp; omega)) _ |>.setCell (.inl (by simp)) _
  · have h1 := (HO.out.stored k (.bool b)).1
    rw [boolsX_set hk HY.out] at h1
    have h2 := ownsRow_setCell_below (a := ⟨w.heap.size + 1, 0, none⟩) h1 (by simp) (.slice (some ⟨g, 0, none⟩) n cap')
    exact (SlV.ofOwns h2).mono fun j ⟨h3, h4⟩ => ⟨by omega, h4⟩
#print axioms refHas_any
#print axioms refNew_any
#print axioms refWith_any
end Go.Proofs.YthbfpcheljaeaaaDoor
