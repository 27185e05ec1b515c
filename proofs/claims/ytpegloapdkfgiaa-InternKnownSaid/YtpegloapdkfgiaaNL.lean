/- intern: the document's tables: more names, a number's name, the order of names; the law's 'same'. -/
import Derived.Test.YtpegloapdkfgiaaNK
namespace Go.Proofs.Ytpegloapdkfgiaa
open Go.RowKit
set_option linter.unusedVariables false

theorem countP_lt {α : Type} {p q : α → Bool} : ∀ {l : List α} (h : ∀ a ∈ l, p a = true → q a = true) {a : α} (ha : a ∈ l) (h1 : p a = false) (h2 : q a = true), l.countP p < l.countP q
  | [], _, _, ha, _, _ => by simp at ha
  | b :: t, h, a, ha, h1, h2 => by
    have hle : t.countP p ≤ t.countP q := List.countP_mono_left fun x hx => h x (List.mem_cons_of_mem _ hx)
    have hc : ∀ r : α → Bool, (b :: t).countP r = t.countP r + if r b then 1 else 0 := fun r => List.countP_cons
    rw [hc, hc]
    rcases List.mem_cons.1 ha with rfl | ha'
    · simp only [h1, h2]
      simp
      omega
    · have ih := countP_lt (fun x hx => h x (List.mem_cons_of_mem _ hx)) ha' h1 h2
      have hb := h b (by simp)
      cases hp : p b with
      | false => simp; split <;> omega
      | true => simp [hb hp]; omega
theorem aheadN_count (lt : Nat → Nat → Bool) (n i : Nat) : aheadN lt n i = (List.range n).countP fun k => lt k i := by
  unfold aheadN; rw [List.countP_eq_length_filter]
theorem ahead_mono {lt : Nat → Nat → Bool} {n i j : Nat} (ht : ∀ a b c, lt a b = true → lt b c = true → lt a c = true) (hi : ∀ a, lt a a = false) (hin : i < n) (h : lt i j = true) : aheadN lt n i < aheadN lt n j := by
  rw [aheadN_count, aheadN_count]
  exact countP_lt (fun a _ ha => ht _ _ _ ha h) (List.mem_range.2 hin) (hi i) h
theorem ahead_lt {lt : Nat → Nat → Bool} {n i : Nat} (hi : ∀ a, lt a a = false) (hin : i < n) : aheadN lt n i < n := by
  have := countP_lt (l := List.range n) (p := fun k => lt k i) (q := fun _ => true) (fun _ _ _ => rfl) (List.mem_range.2 hin) (hi i) rfl
  rw [aheadN_count]
  simpa using this
/-- the order of pairs -/
def lessP (a b : Int × Int) : Bool := decide (a.1 < b.1) || (decide (a.1 = b.1) && decide (a.2 < b.2))
def ltP (L : List (Int × Int)) (k i : Nat) : Bool := lessP (gp L k) (gp L i)
theorem lessP_iff (a b : Int × Int) : lessP a b = true ↔ a.1 < b.1 ∨ a.1 = b.1 ∧ a.2 < b.2 := by simp [lessP]
theorem lessP_irr (a : Int × Int) : lessP a a = false := by
  cases h : lessP a a with
  | false => rfl
  | true => rw [lessP_iff] at h; omega
theorem lessP_trans (a b c : Int × Int) (h1 : lessP a b = true) (h2 : lessP b c = true) : lessP a c = true := by
  rw [lessP_iff] at *; omega
theorem lessP_total {a b : Int × Int} (h : a ≠ b) : lessP a b = true ∨ lessP b a = true := by
  rw [lessP_iff, lessP_iff]
  have : ¬ (a.1 = b.1 ∧ a.2 = b.2) := fun q => h (Prod.ext q.1 q.2)
  omega
theorem ltU_up {L : List Int} {k i : Nat} (hk : k < L.length) (hi : i < L.length) : ltP (up L) k i = ltU L k i := by
  unfold ltP ltU
  rw [gp_up hk, gp_up hi]
  simp [lessP]
theorem aheadN_congr {lt lt' : Nat → Nat → Bool} {n i : Nat} (h : ∀ k, k < n → lt k i = lt' k i) : aheadN lt n i = aheadN lt' n i := by
  rw [aheadN_count, aheadN_count]
  refine List.countP_congr fun a ha => ?_
  rw [h a (List.mem_range.1 ha)]
theorem gp_ne {L : List (Int × Int)} (hn : L.Nodup) {a c : Nat} (ha : a < L.length) (hc : c < L.length) (hne : a ≠ c) : gp L a ≠ gp L c := fun e => by
  have h1 : L[a] = L[c] := by simpa [gp, List.getD, ha, hc] using e
  rcases Nat.lt_or_gt_of_ne hne with q | q
  · exact (List.pairwise_iff_getElem.1 hn) a c _ _ q h1
  · exact (List.pairwise_iff_getElem.1 hn) c a _ _ q h1.symm
/-- what the document's order says of a row -/
def RisenZ (L : List (Int × Int)) (Z : List Int) : Prop := Z.length = L.length ∧ ∀ i, i < L.length → gi Z (aheadN (ltP L) L.length i) = ((i : Nat) : Int)
theorem natsI_length (R : List Nat) : (natsI R).length = R.length := by simp [natsI]
theorem gi_natsI {R : List Nat} {p : Nat} (h : p < R.length) : gi (natsI R) p = ((R.getD p 0 : Nat) : Int) := by simp [gi, natsI, List.getD, h]
theorem risen_ints {L : List (Int × Int)} {R : List Nat} {Z : List Int} (h : Risen (ltP L) L.length R) (hz : RisenZ L Z) : natsI R = Z := by
  refine gi_ext (by rw [natsI_length, h.1, hz.1]) fun p hp => ?_
  rw [natsI_length] at hp
  have hp' : p < L.length := by rw [← h.1]; exact hp
  obtain ⟨h1, h2⟩ := h.2 p hp'
  have h3 := hz.2 _ h1
  rw [h2] at h3
  rw [gi_natsI hp, h3]
theorem risen_up {L : List Int} {R : List Nat} (h : Risen (ltU L) L.length R) : Risen (ltP (up L)) (up L).length R := by
  rw [up_length]
  refine ⟨h.1, fun p hp => ?_⟩
  obtain ⟨h1, h2⟩ := h.2 p hp
  exact ⟨h1, by rw [aheadN_congr fun k hk => ltU_up hk h1, h2]⟩
section
variable {w : World} {D E : Nat → Prop} {v u : Value} {ks : List Int} {L ps : List (Int × Int)} {x : Int × Int}
set_option maxRecDepth 100000 in
set_option maxHeartbeats 4000000 in
theorem refAdd_any (h : PaV w D v L) (h' : PaV w E u ps) (hl : L.length + ps.length ≤ 100000) : Calls Try.prog 16 #[v, u] w fun e w' => ∃ v', e = .returned (.tuple #[v', .int .i64 (numN L ps (-1))]) ∧ Fx No w w' ∧ OwnP w' w.heap.size v' (addN L ps) := by
  obtain ⟨ii, hi, hz, hs, hb⟩ := info_parts info_ref
  obtain ⟨ao, cap, rfl, _, hcm, hc⟩ := PaV.facts h
  obtain ⟨bo, bcap, rfl, _, hbm, hc'⟩ := PaV.facts h'
  have H := Lib.hid h
  have HC := Lib.hid hc'
  clear h hc h' hc'
  go_enter Try.func16, Try.ntmps16
  go_wp2_with (at_builtin; refine wpList_append_sl rfl _ _ 41 rfl w.heap.size 54 Try.underlying41 hi hz hs hb rfl (by decide) rfl (World.ownsRow_nil _ _ _ _) rfl H.out (ncells_one fitP _) (by unfold maxLen; omega) (by omega) (Nat.le_refl _) ?_)
  intro v1 w1 ho hf _
  have HO1 : Hid (OwnP w1 w.heap.size v1 L) := Lib.hid (by simpa using ho)
  have HF1 : Hid (Fx No w w1) := Lib.hid (hf.mono fun k _ e => by cases e)
  clear ho hf
  go_wp2
  go_loopw [6, 7, 8, 9, 10] (fun ov lv kk _ _ ws => ∃ m : Nat, kk = .int .i64 m ∧ m ≤ ps.length ∧ lv = .int .i64 (numN L (ps.take m) (-1)) ∧ Fx No w ws ∧ OwnP ws w.heap.size ov (addN L (ps.take m))) (fun _ _ kk _ _ _ => ps.length - (intOf kk).toNat)
  case atStart => exact ⟨0, rfl, by omega, rfl, HF1.out, HO1.out⟩
  case round =>
    obtain ⟨m, rfl, hm, rfl, hf, ho⟩ := hrel
    have HF := Lib.hid hf
    have HO := Lib.hid ho
    obtain ⟨wm, hwm⟩ : ∃ x, x = wr := ⟨_, rfl⟩
    subst hwm
    clear hf ho
    by_cases hml : m < ps.length
    · have d1 : decide ((m : Int) < (ps.length : Int)) = true := decide_eq_true (by omega)
      have d1' : decide (m < ps.length) = true := decide_eq_true hml
      obtain ⟨g, o, rfl, _, hca, hcb⟩ := HC.out m hml
      have hca' := HF.out.cell' hca (fun h => h)
      have hcb' := HF.out.cell' hcb (fun h => h)
      have j0 : (0 : Int) ≤ (m : Int) := by omega
      have j1 : (m : Int) < (ps.length : Int) := by omega
      obtain ⟨L', hL'⟩ : ∃ q, q = addN L (ps.take m) := ⟨_, rfl⟩
      have hlen : L'.length + 1 ≤ 100000 := by
        have h1 := (length_addN L (ps.take m)).2
        have h2 : (ps.take m).length ≤ m := by rw [List.length_take]; omega
        rw [hL']; omega
      have HO' : Hid (OwnP wm w.heap.size u6 L') := Lib.hid (by rw [hL']; exact HO.out)
      have htk := take_gp hml
      have HTk := Lib.hid htk
      have HL' := Lib.hid hL'
      obtain ⟨oa, oc, rfl, _⟩ := SlV.ofOwns HO'.out
      have HCa := Lib.hid hca'
      have HCb := Lib.hid hcb'
      obtain ⟨y, hy⟩ : ∃ y, y = gp ps m := ⟨_, rfl⟩
      rw [← hy] at HCa HCb HTk
      have hca2 := HCa.out
      have hcb2 := HCb.out
      clear hca hcb hL' htk HO hca' hcb' hy
      go_wp2_with fail
      refine (refFind_any (x := y) HO'.out.row).mono ?_
      rintro e w2 ⟨rfl, hf⟩
      have HF2 := Lib.hid (HF.out.trans hf)
      have hca3 := hf.cell' HCa.out (fun h => h)
      have hcb3 := hf.cell' HCb.out (fun h => h)
      have HO2 : Hid (OwnP w2 w.heap.size (.slice oa L'.length oc) L') := Lib.hid (ownsRow_fx HO'.out hf fun _ _ h => h)
      clear hf hca2 hcb2
      by_cases hin : y ∈ L'
      · rw [fnd_in hin, isIn_in hin]
        go_wp2
        go_roundw
        case rel => exact ⟨m + 1, by first | rfl | go_num, by omega, by rw [HTk.out, numN_snoc, ← HL'.out], HF2.out, by rw [HTk.out, addN_snoc, ← HL'.out, add1_in hin]; exact HO2.out⟩
        case measure => simp [intOf]; omega
      · rw [fnd_out hin, isIn_out hin]
        have t1 : w.heap.size ≤ (w2.alloc (.cells #[.int .u64 y.1, .int .u64 y.2] 54)).heap.size := by
          have := HF2.out.size
          simp; omega
        have t2 : One (#[.int .u64 y.1, .int .u64 y.2] : Array Value).toList := by
          intro u hu
          simp at hu
          rcases hu with rfl | rfl <;> rfl
        have t3 : L'.length + 1 ≤ maxLen := by unfold maxLen; omega
        have t4 : (L'.length + 1) * 16 ≤ 140737488355328 := by omega
        have T1 := Lib.hid t1
        clear t1
        go_wp2_with (at_builtin; refine wpList_append_kept rfl _ _ 41 rfl w.heap.size 54 Try.underlying41 hi hz hs hb rfl (by decide) rfl (World.ownsRow.alloc HO2.out _) rfl (SlV.lit _ 54 #[.int .u64 y.1, .int .u64 y.2] 2 1 rfl (by unfold maxLen; omega)) t2 (by omega) t3 t4 T1.out ?_)
        intro v2 w6 ho hf _ hbk
        have hown : ∀ j, (Value.slice oa L'.length oc).ownBlock = some j → w.heap.size ≤ j := fun j e => (World.ownsRow.lt HO2.out j e).1
        have HO3 : Hid (OwnP w6 w.heap.size v2 (addN L (ps.take (m + 1)))) := Lib.hid (by
          rw [HTk.out, addN_snoc, ← HL'.out, add1_out hin]
          unfold OwnP
          rw [List.length_append, ncells_append, ncells_single]
          exact ho)
        have HF3 : Hid (Fx No w w6) := Lib.hid ((HF2.out.alloc _).trans' hf fun j h1 h2 => by have := hown j h1; omega)
        clear ho hf hbk
        go_wp2
        go_roundw
        case rel => exact ⟨m + 1, by first | rfl | go_num, by omega, by rw [HTk.out, numN_snoc, ← HL'.out, ix_out hin], HF3.out, HO3.out⟩
        case measure => simp [intOf]; omega
    · obtain rfl : m = ps.length := by omega
      have d1 : decide ((ps.length : Int) < (ps.length : Int)) = false := decide_eq_false (by omega)
      have d1' : decide (ps.length < ps.length) = false := decide_eq_false (by omega)
      rw [List.take_length] at HO ⊢
      go_wp2
      go_ret2
      exact ⟨_, rfl, HF.out, HO.out⟩
end
#print axioms refAdd_any
end Go.Proofs.Ytpegloapdkfgiaa
