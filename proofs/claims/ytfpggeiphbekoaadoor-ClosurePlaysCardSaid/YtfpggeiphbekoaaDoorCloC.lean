/- closure: needed, Least. -/
import Derived.Test.YtfpggeiphbekoaaDoorEqs
namespace Go.Proofs.YtfpggeiphbekoaaDoor
open Go.RowKit
set_option linter.unusedVariables false

section
variable {w w' : World} {D S : Nat → Prop} {n : Nat} {dn up ed : Nat → Nat} {k : CC}
theorem neededB_take {n : Nat} {dn ed : Nat → Nat} {a b : Int} (q : Nat) (h : ∀ i, i < q → (decide (gi (allX (ofN n a) (ofM n ed a)) i ≠ b) && leadsB n dn (gi (allX (ofN n a) (ofM n ed a)) i) b) = false) (hq : (allX (ofN n a) (ofM n ed a)).length ≤ q) : neededB n dn ed a b = true := by
  unfold neededB
  rw [List.all_eq_true]
  intro j hj
  obtain ⟨i, hi, rfl⟩ := List.getElem_of_mem hj
  have := h i (by omega)
  rw [show gi (allX (ofN n a) (ofM n ed a)) i = (allX (ofN n a) (ofM n ed a))[i] by simp [gi, hi]] at this
  rw [this]; rfl
theorem neededB_not {n : Nat} {dn ed : Nat → Nat} {a b : Int} {i : Nat} (hi : i < (allX (ofN n a) (ofM n ed a)).length) (h : (decide (gi (allX (ofN n a) (ofM n ed a)) i ≠ b) && leadsB n dn (gi (allX (ofN n a) (ofM n ed a)) i) b) = true) : neededB n dn ed a b = false := by
  unfold neededB
  rw [List.all_eq_false]
  exact ⟨_, gi_mem hi, by rw [h]; simp⟩
set_option maxRecDepth 100000 in
set_option maxHeartbeats 2000000 in
theorem needed_any (h : Clo w D n dn up ed k) (hT : TabOk w) (a b : Int) : Calls Tryd.prog 50 #[.pointer (some ⟨k.b, 0, none⟩), .agg #[.int .i64 a, .int .i64 b]] w fun e w' => e = .returned (.bool (neededB n dn ed a b)) ∧ Fx No w w' := by
  have H := Lib.hid h
  have HT := Lib.hid hT
  have hle := h.le
  clear h hT
  go_enter Tryd.func50, Tryd.ntmps50
  go_wp2_with fail
  refine wp_hold (fun W => Fx No w W ∧ W.cell? ⟨w.heap.size, 0, none⟩ = some (.int .i64 a) ∧ W.cell? ⟨w.heap.size, 1, none⟩ = some (.int .i64 b)) ⟨(Fx.refl No w).alloc _, by simp, by simp⟩ ?_
  rintro wr ⟨hf, e0, e1⟩
  obtain ⟨eb, heb⟩ : ∃ e, e = w.heap.size := ⟨_, rfl⟩
  rw [← heb] at e0 e1 ⊢
  have HF := Lib.hid hf
  have hv2 := (H.out.no hf).v2
  have HFam := Lib.hid (H.out.no hf).f2
  have q1 : ∀ w', Fx No wr w' → w'.cell? ⟨k.b, 2, none⟩ = some k.c2.v := fun w' h => h.cell' hv2 (fun h => h)
  have q2 : ∀ w', Fx No wr w' → w'.cell? ⟨eb, 0, none⟩ = some (.int .i64 a) := fun w' h => h.cell' e0 (fun h => h)
  have s0 : Fx No wr wr := Fx.refl _ _
  have HE1 := Lib.hid e1
  have HE0 := Lib.hid e0
  clear hf heb hv2 e0 e1
  have CO : Hid (∀ W, Fx No wr W → Calls Tryd.prog 39 #[.agg #[k.c2.v], .int .i64 a] W fun e w' => e = .returned (.pointer (ofP k.c2 n a)) ∧ Fx No W w') := Lib.hid fun W h => rowsOf_any (HFam.out.no h) a
  have CA : Hid (∀ W, Fx No wr W → Calls Tryd.prog 48 #[.pointer (ofP k.c2 n a)] W fun e w' => ∃ v, e = .returned v ∧ Fx No W w' ∧ OwnI w' W.heap.size v (allX (ofN n a) (ofM n ed a))) := Lib.hid fun W h => all_any ((HFam.out.no h).of a) (HT.out.keep (HF.out.trans h) (fun h => h))
  go_region_held3 (fun w' => Fx No wr w')
    (first
      | exact s0.drew
      | exact Fx.transNo (by assumption) hfi)
    (first
      | (go_at_call 39; with_reducible refine (CO.out _ (by assumption)).mono ?_; rintro e w' ⟨rfl, hfi⟩)
      | (go_at_call 48; with_reducible refine (CA.out _ (by assumption)).mono ?_; rintro e w' ⟨v, rfl, hfi, hoi⟩; obtain ⟨vo, vc, rfl, _, hci⟩ := hoi.ints.facts; have HCi := Lib.hid hci; clear hoi hci))
  all_goals
    have HK : Hid (Fx No wr w') := by assumption
    obtain ⟨l, hl⟩ : ∃ l, l = allX (ofN n a) (ofM n ed a) := ⟨_, rfl⟩
    rw [← hl] at HCi ⊢
    have HL := Lib.hid hl
    have hll : l.length ≤ 1024 := by
      rw [hl]
      refine Nat.le_trans (allX_length_le _ _) ?_
      unfold ofN; split <;> omega
    clear q1 q2 s0 hl CO CA
    obtain ⟨wo, hwo⟩ : ∃ wo, wo = w' := ⟨_, rfl⟩
    subst hwo
    have HFo := Lib.hid (HF.out.trans HK.out)
    have HE2 := Lib.hid (HK.out.cell' HE0.out (fun h => h))
    have HE3 := Lib.hid (HK.out.cell' HE1.out (fun h => h))
    go_wp2
    go_loopw [6, 7, 17] (fun _ _ i ws => ∃ q : Nat, i = .int .i64 q ∧ q ≤ l.length ∧ Fx No wo ws ∧ ∀ i, i < q → (decide (gi l i ≠ b) && leadsB n dn (gi l i) b) = false) (fun _ _ i _ => l.length - (intOf i).toNat)
    case atStart => exact ⟨0, rfl, Nat.zero_le _, Fx.refl _ _, fun i hi => by omega⟩
    case round =>
      obtain ⟨q, rfl, hq, hf, hA⟩ := hrel
      have HFq := Lib.hid hf
      have HA := Lib.hid hA
      have e0 := hf.cell' HE2.out (fun h => h)
      have e1 := hf.cell' HE3.out (fun h => h)
      clear hf hA
      by_cases hql : q < l.length
      · obtain ⟨bq, oq, rfl, _, hcell⟩ := HCi.out q hql
        have hcell' := HFq.out.cell' hcell (fun h => h)
        have hbq : bq < wr.heap.size := World.block_lt_of_cell? wr _ hcell'
        have heb : eb < wr.heap.size := World.block_lt_of_cell? wr _ e0
        obtain ⟨j, hj⟩ : ∃ j, j = gi l q := ⟨_, rfl⟩
        rw [← hj] at hcell'
        have HJ := Lib.hid hj
        clear hcell hj
        have hq : ∀ W, (Op.equalIn 10000 33 (.agg #[.int .i64 a, .int .i64 j]) (.agg #[.int .i64 a, .int .i64 b])).run Tryd.prog W = .ok (j == b) W := fun W => by rw [run_eq2]; simp
        by_cases hjb : j = b
        · subst hjb
          simp only [beq_self_eq_true] at hq
          go_wp2
          go_roundw
          case rel => exact ⟨q + 1, by go_num, by omega, HFq.out.alloc _, fun i hi => by
            by_cases e : i = q
            · subst e; rw [← HJ.out]; simp
            · exact HA.out i (by omega)⟩
          case measure => simp [intOf]; omega
        · have djb : (j == b) = false := by simpa using hjb
          rw [djb] at hq
          have HNe := Lib.hid hjb
          clear hjb djb
          go_wp2_with fail
          refine (leads_any (H.out.no ((HFo.out.trans HFq.out).alloc _)) j b).mono ?_
          rintro e w2 ⟨rfl, hf⟩
          have HF2 := Lib.hid ((HFq.out.alloc _).trans hf)
          obtain ⟨L, hL⟩ : ∃ L, L = leadsB n dn j b := ⟨_, rfl⟩
          rw [← hL]
          have HLd := Lib.hid hL
          clear hf hL hq
          cases L
          · go_wp2
            go_roundw
            case rel => exact ⟨q + 1, by go_num, by omega, HF2.out, fun i hi => by
              by_cases e : i = q
              · subst e; rw [← HJ.out, ← HLd.out]; simp
              · exact HA.out i (by omega)⟩
            case measure => simp [intOf]; omega
          · have HN : Hid (neededB n dn ed a b = false) := Lib.hid (neededB_not (i := q) (by rw [← HL.out]; exact hql) (by rw [← HL.out, ← HJ.out, ← HLd.out]; simp [HNe.out]))
            go_wp2
            go_ret
            exact ⟨by rw [HN.out]; rfl, HFo.out.trans HF2.out⟩
      · obtain rfl : q = l.length := by omega
        have HN : Hid (neededB n dn ed a b = true) := Lib.hid (neededB_take l.length (by rw [← HL.out]; exact HA.out) (by rw [← HL.out]; exact Nat.le_refl _))
        go_wp2
        go_ret
        exact ⟨by rw [HN.out]; rfl, HFo.out.trans HFq.out⟩
end
#print axioms needed_any
end Go.Proofs.YtfpggeiphbekoaaDoor
