/- Contracts of package alibiref08: All, Next. -/
import Derived.Test.YthbfpcheljaeaaaDoorRefD
import Derived.Test.YthbfpcheljaeaaaDoorIterC
namespace Go.Proofs.YthbfpcheljaeaaaDoor
open Go.RowKit
set_option linter.unusedVariables false

theorem info_int : (Tryd.prog.info? 3).map (fun i => (i.zero, i.size, i.bytes)) = some (some (.int .i64 0), 1, 8) := by kernel_rfl
theorem refAll_any {w : World} {D : Nat → Prop} {v : Value} {n X : Nat} (h : IsR w D v n X) :
    Calls Tryd.prog 46 #[.agg #[v]] w fun e w' => ∃ u, e = .returned u ∧ Fx No w w' ∧ OwnI w' w.heap.size u (allX n X) := by
  obtain ⟨i0, hi, hz, hs, hb⟩ := info_parts info_int
  have hn := h.1
  obtain ⟨ao, cap, rfl, hc⟩ := h.facts
  have HC := Lib.hid hc
  clear hc h
  go_enter Tryd.func46, Tryd.ntmps46
  go_wp2
  go_loopw [3, 4] (fun u i wr => ∃ k : Nat, k ≤ n ∧ i = .int .i64 k ∧ Fx No w wr ∧ w.heap.size < wr.heap.size ∧ wr.cell? ⟨w.heap.size, 0, none⟩ = some (.slice ao n cap) ∧ OwnI wr (w.heap.size + 1) u (allX k X)) (fun _ i _ => n - (intOf i).toNat)
  case atStart => exact ⟨0, Nat.zero_le _, rfl, (Fx.refl No w).alloc _, by simp, by simp, World.ownsRow_nil _ _ _ _⟩
  case round =>
    obtain ⟨k, hk, rfl, hf, hsz, hc1, ho⟩ := hrel
    have HF := Lib.hid hf
    have HO := Lib.hid ho
    have hll := allX_length_le k X
    clear hf ho
    by_cases hlt : k < n
    · obtain ⟨b, o, rfl, _, hcell⟩ := HC.out k hlt
      have hcell' := HF.out.cell' hcell (fun h => h)
      clear hcell
      by_cases hb1 : X.testBit k = true
      · go_wp2_with (at_builtin; refine wpList_append_sl rfl _ _ 22 rfl (w.heap.size + 1) 3 Tryd.underlying22 hi hz hs hb rfl (by decide) rfl (World.ownsRow.alloc HO.out _) rfl (SlV.lit wr 3 #[.int .i64 (k : Int)] 1 1 rfl (by unfold maxLen; omega)) (ints_one [(k : Int)]) (by unfold maxLen; omega) (by omega) (by simp; omega) ?_)
        intro u1 w1 hown1 hf1 _
        have hc2 := hf1.cell' (a := ⟨w.heap.size, 0, none⟩) (v := .slice (some ⟨b, o, none⟩) n cap) (by rw [World.cell?_alloc_lt _ _ _ (by simpa using hsz)]; exact hc1) (fun h => by have := (World.ownsRow.lt HO.out _ h).1; simp at this; omega)
        have hs1 := hf1.size
        have HF1 := Lib.hid ((HF.out.alloc (.cells #[.int .i64 (k : Int)] 3)).trans' hf1 (fun j hj hlt => by have := (World.ownsRow.lt HO.out _ hj).1; omega))
        have HO1 : Hid (OwnI w1 (w.heap.size + 1) u1 (allX (k + 1) X)) := by
          show OwnI _ _ _ _
          unfold OwnI at *
          rw [allX_succ, if_pos hb1]
          simpa [ints] using hown1
        clear hown1 hf1
        simp at hs1
        go_wp2
        go_roundw
        case rel => exact ⟨k + 1, by omega, by go_num, HF1.out, by omega, hc2, HO1.out⟩
        case measure => simp [intOf]; omega
      · have hb2 : X.testBit k = false := by simpa using hb1
        have HO1 : Hid (OwnI wr (w.heap.size + 1) u3 (allX (k + 1) X)) := by
          show OwnI _ _ _ _
          rw [allX_succ, hb2]
          simpa using HO.out
        clear hb1
        go_wp2
        go_roundw
        case rel => exact ⟨k + 1, by omega, by go_num, HF.out, by omega, hc1, HO1.out⟩
        case measure => simp [intOf]; omega
    · obtain rfl : k = n := by omega
      go_wp2
      go_ret
      exact ⟨_, rfl, HF.out, ownsRow_base HO.out (by omega)⟩

theorem refNext_any {w : World} {D : Nat → Prop} {v : Value} {n X : Nat} (h : IsR w D v n X) (i : Int) (hi : i ≤ 100000) :
    Calls Tryd.prog 47 #[.agg #[v], .int .i64 i] w fun e w' => e = .returned (.tuple #[.int .i64 (nextN n X i), .bool (nextB n X i)]) ∧ Fx No w w' := by
  have hn := h.1
  obtain ⟨ao, cap, rfl, hc⟩ := h.facts
  have HC := Lib.hid hc
  clear hc h
  go_enter Tryd.func47, Tryd.ntmps47
  go_wp2
  all_goals
    go_loopw [6] (fun j wr => ∃ k : Nat, j = .int .i64 k ∧ k ≤ 100000 ∧ i ≤ k ∧ wr = w.alloc (.cells #[.slice ao n cap] 28) ∧ ∀ j : Nat, j < k → i ≤ j → X.testBit j = false) (fun j _ => n - (intOf j).toNat)
    case atStart =>
      first
        | exact ⟨i.toNat, by congr 1; omega, by omega, by omega, rfl, fun j hj hi => by omega⟩
        | exact ⟨0, rfl, by omega, by omega, rfl, fun j hj hi => by omega⟩
    case round =>
      obtain ⟨k, rfl, hk, hik, rfl, hq⟩ := hrel
      have HQ := Lib.hid hq
      clear hq
      by_cases hlt : k < n
      · obtain ⟨b, o, rfl, _, hcell⟩ := HC.out k hlt
        have hcell' := ((Fx.refl No w).alloc (.cells #[.slice (some ⟨b, o, none⟩) n cap] 28)).cell' hcell (fun h => h)
        clear hcell
        by_cases hb : X.testBit k = true
        · have HN := Lib.hid (nextX_hit hlt hik hb HQ.out)
          go_wp2
          go_ret2
          exact ⟨by simp only [nextN, nextB, HN.out]; rfl, (Fx.refl No w).alloc _⟩
        · have hb' : X.testBit k = false := by simpa using hb
          have HB := Lib.hid hb'
          clear hb
          go_wp2
          go_roundw
          case rel => exact ⟨k + 1, by go_num, by omega, by omega, by first | rfl | trivial, fun j hj hi => by
            by_cases e : j = k
            · subst e; exact HB.out
            · exact HQ.out j (by omega) hi⟩
          case measure => simp [intOf]; omega
      · have HN : Hid (nextX n X i = none) := nextX_none fun j hj hi => HQ.out j (by omega) hi
        go_wp2
        go_ret2
        exact ⟨by simp only [nextN, nextB, HN.out]; rfl, (Fx.refl No w).alloc _⟩
#print axioms refAll_any
#print axioms refNext_any
end Go.Proofs.YthbfpcheljaeaaaDoor
