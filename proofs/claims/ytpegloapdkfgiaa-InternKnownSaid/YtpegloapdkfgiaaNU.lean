/- The law InternPairs. -/
import Derived.Test.YtpegloapdkfgiaaNT
import Derived.Deep.RegionLaw
namespace Go.Proofs.Ytpegloapdkfgiaa
open Go.RowKit
set_option linter.unusedVariables false

section
variable {w : World} {D E : Nat → Prop} {v u : Value} {ps qs : List (Int × Int)}
set_option maxRecDepth 100000 in
set_option maxHeartbeats 4000000 in
theorem pairs_any (h : PaV w D v ps) (hl : ps.length ≤ 100000) : Calls Try.prog 25 #[v] w fun e w' => ∃ v', e = .returned v' ∧ Fx No w w' ∧ OwnP w' w.heap.size v' ps := by
  obtain ⟨ii, hi, hz, hs, hb⟩ := info_parts info_ref
  obtain ⟨ao, cap, rfl, _, hcm, hc⟩ := PaV.facts h
  have HC := Lib.hid hc
  clear h hc
  go_enter Try.func25, Try.ntmps25
  go_wp2
  go_loopw [3, 4] (fun ov kk ws => ∃ m : Nat, kk = .int .i64 m ∧ m ≤ ps.length ∧ Fx No w ws ∧ ws.ownsRow w.heap.size 54 2 ov m (ncells kP (ps.take m))) (fun _ kk _ => ps.length - (intOf kk).toNat)
  case atStart => exact ⟨0, rfl, by omega, Fx.refl _ _, World.ownsRow_nil _ _ _ _⟩
  case round =>
    obtain ⟨m, rfl, hm, hf, ho⟩ := hrel
    have HF := Lib.hid hf
    have HO := Lib.hid ho
    clear hf ho
    by_cases hml : m < ps.length
    · have d1 : decide ((m : Int) < (ps.length : Int)) = true := decide_eq_true (by omega)
      have d1' : decide (m < ps.length) = true := decide_eq_true hml
      obtain ⟨g, o, rfl, _, hca, hcb⟩ := HC.out m hml
      have HTk := Lib.hid (take_gp hml)
      obtain ⟨y1, hy1⟩ : ∃ y, y = (gp ps m).1 := ⟨_, rfl⟩
      obtain ⟨y2, hy2⟩ : ∃ y, y = (gp ps m).2 := ⟨_, rfl⟩
      rw [← hy1] at hca
      rw [← hy2] at hcb
      have HY : Hid (kP.cells (gp ps m) = [.int .u64 y1, .int .u64 y2]) := Lib.hid (by rw [hy1, hy2]; rfl)
      have c1 := HF.out.cell' hca (fun h => h)
      have c2 := HF.out.cell' hcb (fun h => h)
      have j0 : (0 : Int) ≤ (m : Int) := by omega
      have j1 : (m : Int) < (ps.length : Int) := by omega
      have HOw : Hid (∀ W, Fx No wr W → W.ownsRow w.heap.size 54 2 u3 m (ncells kP (ps.take m))) := Lib.hid fun W h => ownsRow_fx HO.out h fun _ _ h => h
      have t2 : One [Value.int .u64 y1, .int .u64 y2] := by
        intro u hu
        simp at hu
        rcases hu with rfl | rfl <;> rfl
      have hwz := HF.out.size
      have HWz := Lib.hid hwz
      clear hca hcb hy1 hy2 hwz
      go_wp2
      go_region_law (refine step_append_kept rfl (.tmp 11) (.tmp 23) 41 rfl w.heap.size 54 Try.underlying41 hi hz hs hb rfl (by decide) u3 m (ncells kP (ps.take m)) (by simp [Act.eval, Act.put]) (HOw.out _ (by repeat (first | exact Fx.refl _ _ | apply Fx.drew | apply Fx.drewN | apply Fx.alloc))) (fun _ => True) (.slice (some ⟨wr.heap.size, 0, none⟩) 1 1) 1 [.int .u64 y1, .int .u64 y2] (by simp [Act.eval, Act.put]) (by first | exact SlV.lit wr 54 #[.int .u64 y1, .int .u64 y2] 2 1 rfl (by unfold maxLen; omega) | exact SlV.keep (SlV.lit wr 54 #[.int .u64 y1, .int .u64 y2] 2 1 rfl (by unfold maxLen; omega)) ((Fx.refl No _).drewN _) No.disj | exact SlV.keep (SlV.lit wr 54 #[.int .u64 y1, .int .u64 y2] 2 1 rfl (by unfold maxLen; omega)) ((Fx.refl No _).drew) No.disj) t2 (by omega) (by unfold maxLen; omega) (by omega) (by have := HWz.out; simp; omega) ?_; intro v' w2 ho hfx hk9 hb2)
      all_goals
        have HO2 : Hid (w2.ownsRow w.heap.size 54 2 v' (m + 1) (ncells kP (ps.take (m + 1)))) := Lib.hid (by rw [HTk.out, ncells_append, ncells_single, HY.out]; exact ho)
        have hown : ∀ j, u3.ownBlock = some j → w.heap.size ≤ j := fun j e => (World.ownsRow.lt HO.out j e).1
        have HF2 : Hid (Fx No w w2) := Lib.hid (((HF.out.alloc _)).trans' ((by repeat (first | exact Fx.refl _ _ | apply Fx.drew | apply Fx.drewN) : Fx No (wr.alloc _) _).no.trans hfx) fun j h1 h2 => by have := hown j h1; omega)
        clear ho hfx hk9 hb2 c1 c2
        go_wp2
        go_roundw
        case rel => exact ⟨m + 1, by first | rfl | go_num, by omega, HF2.out, HO2.out⟩
        case measure => simp [intOf]; omega
    · obtain rfl : m = ps.length := by omega
      have d1 : decide ((ps.length : Int) < (ps.length : Int)) = false := decide_eq_false (by omega)
      have d1' : decide (ps.length < ps.length) = false := decide_eq_false (by omega)
      have HO2 : Hid (OwnP wr w.heap.size u3 ps) := Lib.hid (by
        have := HO.out
        rw [List.take_length] at this
        exact this)
      clear hml HO
      go_wp2
      go_ret
      exact ⟨_, rfl, HF.out, HO2.out⟩
end
#print axioms pairs_any
end Go.Proofs.Ytpegloapdkfgiaa
