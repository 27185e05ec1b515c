/- graph: Next. -/
import Derived.Test.YtcfajeldkioomaaGO
namespace Go.Proofs.Ytcfajeldkioomaa
open Go.RowKit
set_option linter.unusedVariables false

theorem rowI_len {L : List Ed} {n : Nat} {m : Int} (h : L.length ≤ 1000000) : (rowI (outE L) n m).length ≤ 1000000 := by
  unfold rowI
  split
  · exact Nat.le_trans (outE_len L _) h
  · simp
section
variable {w w' : World} {D S T E : Nat → Prop} {b n : Nat} {L : List Ed} {v : Value} {xs : List Ed}
set_option maxRecDepth 100000 in
set_option maxHeartbeats 1000000 in
theorem gNext_any (h : GraphV w D b n L) (m : Int) : Calls Try.prog 37 #[.pointer (some ⟨b, 0, none⟩), .int .i64 m] w fun e w' => ∃ v', e = .returned v' ∧ Fx No w w' ∧ RowI w' w.heap.size v' (comp ((rowI (outE L) n m).map (·.t))) := by
  obtain ⟨ii, hi, hz, hs, hb⟩ := info_parts info_int'
  have hrl := rowI_len (n := n) (m := m) h.small
  have CO := Lib.hid (gOut_any h m)
  obtain ⟨R, hR⟩ : ∃ R, R = rowI (outE L) n m := ⟨_, rfl⟩
  rw [← hR] at CO hrl ⊢
  clear h hR
  go_enter Try.func37, Try.ntmps37
  go_wp2_with fail
  refine CO.out.mono ?_
  rintro e w1 ⟨v1, rfl, hf, ho⟩
  have HF1 := Lib.hid hf
  have HO1 := Lib.hid ho
  obtain ⟨a1, c1, rfl, hcl, hcm, hc⟩ := EdsV.facts ho.row
  have HC := Lib.hid hc
  have z1 := hf.size
  clear hf ho hc CO
  go_wp2
  go_loopw [4, 11] (fun l i ws => ∃ q : Nat, i = .int .i64 q ∧ q ≤ R.length ∧ Fx No w1 ws ∧ ws.ownsRow w1.heap.size 3 1 l q (ints ((R.take q).map (·.t)))) (fun _ i _ => R.length - (intOf i).toNat)
  case atStart => exact ⟨0, rfl, Nat.zero_le _, Fx.refl _ _, by simpa [ints] using World.ownsRow_nil _ _ _ _⟩
  case round =>
    obtain ⟨q, rfl, hq, hf, ho⟩ := hrel
    have HF := Lib.hid hf
    have HO := Lib.hid ho
    have hzr := hf.size
    clear hf ho
    by_cases hlt : q < R.length
    · obtain ⟨bb, oo, rfl, hbb, p0, p1, p2⟩ := HC.out q hlt
      have HTk := Lib.hid (take_gt hlt)
      obtain ⟨x, hx⟩ : ∃ x, x = gt R q := ⟨_, rfl⟩
      rw [← hx] at p0 p1 p2 HTk
      have k0 := HF.out.cell' p0 (fun h => h)
      have k1 := HF.out.cell' p1 (fun h => h)
      have k2 := HF.out.cell' p2 (fun h => h)
      have hq0 : (0 : Int) ≤ (q : Int) := by omega
      have hq1 : (q : Int) < (R.length : Int) := by omega
      have HN : Hid (ints ((R.take (q + 1)).map (·.t)) = ints ((R.take q).map (·.t)) ++ ints [x.t]) := Lib.hid (by rw [HTk.out]; simp [ints])
      obtain ⟨f1, f2, f3⟩ := x
      simp only at k0 k1 k2
      clear p0 p1 p2 hx HTk
      have HSl : Hid (SlV ((wr.alloc (.cells #[.int .i64 f1, .int .i64 f2, .int .i64 f3] 25)).alloc (.cells #[.int .i64 f2] 3)) (fun _ => True) (.slice (some ⟨wr.heap.size + 1, 0, none⟩) 1 1) 1 1 (ints [f2])) := Lib.hid (by
        have h1 := SlV.lit (wr.alloc (.cells #[.int .i64 f1, .int .i64 f2, .int .i64 f3] 25)) 3 #[.int .i64 f2] 1 1 rfl (by unfold maxLen; omega)
        rw [World.size_alloc] at h1
        exact h1)
      go_wp2_with (at_builtin; refine wpList_append_kept rfl _ _ 23 rfl w1.heap.size 3 Try.underlying23 hi hz hs hb rfl (by decide) rfl (World.ownsRow.alloc (World.ownsRow.alloc HO.out _) _) rfl HSl.out (ints_one [_]) (by omega) (by unfold maxLen; omega) (by omega) (by simp; omega) ?_)
      intro v2 w2 ho hf _ _
      have HO2 : Hid (w2.ownsRow w1.heap.size 3 1 v2 (q + 1) (ints ((R.take (q + 1)).map (·.t)))) := Lib.hid (by rw [HN.out, List.map_take]; exact ho)
      have HF2 : Hid (Fx No w1 w2) := Lib.hid (((HF.out.alloc _).alloc _).trans' hf fun j h1 h2 => by have := (World.ownsRow.lt HO.out j h1).1; omega)
      clear ho hf
      go_wp2
      go_roundw
      case rel => exact ⟨q + 1, by go_num, by omega, HF2.out, HO2.out⟩
      case measure => simp [intOf]; omega
    · obtain rfl : q = R.length := by omega
      have hr : RowI wr w1.heap.size u4 (R.map (·.t)) := RowI.ofOwn (by
        have h1 := HO.out
        rw [List.take_length] at h1
        rw [List.length_map]
        exact h1)
      have HR := Lib.hid hr
      clear hr
      go_wp2_with fail
      refine (compact_any HR.out (by rw [List.length_map]; exact hrl)).mono ?_
      rintro e w2 ⟨v2, rfl, hf, hr⟩
      have HF2 : Hid (Fx No w w2) := Lib.hid ((HF1.out.trans HF.out).trans' hf fun j h1 h2 => by have h1 : w1.heap.size ≤ j := h1; omega)
      have HR2 : Hid (RowI w2 w.heap.size v2 (comp (R.map (·.t)))) := Lib.hid (by
        obtain ⟨ao, cap, h1, h2, h3, h4, h5⟩ := hr
        refine ⟨ao, cap, h1, h2, h3, h4, ?_⟩
        rcases h5 with h5 | ⟨g, h5, h6, h7, h8⟩
        · exact .inl h5
        · exact .inr ⟨g, h5, by omega, h7, h8⟩)
      clear hf hr
      go_wp2
      go_ret
      exact ⟨_, rfl, HF2.out, HR2.out⟩
end
#print axioms gNext_any
end Go.Proofs.Ytcfajeldkioomaa
