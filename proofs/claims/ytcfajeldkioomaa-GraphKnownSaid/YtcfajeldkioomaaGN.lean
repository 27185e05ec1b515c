/- graph: Copy, Between. -/
import Derived.Test.YtcfajeldkioomaaGM
namespace Go.Proofs.Ytcfajeldkioomaa
open Go.RowKit
set_option linter.unusedVariables false

theorem addL_nil {L : List Ed} (h : Asc L) : addL [] L = L := Asc.same (addL_asc Asc.nil L) h fun x => by rw [mem_addL]; simp
theorem good_mk {n : Nat} {xs : List Ed} (h : ∀ x ∈ xs, (0 ≤ x.f ∧ x.f < (n : Int)) ∧ 0 ≤ x.t ∧ x.t < (n : Int)) : xs.any (badE n) = false := by
  rw [List.any_eq_false]
  intro x hx
  have := h x hx
  simp [badE, this.1, this.2]
section
variable {w w' : World} {D S T E : Nat → Prop} {b n : Nat} {L : List Ed} {v : Value} {xs : List Ed}
set_option maxRecDepth 100000 in
theorem gCopy_any (h : GraphV w D b n L) : Calls Try.prog 23 #[.pointer (some ⟨b, 0, none⟩)] w fun e w' => ∃ b', e = .returned (.pointer (some ⟨b', 0, none⟩)) ∧ Fx No w w' ∧ GraphV w' (Iv w.heap.size w'.heap.size) b' n L := by
  have H := Lib.hid h
  clear h
  go_enter Try.func23, Try.ntmps23
  go_wp2_with fail
  refine (gLen_any H.out).mono ?_
  rintro e w0 ⟨rfl, rfl⟩
  go_wp2_with fail
  refine (gMade_any n w H.out.nn).mono ?_
  rintro e w1 ⟨b1, rfl, hf, hg⟩
  have HF1 := Lib.hid hf
  have HG1 := Lib.hid hg
  have z1 := hf.size
  clear hf hg
  go_wp2_with fail
  refine (gEdges_any (H.out.no HF1.out)).mono ?_
  rintro e w2 ⟨v2, rfl, hf, ho⟩
  have HF2 := Lib.hid hf
  have HO2 := Lib.hid ho
  have z2 := hf.size
  obtain ⟨a2, c2, rfl, _⟩ := EdsV.facts ho.row
  clear hf ho
  go_wp2_with fail
  refine (gAdd_any (HG1.out.no HF2.out) HO2.out.row (fun k hk hd => by have h1 := hk.1; have h2 := hd.2; omega) H.out.ok (good_mk H.out.nodes) (by simpa using H.out.small)).mono ?_
  rintro e w3 ⟨rfl, hf, hg⟩
  have HF3 : Hid (Fx No w w3) := Lib.hid ((HF1.out.trans HF2.out).trans' hf fun j h1 h2 => by have := h1.1; omega)
  have z3 := hf.size
  have HG3 : Hid (GraphV w3 (Iv w.heap.size w3.heap.size) b1 n L) := Lib.hid (by
    rw [addL_nil H.out.asc] at hg
    exact hg.mono (fun k hk => by
      rcases hk with ⟨h1, h2⟩ | ⟨h1, h2⟩
      · exact ⟨h1, by omega⟩
      · exact ⟨by omega, h2⟩) fun k hk => hk.2)
  clear hf hg
  go_wp2
  go_ret
  exact ⟨b1, rfl, HF3.out, HG3.out⟩
set_option maxRecDepth 100000 in
set_option maxHeartbeats 1000000 in
theorem gBetween_any (h : GraphV w D b n L) (m k : Int) : Calls Try.prog 36 #[.pointer (some ⟨b, 0, none⟩), .int .i64 m, .int .i64 k] w fun e w' => ∃ v', e = .returned v' ∧ Fx No w w' ∧ OwnT 25 e3 3 w' w.heap.size v' ((rowI (outE L) n m).filter fun x => decide (x.t = k)) := by
  obtain ⟨ii, hi, hz, hs, hb⟩ := info_edge'
  have H := Lib.hid h
  have hrl : (rowI (outE L) n m).length ≤ 1000000 := by
    unfold rowI
    split
    · exact Nat.le_trans (outE_len L _) h.small
    · simp
  have CO := Lib.hid (gOut_any h m)
  obtain ⟨R, hR⟩ : ∃ R, R = rowI (outE L) n m := ⟨_, rfl⟩
  rw [← hR] at CO hrl ⊢
  clear h hR
  go_enter Try.func36, Try.ntmps36
  go_wp2_with fail
  refine CO.out.mono ?_
  rintro e w1 ⟨v1, rfl, hf, ho⟩
  have HF1 := Lib.hid hf
  have HO1 := Lib.hid ho
  obtain ⟨a1, c1, rfl, hcl, hcm, hc⟩ := EdsV.facts ho.row
  have HC := Lib.hid hc
  have z1 := hf.size
  clear hf ho hc CO
  go_wp2
  go_loopw [6, 13] (fun l i ws => ∃ q : Nat, i = .int .i64 q ∧ q ≤ R.length ∧ Fx No w1 ws ∧ OwnT 25 e3 3 ws w1.heap.size l ((R.take q).filter fun x => decide (x.t = k))) (fun _ i _ => R.length - (intOf i).toNat)
  case atStart => exact ⟨0, rfl, Nat.zero_le _, Fx.refl _ _, by simpa using OwnT.nil _ _⟩
  case round =>
    obtain ⟨q, rfl, hq, hf, ho⟩ := hrel
    have HF := Lib.hid hf
    have HO := Lib.hid ho
    have hzr := hf.size
    clear hf ho
    by_cases hlt : q < R.length
    · obtain ⟨bb, oo, rfl, hbb, p0, p1, p2⟩ := HC.out q hlt
      have HTk := Lib.hid (take_gt hlt)
      obtain ⟨x, hx⟩ : ∃ x, x = gt R q := ⟨_, rfl⟩
      rw [← hx] at p0 p1 p2 HTk
      have k0 := HF.out.cell' p0 (fun h => h)
      have k1 := HF.out.cell' p1 (fun h => h)
      have k2 := HF.out.cell' p2 (fun h => h)
      have hq0 : (0 : Int) ≤ (q : Int) := by omega
      have hq1 : (q : Int) < (R.length : Int) := by omega
      obtain ⟨xs, hxs⟩ : ∃ xs, xs = (R.take q).filter fun x => decide (x.t = k) := ⟨_, rfl⟩
      have hxl : xs.length ≤ q := by rw [hxs]; exact Nat.le_trans (List.length_filter_le _ _) (by rw [List.length_take]; omega)
      rw [← hxs] at HO
      by_cases he : x.t = k
      · have HN : Hid ((R.take (q + 1)).filter (fun x => decide (x.t = k)) = xs ++ [x]) := Lib.hid (by rw [HTk.out, List.filter_append, ← hxs]; simp [he])
        have d1 : (x.t == k) = true := by simpa using he
        obtain ⟨f1, f2, f3⟩ := x
        simp only at he k0 k1 k2 d1
        subst he
        clear p0 p1 p2 hx hxs HTk
        have HSl : Hid (SlV ((wr.alloc (.cells #[.int .i64 f1, .int .i64 f2, .int .i64 f3] 25)).alloc (.cells #[.int .i64 f1, .int .i64 f2, .int .i64 f3] 25)) (fun _ => True) (.slice (some ⟨wr.heap.size + 1, 0, none⟩) 1 1) 3 1 (ints [f1, f2, f3])) := Lib.hid (by
          have h1 := SlV.lit (wr.alloc (.cells #[.int .i64 f1, .int .i64 f2, .int .i64 f3] 25)) 25 #[.int .i64 f1, .int .i64 f2, .int .i64 f3] 3 1 rfl (by unfold maxLen; omega)
          rw [World.size_alloc] at h1
          exact h1)
        go_wp2_with (at_builtin; refine wpList_append_kept rfl _ _ 22 rfl w1.heap.size 25 Try.underlying22 hi hz hs hb rfl (by decide) rfl (World.ownsRow.alloc (World.ownsRow.alloc HO.out _) _) rfl HSl.out (ints_one [_, _, _]) (by omega) (by unfold maxLen; omega) (by omega) (by simp; omega) ?_)
        intro v2 w2 ho hf _ _
        have HO2 : Hid (OwnT 25 e3 3 w2 w1.heap.size v2 ((R.take (q + 1)).filter fun x => decide (x.t = f2))) := Lib.hid (by rw [HN.out]; exact OwnT.snoc ho)
        have HF2 : Hid (Fx No w1 w2) := Lib.hid (((HF.out.alloc _).alloc _).trans' hf fun j h1 h2 => by have := (HO.out.lt h1).1; omega)
        clear ho hf
        go_wp2
        go_roundw
        case rel => exact ⟨q + 1, by go_num, by omega, HF2.out, HO2.out⟩
        case measure => simp [intOf]; omega
      · have HN : Hid ((R.take (q + 1)).filter (fun x => decide (x.t = k)) = xs) := Lib.hid (by rw [HTk.out, List.filter_append, ← hxs]; simp [he])
        have d1 : (x.t == k) = false := by simpa using he
        clear p0 p1 p2 hx hxs HTk
        have HF2 : Hid (Fx No w1 (wr.alloc (.cells #[.int .i64 x.f, .int .i64 x.t, .int .i64 x.l] 25))) := Lib.hid (HF.out.alloc _)
        have HO2 : Hid (OwnT 25 e3 3 (wr.alloc (.cells #[.int .i64 x.f, .int .i64 x.t, .int .i64 x.l] 25)) w1.heap.size u6 ((R.take (q + 1)).filter fun x => decide (x.t = k))) := Lib.hid (by rw [HN.out]; exact OwnT.no HO.out ((Fx.refl No _).alloc _))
        go_wp2
        go_roundw
        case rel => exact ⟨q + 1, by go_num, by omega, HF2.out, HO2.out⟩
        case measure => simp [intOf]; omega
    · obtain rfl : q = R.length := by omega
      go_wp2
      go_ret
      refine ⟨_, rfl, HF1.out.trans HF.out, ?_⟩
      have h1 := HO.out
      rw [List.take_length] at h1
      exact h1.base z1
end
#print axioms gCopy_any
#print axioms gBetween_any
end Go.Proofs.Ytcfajeldkioomaa
