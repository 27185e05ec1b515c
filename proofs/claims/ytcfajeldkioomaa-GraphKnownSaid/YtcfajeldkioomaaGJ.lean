/- graph: slices.Grow of nil, slices.Concat, Edges. -/
import Derived.Test.YtcfajeldkioomaaGI
namespace Go.Proofs.Ytcfajeldkioomaa
open Go.RowKit
set_option linter.unusedVariables false

def catR (rr : Nat → List Ed) (n : Nat) : List Ed := (List.range n).flatMap rr
theorem catR_succ (rr : Nat → List Ed) (n : Nat) : catR rr (n + 1) = catR rr n ++ rr n := by simp [catR, List.range_succ]
theorem catR_mono (rr : Nat → List Ed) {k n : Nat} (h : k ≤ n) : (catR rr k).length ≤ (catR rr n).length := by
  induction n with
  | zero => obtain rfl : k = 0 := by omega
            exact Nat.le_refl _
  | succ n ih =>
    by_cases hk : k = n + 1
    · subst hk; exact Nat.le_refl _
    · have := ih (by omega)
      rw [catR_succ, List.length_append]; omega
section
variable {w w' : World} {D S T : Nat → Prop} {b n : Nat} {L : List Ed}
set_option maxRecDepth 100000 in
theorem grow_any (n : Nat) (w : World) (hn : n ≤ 1000000) : Calls Try.prog 66 #[.slice none 0 0, .int .i64 (n : Nat)] w fun e w' => ∃ v', e = .returned v' ∧ Fx No w w' ∧ OwnT 25 e3 3 w' w.heap.size v' [] := by
  have d0 : decide ((n : Int) < 0) = false := decide_eq_false (by omega)
  by_cases h0 : n = 0
  · subst h0
    go_enter Try.func66, Try.ntmps66
    go_wp2
    go_ret
    exact ⟨_, rfl, Fx.refl _ _, OwnT.nil _ _⟩
  · obtain ⟨ii, hi, hz, hs, hb⟩ := info_edge'
    have hrun : ∀ ty, (Builtin.append_ #[22, 3] ty #[.slice none 0 0, .int .i64 n]).run Try.prog w = _ := fun ty => Lib.run_append_nil_zeros (P := Try.prog) w 22 3 ty 25 ii _ .i64 .i64 Try.underlying22 Try.underlying3 hi hz n (by omega) (by omega) (by omega) (by rw [hb]; omega)
    obtain ⟨G, hG⟩ : ∃ G, G = grownCap w n 0 25 := ⟨_, rfl⟩
    have hG1 : n ≤ G := by rw [hG]; exact grownCap_ge _ _ _ _
    have hG2 : G ≤ maxLen := by rw [hG]; exact grownCap_le_maxLen _ _ _ _ (by unfold maxLen; omega)
    rw [← hG] at hrun
    obtain ⟨row, hrow⟩ : ∃ row : Array Value, row = Builtin.zeroCells (Value.agg #[.int .i64 0, .int .i64 0, .int .i64 0]).cells n ++ Builtin.zeroCells (Value.agg #[.int .i64 0, .int .i64 0, .int .i64 0]).cells (G - n) := ⟨_, rfl⟩
    have hrl : row.size = G * 3 := by
      have hsz : (Value.agg #[.int .i64 0, .int .i64 0, .int .i64 0]).cells.size = 3 := rfl
      rw [hrow, Array.size_append, size_zeroCells, size_zeroCells, hsz]; omega
    rw [← hrow] at hrun
    have d1 : decide ((0 : Int) < (n : Int)) = true := decide_eq_true (by omega)
    have hG3 : G ≤ 9223372036854775807 := by unfold maxLen at hG2; exact hG2
    have HO : Hid (OwnT 25 e3 3 (w.drew.alloc (.cells row 25)) w.heap.size (.slice (some ⟨w.heap.size, 0, none⟩) 0 G) []) := Lib.hid
      ⟨rfl, .inr ⟨w.heap.size, G, row, rfl, Nat.le_refl _, by show (w.heap.push _)[w.heap.size]? = _; simp, Nat.zero_le _, hG2, hrl, by simp; rfl⟩⟩
    have HF : Hid (Fx No w (w.drew.alloc (.cells row 25))) := Lib.hid ((Fx.refl No w).drew.alloc _)
    clear hG hrow hG2
    go_enter Try.func66, Try.ntmps66
    go_wp2_with (at_builtin; refine Lib.wpList_append_run _ rfl _ _ _ _ rfl _ _ rfl rfl _ _ (hrun _) ?_)
    go_ret
    exact ⟨_, rfl, HF.out, HO.out⟩
set_option maxRecDepth 100000 in
set_option maxHeartbeats 1000000 in
theorem concat_any {sb : Nat} {rr : Nat → List Ed} (h : RowsV w D sb n rr) (hn : n ≤ 70000) (hl : (catR rr n).length ≤ 1000000) :
    Calls Try.prog 57 #[.slice (some ⟨sb, 0, none⟩) n n] w fun e w' => ∃ v', e = .returned v' ∧ Fx No w w' ∧ OwnT 25 e3 3 w' w.heap.size v' (catR rr n) := by
  obtain ⟨ii, hi, hz, hs, hb⟩ := info_edge'
  have H := Lib.hid h
  clear h
  go_enter Try.func57, Try.ntmps57
  go_wp2
  go_loop [3, 11] (fun s i => ∃ k : Nat, i = .int .i64 k ∧ k ≤ n ∧ s = .int .i64 ((catR rr k).length : Nat)) (fun _ i => n - (intOf i).toNat)
  case atStart => exact ⟨0, rfl, Nat.zero_le _, rfl⟩
  case round =>
    obtain ⟨k, rfl, hk, rfl⟩ := hrel
    by_cases hlt : k < n
    · obtain ⟨v, hv, hr⟩ := H.out.rowAt hlt
      obtain ⟨ao, cap, rfl, hcl, hcm, _⟩ := EdsV.facts hr
      have hk0 : (0 : Int) ≤ (k : Int) := by omega
      have hk1 : (k : Int) < (n : Int) := by omega
      have hs1 := catR_succ rr k
      have hm := catR_mono rr (show k + 1 ≤ n from hlt)
      rw [hs1, List.length_append] at hm
      obtain ⟨A, hA⟩ : ∃ A, A = (catR rr k).length := ⟨_, rfl⟩
      obtain ⟨B, hB⟩ : ∃ A, A = (rr k).length := ⟨_, rfl⟩
      rw [← hA, ← hB] at hm
      rw [← hB] at hv hcl
      rw [← hA]
      have HS : Hid ((catR rr (k + 1)).length = A + B) := Lib.hid (by rw [hs1, List.length_append, hA, hB])
      have d1 : decide ((A : Int) + (B : Int) < 0) = false := decide_eq_false (by omega)
      have hw : IntKind.i64.wrap ((A : Int) + (B : Int)) = (A : Int) + (B : Int) := by rw [IntKind.wrap_i64]; omega
      clear hr hs1 hA hB
      go_wp2
      go_round
      case rel => exact ⟨k + 1, by go_num, by omega, by rw [HS.out]; go_num⟩
      case measure => simp [intOf]; omega
    · obtain rfl : k = n := by omega
      go_wp2_with fail
      refine (grow_any (catR rr k).length w hl).mono ?_
      rintro e w1 ⟨v1, rfl, hf, ho⟩
      have HF1 := Lib.hid hf
      have HO1 := Lib.hid ho
      clear hf ho
      go_wp2
      go_loopw [6, 27] (fun l i ws => ∃ q : Nat, i = .int .i64 q ∧ q ≤ k ∧ Fx No w ws ∧ OwnT 25 e3 3 ws w.heap.size l (catR rr q)) (fun _ i _ => k - (intOf i).toNat)
      case atStart => exact ⟨0, rfl, Nat.zero_le _, HF1.out, HO1.out⟩
      case round =>
        obtain ⟨q, rfl, hq, hf, ho⟩ := hrel
        have HF := Lib.hid hf
        have HO := Lib.hid ho
        have hzr := hf.size
        clear hf ho
        by_cases hlt : q < k
        · obtain ⟨v, hv, hr⟩ := H.out.rowAt hlt
          have hv' := HF.out.cell' hv (fun h => h)
          have HR := Lib.hid (hr.no HF.out)
          have hk0 : (0 : Int) ≤ (q : Int) := by omega
          have hk1 : (q : Int) < (k : Int) := by omega
          have hs1 := catR_succ rr q
          have hm := catR_mono rr (show q + 1 ≤ k from hlt)
          rw [hs1, List.length_append] at hm
          have HS := Lib.hid hs1
          clear hv hr hs1
          go_wp2_with (at_builtin; refine wpList_append_sl rfl _ _ 22 rfl w.heap.size 25 Try.underlying22 hi hz hs hb rfl (by decide) rfl HO.out rfl HR.out (icells_one _) (by unfold maxLen; omega) (by omega) hzr ?_)
          intro v2 w2 ho hf _
          have HO2 : Hid (OwnT 25 e3 3 w2 w.heap.size v2 (catR rr (q + 1))) := Lib.hid (by
            rw [HS.out]; unfold OwnT; rw [icells_append, List.length_append]; exact ho)
          have HF2 : Hid (Fx No w w2) := Lib.hid (HF.out.trans' hf fun j h1 h2 => by have := (HO.out.lt h1).1; omega)
          clear ho hf
          go_wp2
          go_roundw
          case rel => exact ⟨q + 1, by go_num, by omega, HF2.out, HO2.out⟩
          case measure => simp [intOf]; omega
        · obtain rfl : q = k := by omega
          go_wp2
          go_ret
          exact ⟨_, rfl, HF.out, HO.out⟩
theorem catR_out (L : List Ed) (n : Nat) : catR (outE L) n = catE L n := rfl
theorem gEdges_any (h : GraphV w D b n L) : Calls Try.prog 34 #[.pointer (some ⟨b, 0, none⟩)] w fun e w' => ∃ v', e = .returned v' ∧ Fx No w w' ∧ OwnT 25 e3 3 w' w.heap.size v' L := by
  have H := Lib.hid h
  obtain ⟨ob, ib, mb, DO, DI, hp⟩ := h.ex
  have HP := Lib.hid hp
  have hcat : catR (outE L) n = L := catE_all h.asc fun x hx => (h.nodes x hx).1
  have HCat := Lib.hid hcat
  clear h hp hcat
  go_enter Try.func34, Try.ntmps34
  have c0 := HP.out.c0
  go_wp2_with fail
  refine (concat_any HP.out.outs H.out.nn (by rw [HCat.out]; exact H.out.small)).mono ?_
  rintro e w' ⟨v', rfl, hf, ho⟩
  have HF := Lib.hid hf
  have HO : Hid (OwnT 25 e3 3 w' w.heap.size v' L) := Lib.hid (by rw [HCat.out] at ho; exact ho)
  clear hf ho
  go_wp2
  go_ret
  exact ⟨_, rfl, HF.out, HO.out⟩
end
#print axioms gEdges_any
#print axioms grow_any
#print axioms concat_any
end Go.Proofs.Ytcfajeldkioomaa
