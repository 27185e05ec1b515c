/- The reference of graphs: Some, Next. -/
import Derived.Test.YtcfajeldkioomaaRgE
namespace Go.Proofs.Ytcfajeldkioomaa
open Go.RowKit
set_option linter.unusedVariables false

/-- from a node and to another one (-1: any) -/
def someE (fr to : Int) (x : Ed) : Bool := (decide (fr = -1) || decide (x.f = fr)) && (decide (to = -1) || decide (x.t = to))
def nxStep (n : Int) (out : List Int) (x : Ed) : List Int := if x.f = n ∧ (out = [] ∨ gi out (out.length - 1) ≠ x.t) then out ++ [x.t] else out
/-- to whom the edges from n lead, as the reference tells it -/
def nextL (n : Int) (L : List Ed) : List Int := L.foldl (nxStep n) []
theorem nextL_snoc (n : Int) (L : List Ed) (x : Ed) : nextL n (L ++ [x]) = nxStep n (nextL n L) x := by simp [nextL]
theorem nextL_len (n : Int) (L : List Ed) : (nextL n L).length ≤ L.length := by
  suffices h : ∀ (L : List Ed) (a : List Int), (L.foldl (nxStep n) a).length ≤ a.length + L.length by simpa [nextL] using h L []
  intro L
  induction L with
  | nil => intro a; simp
  | cons x xs ih =>
    intro a
    have h1 := ih (nxStep n a x)
    have h2 : (nxStep n a x).length ≤ a.length + 1 := by unfold nxStep; split <;> simp
    rw [List.foldl_cons, List.length_cons]; omega
theorem ints_append (a b : List Int) : ints (a ++ b) = ints a ++ ints b := by simp [ints]
theorem World.ownsRow.drewN {w : World} {B t s : Nat} {v : Value} {n : Nat} {xs : List Value} (h : w.ownsRow B t s v n xs) (q : Nat) : (w.drewN q).ownsRow B t s v n xs := ownsRow_fx h ((Fx.refl No w).drewN q) fun _ _ h => h
section
variable {w w' : World} {D S E : Nat → Prop} {L xs : List Ed} {v u : Value}
set_option maxRecDepth 100000 in
set_option maxHeartbeats 4000000 in
theorem refSome_any (h : EdsV w D v L) (N fr to : Int) (hl : L.length ≤ 1000000) : Calls Try.prog 53 #[.agg #[.int .i64 N, v], .int .i64 fr, .int .i64 to] w fun e w' => ∃ v', e = .returned v' ∧ Fx No w w' ∧ OwnR w' w.heap.size v' (L.filter (someE fr to)) := by
  obtain ⟨ii, hi, hz, hs, hb⟩ := info_parts info_edge13
  have H := Lib.hid h
  obtain ⟨ao, cap, rfl, _, _, hc⟩ := h.facts
  have HC := Lib.hid hc
  clear h hc
  go_enter Try.func53, Try.ntmps53
  go_wp2_with fail
  refine wp_hold (fun W => Fx No w W ∧ W.cell? ⟨w.heap.size, 1, none⟩ = some (.slice ao L.length cap)) ⟨(Fx.refl No w).alloc _, by go_simp⟩ ?_
  rintro w1 ⟨hF1, c1⟩
  obtain ⟨cb, hcb⟩ : ∃ e, e = w.heap.size := ⟨_, rfl⟩
  rw [← hcb] at c1 ⊢
  have HF1 := Lib.hid hF1
  have HC1 := Lib.hid c1
  have z1 := hF1.size
  clear hF1 c1 hcb
  go_loopw [7, 8] (fun l i ws => ∃ k : Nat, i = .int .i64 k ∧ k ≤ L.length ∧ Fx No w1 ws ∧ OwnR ws w1.heap.size l ((L.take k).filter (someE fr to))) (fun _ i _ => L.length - (intOf i).toNat)
  case atStart => exact ⟨0, rfl, Nat.zero_le _, Fx.refl _ _, by simpa using OwnT.nil _ _⟩
  case round =>
    obtain ⟨k, rfl, hk, hf, ho⟩ := hrel
    have HF := Lib.hid hf
    have HO := Lib.hid ho
    have c1 := hf.cell' HC1.out (fun h => h)
    have hzr := hf.size
    clear hf ho
    by_cases hlt : k < L.length
    · obtain ⟨bb, oo, rfl, _, p0, p1, p2⟩ := HC.out k hlt
      have p0 := HF.out.cell' (HF1.out.cell' p0 (fun h => h)) (fun h => h)
      have p1 := HF.out.cell' (HF1.out.cell' p1 (fun h => h)) (fun h => h)
      have p2 := HF.out.cell' (HF1.out.cell' p2 (fun h => h)) (fun h => h)
      have HTk := Lib.hid (take_gt hlt)
      obtain ⟨x, hx⟩ : ∃ x, x = gt L k := ⟨_, rfl⟩
      rw [← hx] at p0 p1 p2 HTk
      obtain ⟨f1, f2, f3⟩ := x
      simp only at p0 p1 p2
      have hk0 : (0 : Int) ≤ (k : Int) := by omega
      have hk1 : (k : Int) < (L.length : Int) := by omega
      clear hx
      obtain ⟨acc, hacc⟩ : ∃ a, a = (L.take k).filter (someE fr to) := ⟨_, rfl⟩
      have hal : acc.length ≤ k := by rw [hacc]; exact Nat.le_trans (List.length_filter_le _ _) (by rw [List.length_take]; omega)
      rw [← hacc] at HO
      have HAc := Lib.hid hacc.symm
      clear hacc
      by_cases c1' : fr = -1
      · have d1 : (fr == -1) = true := by simpa using c1'
        by_cases c3 : to = -1
        · have d3 : (to == -1) = true := by simpa using c3
          have HN : Hid ((L.take (k + 1)).filter (someE fr to) = acc ++ [⟨f1, f2, f3⟩]) := Lib.hid (by rw [HTk.out, List.filter_append, HAc.out]; simp [someE, c1', c3])
          clear c1' c3
          go_wp2_with (at_builtin; refine wpList_append_kept rfl _ _ 28 rfl w1.heap.size 33 Try.underlying28 hi hz hs hb rfl (by decide) rfl (World.ownsRow.alloc HO.out _) rfl (SlV.lit _ 33 #[.int .i64 f1, .int .i64 f2, .int .i64 f3] 3 1 rfl (by unfold maxLen; omega)) (ints_one [_, _, _]) (by omega) (by unfold maxLen; omega) (by omega) (by simp; omega) ?_)
          intro v2 w2 ho hf _ _
          have HO2 : Hid (OwnR w2 w1.heap.size v2 ((L.take (k + 1)).filter (someE fr to))) := Lib.hid (by rw [HN.out]; exact OwnT.snoc ho)
          have HF2 : Hid (Fx No w1 w2) := Lib.hid ((HF.out.alloc _).trans' hf fun j h1 h2 => by have := (OwnT.lt HO.out h1).1; omega)
          clear ho hf
          go_wp2
          go_roundw
          case rel => exact ⟨k + 1, by go_num, by omega, HF2.out, HO2.out⟩
          case measure => simp [intOf]; omega
        · have d3 : (to == -1) = false := by simpa using c3
          by_cases c4 : f2 = to
          · have d4 : (f2 == to) = true := by simpa using c4
            have HN : Hid ((L.take (k + 1)).filter (someE fr to) = acc ++ [⟨f1, f2, f3⟩]) := Lib.hid (by rw [HTk.out, List.filter_append, HAc.out]; simp [someE, c1', c4])
            clear c1' c4
            go_wp2_with (at_builtin; refine wpList_append_kept rfl _ _ 28 rfl w1.heap.size 33 Try.underlying28 hi hz hs hb rfl (by decide) rfl (World.ownsRow.alloc HO.out _) rfl (SlV.lit _ 33 #[.int .i64 f1, .int .i64 f2, .int .i64 f3] 3 1 rfl (by unfold maxLen; omega)) (ints_one [_, _, _]) (by omega) (by unfold maxLen; omega) (by omega) (by simp; omega) ?_)
            intro v2 w2 ho hf _ _
            have HO2 : Hid (OwnR w2 w1.heap.size v2 ((L.take (k + 1)).filter (someE fr to))) := Lib.hid (by rw [HN.out]; exact OwnT.snoc ho)
            have HF2 : Hid (Fx No w1 w2) := Lib.hid ((HF.out.alloc _).trans' hf fun j h1 h2 => by have := (OwnT.lt HO.out h1).1; omega)
            clear ho hf
            go_wp2
            go_roundw
            case rel => exact ⟨k + 1, by go_num, by omega, HF2.out, HO2.out⟩
            case measure => simp [intOf]; omega
          · have d4 : (f2 == to) = false := by simpa using c4
            have HN : Hid ((L.take (k + 1)).filter (someE fr to) = acc) := Lib.hid (by rw [HTk.out, List.filter_append, HAc.out]; simp [someE, c1', c3, c4])
            clear c1' c3 c4
            go_wp2
            go_roundw
            case rel => exact ⟨k + 1, by go_num, by omega, HF.out, by rw [HN.out]; exact HO.out⟩
            case measure => simp [intOf]; omega
      · have d1 : (fr == -1) = false := by simpa using c1'
        by_cases c2 : f1 = fr
        · have d2 : (f1 == fr) = true := by simpa using c2
          by_cases c3 : to = -1
          · have d3 : (to == -1) = true := by simpa using c3
            have HN : Hid ((L.take (k + 1)).filter (someE fr to) = acc ++ [⟨f1, f2, f3⟩]) := Lib.hid (by rw [HTk.out, List.filter_append, HAc.out]; simp [someE, c2, c3])
            clear c2 c3
            go_wp2_with (at_builtin; refine wpList_append_kept rfl _ _ 28 rfl w1.heap.size 33 Try.underlying28 hi hz hs hb rfl (by decide) rfl (World.ownsRow.alloc HO.out _) rfl (SlV.lit _ 33 #[.int .i64 f1, .int .i64 f2, .int .i64 f3] 3 1 rfl (by unfold maxLen; omega)) (ints_one [_, _, _]) (by omega) (by unfold maxLen; omega) (by omega) (by simp; omega) ?_)
            intro v2 w2 ho hf _ _
            have HO2 : Hid (OwnR w2 w1.heap.size v2 ((L.take (k + 1)).filter (someE fr to))) := Lib.hid (by rw [HN.out]; exact OwnT.snoc ho)
            have HF2 : Hid (Fx No w1 w2) := Lib.hid ((HF.out.alloc _).trans' hf fun j h1 h2 => by have := (OwnT.lt HO.out h1).1; omega)
            clear ho hf
            go_wp2
            go_roundw
            case rel => exact ⟨k + 1, by go_num, by omega, HF2.out, HO2.out⟩
            case measure => simp [intOf]; omega
          · have d3 : (to == -1) = false := by simpa using c3
            by_cases c4 : f2 = to
            · have d4 : (f2 == to) = true := by simpa using c4
              have HN : Hid ((L.take (k + 1)).filter (someE fr to) = acc ++ [⟨f1, f2, f3⟩]) := Lib.hid (by rw [HTk.out, List.filter_append, HAc.out]; simp [someE, c2, c4])
              clear c2 c4
              go_wp2_with (at_builtin; refine wpList_append_kept rfl _ _ 28 rfl w1.heap.size 33 Try.underlying28 hi hz hs hb rfl (by decide) rfl (World.ownsRow.alloc HO.out _) rfl (SlV.lit _ 33 #[.int .i64 f1, .int .i64 f2, .int .i64 f3] 3 1 rfl (by unfold maxLen; omega)) (ints_one [_, _, _]) (by omega) (by unfold maxLen; omega) (by omega) (by simp; omega) ?_)
              intro v2 w2 ho hf _ _
              have HO2 : Hid (OwnR w2 w1.heap.size v2 ((L.take (k + 1)).filter (someE fr to))) := Lib.hid (by rw [HN.out]; exact OwnT.snoc ho)
              have HF2 : Hid (Fx No w1 w2) := Lib.hid ((HF.out.alloc _).trans' hf fun j h1 h2 => by have := (OwnT.lt HO.out h1).1; omega)
              clear ho hf
              go_wp2
              go_roundw
              case rel => exact ⟨k + 1, by go_num, by omega, HF2.out, HO2.out⟩
              case measure => simp [intOf]; omega
            · have d4 : (f2 == to) = false := by simpa using c4
              have HN : Hid ((L.take (k + 1)).filter (someE fr to) = acc) := Lib.hid (by rw [HTk.out, List.filter_append, HAc.out]; simp [someE, c2, c3, c4])
              clear c2 c3 c4
              go_wp2
              go_roundw
              case rel => exact ⟨k + 1, by go_num, by omega, HF.out, by rw [HN.out]; exact HO.out⟩
              case measure => simp [intOf]; omega
        · have d2 : (f1 == fr) = false := by simpa using c2
          have HN : Hid ((L.take (k + 1)).filter (someE fr to) = acc) := Lib.hid (by rw [HTk.out, List.filter_append, HAc.out]; simp [someE, c1', c2])
          clear c1' c2
          go_wp2
          go_roundw
          case rel => exact ⟨k + 1, by go_num, by omega, HF.out, by rw [HN.out]; exact HO.out⟩
          case measure => simp [intOf]; omega
    · obtain rfl : k = L.length := by omega
      go_wp2
      go_ret
      refine ⟨_, rfl, HF1.out.trans HF.out, ?_⟩
      have h1 := HO.out
      rw [List.take_length] at h1
      exact h1.base z1
set_option maxRecDepth 100000 in
set_option maxHeartbeats 4000000 in
theorem refNext_any (h : EdsV w D v L) (N n : Int) (hl : L.length ≤ 1000000) : Calls Try.prog 54 #[.agg #[.int .i64 N, v], .int .i64 n] w fun e w' => ∃ v', e = .returned v' ∧ Fx No w w' ∧ RowI w' w.heap.size v' (nextL n L) := by
  obtain ⟨ii, hi, hz, hs, hb⟩ := info_parts info_int'
  have H := Lib.hid h
  obtain ⟨ao, cap, rfl, _, _, hc⟩ := h.facts
  have HC := Lib.hid hc
  clear h hc
  go_enter Try.func54, Try.ntmps54
  go_wp2_with fail
  refine wp_hold (fun W => Fx No w W ∧ W.cell? ⟨w.heap.size, 1, none⟩ = some (.slice ao L.length cap)) ⟨(Fx.refl No w).alloc _, by go_simp⟩ ?_
  rintro w1 ⟨hF1, c1⟩
  obtain ⟨cb, hcb⟩ : ∃ e, e = w.heap.size := ⟨_, rfl⟩
  rw [← hcb] at c1 ⊢
  have HF1 := Lib.hid hF1
  have HC1 := Lib.hid c1
  have z1 := hF1.size
  clear hF1 c1 hcb
  go_loopw [5, 6] (fun l i ws => ∃ k : Nat, i = .int .i64 k ∧ k ≤ L.length ∧ Fx No w1 ws ∧ ws.ownsRow w1.heap.size 3 1 l (nextL n (L.take k)).length (ints (nextL n (L.take k)))) (fun _ i _ => L.length - (intOf i).toNat)
  case atStart => exact ⟨0, rfl, Nat.zero_le _, Fx.refl _ _, by simpa [nextL, ints] using World.ownsRow_nil _ _ _ _⟩
  case round =>
    obtain ⟨k, rfl, hk, hf, ho⟩ := hrel
    have HF := Lib.hid hf
    have HO := Lib.hid ho
    have c1 := hf.cell' HC1.out (fun h => h)
    have hzr := hf.size
    clear hf ho
    by_cases hlt : k < L.length
    · obtain ⟨bb, oo, rfl, _, p0, p1, p2⟩ := HC.out k hlt
      have p0 := HF.out.cell' (HF1.out.cell' p0 (fun h => h)) (fun h => h)
      have p1 := HF.out.cell' (HF1.out.cell' p1 (fun h => h)) (fun h => h)
      have p2 := HF.out.cell' (HF1.out.cell' p2 (fun h => h)) (fun h => h)
      have HTk := Lib.hid (take_gt hlt)
      obtain ⟨x, hx⟩ : ∃ x, x = gt L k := ⟨_, rfl⟩
      rw [← hx] at p0 p1 p2 HTk
      obtain ⟨f1, f2, f3⟩ := x
      simp only at p0 p1 p2
      have hk0 : (0 : Int) ≤ (k : Int) := by omega
      have hk1 : (k : Int) < (L.length : Int) := by omega
      clear hx
      have hal := nextL_len n (L.take k)
      rw [List.length_take] at hal
      obtain ⟨acc, hacc⟩ : ∃ a, a = nextL n (L.take k) := ⟨_, rfl⟩
      rw [← hacc] at HO hal
      have HAc := Lib.hid hacc.symm
      have hal2 : acc.length ≤ 1000000 := by omega
      clear hacc
      by_cases c2 : f1 = n
      · have d2 : (f1 == n) = true := by simpa using c2
        have hri := RowI.toInts (RowI.ofOwn HO.out)
        obtain ⟨ro, rc, rfl, _, hrc⟩ := IntsV.facts hri
        by_cases c3 : acc.length = 0
        · have d3 : ((acc.length : Int) == 0) = true := by simpa using c3
          have hae : acc = [] := List.eq_nil_of_length_eq_zero c3
          have HAe := Lib.hid hae
          clear hri hrc hae c3
          have HN : Hid (nextL n (L.take (k + 1)) = acc ++ [f2]) := Lib.hid (by rw [HTk.out, nextL_snoc, HAc.out]; unfold nxStep; simp [c2, HAe.out])
          clear c2
          go_wp2_with fail
          go_quiet (fail)
          all_goals
            have HFy : Hid (Fx No w1 (wr.drewN nq)) := Lib.hid (HF.out.drewN nq)
            have HOy : Hid ((wr.drewN nq).ownsRow w1.heap.size 3 1 (.slice ro acc.length rc) acc.length (ints acc)) := Lib.hid (ownsRow_fx HO.out ((Fx.refl No wr).drewN nq) fun _ _ h => h)
            have hzy := HFy.out.size
            have c1 := ((Fx.refl No wr).drewN nq).cell' c1 (fun h => h)
            have p1 := ((Fx.refl No wr).drewN nq).cell' p1 (fun h => h)
            generalize wr.drewN nq = wy at *
            go_wp2_with (at_builtin; refine wpList_append_kept rfl _ _ 23 rfl w1.heap.size 3 Try.underlying23 hi hz hs hb rfl (by decide) rfl (World.ownsRow.alloc HOy.out _) rfl (SlV.lit _ 3 #[.int .i64 f2] 1 1 rfl (by unfold maxLen; omega)) (ints_one [_]) (by omega) (by unfold maxLen; omega) (by omega) (by simp; omega) ?_)
            intro v2 w2 ho hf _ _
            have HO2 : Hid (w2.ownsRow w1.heap.size 3 1 v2 (nextL n (L.take (k + 1))).length (ints (nextL n (L.take (k + 1))))) := Lib.hid (by rw [HN.out, List.length_append, ints_append]; exact ho)
            have HF2 : Hid (Fx No w1 w2) := Lib.hid ((HFy.out.alloc _).trans' hf fun j h1 h2 => by have := (World.ownsRow.lt HOy.out j h1).1; omega)
            clear ho hf
            go_wp2
            go_roundw
            case rel => exact ⟨k + 1, by go_num, by omega, HF2.out, HO2.out⟩
            case measure => simp [intOf]; omega
        · obtain ⟨p, hp⟩ : ∃ p, acc.length = p + 1 := ⟨acc.length - 1, by omega⟩
          have d3 : ((acc.length : Int) == 0) = false := by simpa using fun h => c3 (by simpa using h)
          obtain ⟨rb, ri, rfl, _, r1⟩ := hrc p (by omega)
          have hpl : gi acc p = gi acc (acc.length - 1) := by rw [hp]; rfl
          obtain ⟨y, hy⟩ : ∃ y, y = gi acc p := ⟨_, rfl⟩
          rw [← hy] at r1 hpl
          have y1 : IntKind.i64.wrap ((acc.length : Int) - 1) = (p : Int) := by rw [IntWalk.i64_in _ (by omega)]; omega
          have hp0 : (0 : Int) ≤ (p : Int) := by omega
          have hp1 : (p : Int) < (acc.length : Int) := by omega
          have HPl := Lib.hid hpl
          have HNe : Hid (acc ≠ []) := Lib.hid (fun h => c3 (by rw [h]; rfl))
          clear hri hrc hy hpl hp c3
          by_cases c4 : y = f2
          · have d4 : (y != f2) = false := by simpa using c4
            have HN : Hid (nextL n (L.take (k + 1)) = acc) := Lib.hid (by rw [HTk.out, nextL_snoc, HAc.out]; unfold nxStep; simp [c2, HNe.out, ← HPl.out, c4])
            clear c2 c4
            go_wp2_with fail
            go_quiet (fail)
            all_goals
              go_wp2
              go_roundw
              case rel => exact ⟨k + 1, by go_num, by omega, HF.out.drewN _, by rw [HN.out]; exact World.ownsRow.drewN HO.out _⟩
              case measure => simp [intOf]; omega
          · have d4 : (y != f2) = true := by simpa using c4
            have HN : Hid (nextL n (L.take (k + 1)) = acc ++ [f2]) := Lib.hid (by rw [HTk.out, nextL_snoc, HAc.out]; unfold nxStep; simp [c2, HNe.out, ← HPl.out, c4])
            clear c2 c4
            go_wp2_with fail
            go_quiet (fail)
            all_goals
              have HFy : Hid (Fx No w1 (wr.drewN nq)) := Lib.hid (HF.out.drewN nq)
              have HOy : Hid ((wr.drewN nq).ownsRow w1.heap.size 3 1 (.slice (some ⟨rb, ri, none⟩) acc.length rc) acc.length (ints acc)) := Lib.hid (ownsRow_fx HO.out ((Fx.refl No wr).drewN nq) fun _ _ h => h)
              have hzy := HFy.out.size
              have c1 := ((Fx.refl No wr).drewN nq).cell' c1 (fun h => h)
              have p1 := ((Fx.refl No wr).drewN nq).cell' p1 (fun h => h)
              generalize wr.drewN nq = wy at *
              go_wp2_with (at_builtin; refine wpList_append_kept rfl _ _ 23 rfl w1.heap.size 3 Try.underlying23 hi hz hs hb rfl (by decide) rfl (World.ownsRow.alloc HOy.out _) rfl (SlV.lit _ 3 #[.int .i64 f2] 1 1 rfl (by unfold maxLen; omega)) (ints_one [_]) (by omega) (by unfold maxLen; omega) (by omega) (by simp; omega) ?_)
              intro v2 w2 ho hf _ _
              have HO2 : Hid (w2.ownsRow w1.heap.size 3 1 v2 (nextL n (L.take (k + 1))).length (ints (nextL n (L.take (k + 1))))) := Lib.hid (by rw [HN.out, List.length_append, ints_append]; exact ho)
              have HF2 : Hid (Fx No w1 w2) := Lib.hid ((HFy.out.alloc _).trans' hf fun j h1 h2 => by have := (World.ownsRow.lt HOy.out j h1).1; omega)
              clear ho hf
              go_wp2
              go_roundw
              case rel => exact ⟨k + 1, by go_num, by omega, HF2.out, HO2.out⟩
              case measure => simp [intOf]; omega
      · have d2 : (f1 == n) = false := by simpa using c2
        have HN : Hid (nextL n (L.take (k + 1)) = acc) := Lib.hid (by rw [HTk.out, nextL_snoc, HAc.out]; unfold nxStep; simp [c2])
        clear c2
        go_wp2_with fail
        go_quiet (fail)
        all_goals
          go_wp2
          go_roundw
          case rel => exact ⟨k + 1, by go_num, by omega, HF.out.drewN _, by rw [HN.out]; exact World.ownsRow.drewN HO.out _⟩
          case measure => simp [intOf]; omega
    · obtain rfl : k = L.length := by omega
      have hr : RowI wr w1.heap.size u5 (nextL n L) := by
        have h1 := HO.out
        rw [List.take_length] at h1
        exact RowI.ofOwn h1
      have HR := Lib.hid hr
      clear hr
      go_wp2
      go_ret
      refine ⟨_, rfl, HF1.out.trans HF.out, ?_⟩
      obtain ⟨ao, cap, h1, h2, h3, h4, h5⟩ := HR.out
      refine ⟨ao, cap, h1, h2, h3, h4, ?_⟩
      rcases h5 with h5 | ⟨g, h5, h6, h7, h8⟩
      · exact .inl h5
      · exact .inr ⟨g, h5, by omega, h7, h8⟩
end
#print axioms refSome_any
#print axioms refNext_any
end Go.Proofs.Ytcfajeldkioomaa
