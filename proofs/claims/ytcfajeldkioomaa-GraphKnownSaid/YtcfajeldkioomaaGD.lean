/- graph: slices.Delete of one edge from an owned row; slices.Clone. -/
import Derived.Test.YtcfajeldkioomaaGC
namespace Go.Proofs.Ytcfajeldkioomaa
open Go.RowKit
set_option linter.unusedVariables false

theorem zero_edge (w : World) : (zeroValue 25).run Try.prog w = .ok (.agg #[.int .i64 0, .int .i64 0, .int .i64 0]) w := by
  obtain ⟨ii, hi, hz, hs, hb⟩ := info_edge'
  simp [zeroValue, typeInfo, hi, hz]
theorem zero_cells1 : (Builtin.zeroCells (Value.agg #[.int .i64 0, .int .i64 0, .int .i64 0]).cells 1).toList = [.int .i64 0, .int .i64 0, .int .i64 0] := by kernel_rfl
theorem zero_one : One [.int .i64 0, .int .i64 0, .int .i64 0] := ints_one [0, 0, 0]
theorem splice_del {α : Type} (cur xs zs : List α) (i n : Nat) (hi : i < n) (hx : xs.length = n * 3) (hz : zs.length = 3) (hc : n * 3 ≤ cur.length) (hr : cur.take (n * 3) = xs) :
    (splice (splice cur (i * 3) (xs.drop ((i + 1) * 3))) ((n - 1) * 3) zs).take ((n - 1) * 3) = xs.take (i * 3) ++ xs.drop ((i + 1) * 3) := by
  have h1 : (xs.drop ((i + 1) * 3)).length = (n - (i + 1)) * 3 := by rw [List.length_drop, hx, Nat.sub_mul]
  have e1 : cur.take (i * 3) = xs.take (i * 3) := by rw [← hr, List.take_take]; congr 1; omega
  have hA : (xs.take (i * 3)).length = i * 3 := by rw [List.length_take]; omega
  have e2 : (splice cur (i * 3) (xs.drop ((i + 1) * 3))).take ((n - 1) * 3) = xs.take (i * 3) ++ xs.drop ((i + 1) * 3) := by
    unfold splice
    rw [e1, ← List.append_assoc, List.take_append_of_le_length (by simp only [List.length_append]; omega), List.take_of_length_le (by simp only [List.length_append]; omega)]
  have hB : ((splice cur (i * 3) (xs.drop ((i + 1) * 3))).take ((n - 1) * 3)).length = (n - 1) * 3 := by
    rw [e2]; simp only [List.length_append]; omega
  unfold splice at hB e2 ⊢
  rw [List.take_append_of_le_length (by omega), List.take_of_length_le (by omega), e2]
section
variable {w : World} {v : Value} {xs : List Ed}
set_option maxRecDepth 100000 in
set_option maxHeartbeats 1000000 in
theorem delete_any (h : OwnE w v xs) (hl : xs.length ≤ 1000000) {i : Nat} (hi : i < xs.length) :
    Calls Try.prog 64 #[v, .int .i64 (i : Nat), .int .i64 ((i : Int) + 1)] w fun e w' =>
      ∃ v', e = .returned v' ∧ OwnE w' v' (xs.take i ++ xs.drop (i + 1)) ∧ Fx (fun b => v.ownBlock = some b) w w' ∧ v'.ownBlock = v.ownBlock := by
  obtain ⟨g, cap, cur, rfl, _, hg, h1, h2, h3, h4⟩ := ownsRow_open h (by omega)
  obtain ⟨ii, hii, hz, hs, hb⟩ := info_edge'
  have HG := Lib.hid hg
  have HCur := Lib.hid h4
  have hcm : cap ≤ 9223372036854775807 := by unfold maxLen at h2; exact h2
  obtain ⟨n, hn⟩ : ∃ n, n = xs.length := ⟨_, rfl⟩
  rw [← hn] at hi h1 hl HCur ⊢
  have HN := Lib.hid hn
  have hcl3 : n * 3 ≤ cur.length := by rw [h3]; exact Nat.mul_le_mul_right _ h1
  have hdn : Hid (((icells e3 xs).drop ((i + 1) * 3)).length = (n - (i + 1)) * 3) := Lib.hid (by rw [List.length_drop, icells_length e3_len, ← hn, Nat.sub_mul])
  obtain ⟨A, hA, hsrc⟩ : ∃ A : Addr, (if cap = i + 1 then some (⟨g, 0, none⟩ : Addr) else some ⟨g, (i + 1) * 3, none⟩) = some A ∧ Hid (∀ t u, ((icells e3 xs).drop ((i + 1) * 3))[t]? = some u → w.drew.cell? (A.add t) = some u) := by
    by_cases h9 : cap = i + 1
    · refine ⟨⟨g, 0, none⟩, by simp [h9], Lib.hid fun t u hu => ?_⟩
      have h0 : ((icells e3 xs).drop ((i + 1) * 3)).length = 0 := by rw [hdn.out]; omega
      rw [List.length_eq_zero_iff.1 h0] at hu
      simp at hu
    · refine ⟨⟨g, (i + 1) * 3, none⟩, by simp [h9], Lib.hid fun t u hu => ?_⟩
      rw [Addr.add_lit]
      have h5 : w.drew.cell? ⟨g, (i + 1) * 3 + t, none⟩ = cur[(i + 1) * 3 + t]? := cell_row (w := w.drew) HG.out _
      rw [h5]
      rw [List.getElem?_drop, ← HCur.out, List.getElem?_take] at hu
      split at hu
      · exact hu
      · cases hu
  have hone1 : Hid (One ((icells e3 xs).drop ((i + 1) * 3))) := Lib.hid fun u hu => icells_one xs u (List.mem_of_mem_drop hu)
  have hfit1 : Hid (i * 3 + ((icells e3 xs).drop ((i + 1) * 3)).length ≤ cur.length) := Lib.hid (by rw [hdn.out]; omega)
  obtain ⟨N, hN⟩ : ∃ N, n = N + 1 := ⟨n - 1, by omega⟩
  have hNe : i + (n - (i + 1)) = N := by omega
  have hNs : n - N = 1 := by omega
  have hNc : ¬ (cap = N) := by omega
  have hNn : N ≤ n := by omega
  have HNn := Lib.hid hN
  have hfit2 : Hid (N * 3 + ([.int .i64 0, .int .i64 0, .int .i64 0] : List Value).length ≤ (splice cur (i * 3) ((icells e3 xs).drop ((i + 1) * 3))).length) := Lib.hid (by rw [length_splice _ _ _ hfit1.out]; simp; omega)
  have hne : ((i : Int) == (i : Int) + 1) = false := by simp; omega
  have hp0 : (0 : Int) ≤ (i : Int) + 1 := by omega
  have hp1 : (i : Int) + 1 ≤ (n : Int) := by omega
  have hp2 : ((i : Int) + 1).toNat = i + 1 := by omega
  have hic : i ≤ cap := by omega
  have hjc : i + 1 ≤ cap := by omega
  have hjn : i + 1 ≤ n := by omega
  clear h hg h4 hn hN
  go_enter Try.func64, Try.ntmps64
  go_wp2_with fail
  go_region_law (refine step_append_row rfl (.tmp 22) (.tmp 25) 22 rfl 25 3 Try.underlying22 hii hs g i cap (by simp [Act.eval, Act.put]) A (n - (i + 1)) (cap - (i + 1)) (by simp [Act.eval, Act.put]) cur HG.out ((icells e3 xs).drop ((i + 1) * 3)) hdn.out hsrc.out hone1.out (by omega) hfit1.out ?_; intro w2 HG2 HF2)
  go_wp2_with (with_reducible refine wpList_clear_row rfl (.tmp 31) 22 rfl 25 (.agg #[.int .i64 0, .int .i64 0, .int .i64 0]) Try.underlying22 zero_edge g (N * 3) 1 (cap - N) rfl (by decide) _ 25 HG2.out [.int .i64 0, .int .i64 0, .int .i64 0] zero_cells1 zero_one hfit2.out ?_)
  intro w3 HG3 HF3
  have HO : Hid (OwnE w3 (.slice (some ⟨g, 0, none⟩) N cap) (xs.take i ++ xs.drop (i + 1))) := Lib.hid (by
    have hle : (xs.take i ++ xs.drop (i + 1)).length = N := by simp only [List.length_append, List.length_take, List.length_drop, ← HN.out]; omega
    unfold OwnE OwnT
    rw [hle]
    refine ownsRow_shut (by rw [icells_length e3_len, hle]) (Nat.zero_le _) HG3.out (by omega) h2 (by rw [length_splice _ _ _ hfit2.out, length_splice _ _ _ hfit1.out, h3]) ?_
    have h5 := splice_del cur (icells e3 xs) [.int .i64 0, .int .i64 0, .int .i64 0] i n hi (by rw [icells_length e3_len, ← HN.out]) rfl hcl3 HCur.out
    rw [show n - 1 = N by have := HNn.out; omega] at h5
    rw [h5, icells_take, icells_drop, icells_append])
  have HF : Hid (Fx (fun j => j = g) w w3) := Lib.hid (((Fx.refl (fun j => j = g) w).drew.trans HF2.out).trans HF3.out)
  clear HG2 HG3 HF2 HF3
  go_wp2
  go_ret
  exact ⟨_, rfl, HO.out, HF.out.mono fun k _ hk => by show some g = some k; rw [show k = g from hk], rfl⟩
set_option maxRecDepth 100000 in
set_option maxHeartbeats 1000000 in
theorem clone_any {D : Nat → Prop} (h : EdsV w D v xs) (hl : xs.length ≤ 1000000) :
    Calls Try.prog 65 #[v] w fun e w' => ∃ v', e = .returned v' ∧ Fx No w w' ∧ OwnT 25 e3 3 w' w.heap.size v' xs := by
  obtain ⟨ii, hi, hz, hs, hb⟩ := info_edge'
  have H := Lib.hid h
  obtain ⟨ao, cap, rfl, hcl, hcm, hc⟩ := h.facts
  have HC := Lib.hid hc
  clear h hc
  cases ao with
  | none =>
    obtain rfl : xs = [] := by
      rcases xs with _ | ⟨x, xs⟩
      · rfl
      · obtain ⟨_, _, h0, _⟩ := HC.out 0 (by simp)
        cases h0
    have hq : ∀ n W, (binOp .eql 22 (.slice none n cap) (.slice none 0 0)).run Try.prog W = .ok (.bool true) W := fun n W => Lib.run_eql_slice_nil W _ _ none n cap 0 0 Try.underlying22
    go_enter Try.func65, Try.ntmps65
    go_wp2
    go_ret
    exact ⟨_, rfl, Fx.refl _ _, OwnT.nil _ _⟩
  | some ad =>
    have hq : ∀ W, (binOp .eql 22 (.slice (some ad) xs.length cap) (.slice none 0 0)).run Try.prog W = .ok (.bool false) W := fun W => Lib.run_eql_slice_nil W _ _ (some ad) _ cap 0 0 Try.underlying22
    have HO : Hid ((w.alloc (.cells #[] 25)).ownsRow w.heap.size 25 3 (.slice (some ⟨w.heap.size, 0, none⟩) 0 0) 0 []) := Lib.hid ⟨rfl, .inr ⟨_, 0, #[], rfl, Nat.le_refl _, by show (w.heap.push _)[w.heap.size]? = _; simp, Nat.le_refl _, Nat.zero_le _, rfl, rfl⟩⟩
    have HS : Hid (SlV (w.alloc (.cells #[] 25)) D (.slice (some ad) xs.length cap) 3 xs.length (icells e3 xs)) := Lib.hid (H.out.no ((Fx.refl No w).alloc _))
    go_enter Try.func65, Try.ntmps65
    go_wp2_with (at_builtin; refine wpList_append_sl rfl _ _ 22 rfl w.heap.size 25 Try.underlying22 hi hz hs hb rfl (by decide) rfl HO.out rfl HS.out (icells_one _) (by unfold maxLen; omega) (by omega) (by simp) ?_)
    intro v' w1 ho hf _
    have HO2 : Hid (OwnT 25 e3 3 w1 w.heap.size v' xs) := Lib.hid ho
    have HF : Hid (Fx No w w1) := Lib.hid (((Fx.refl No w).alloc _).trans' hf fun j h1 h2 => by
      have h3 : w.heap.size = j := by simpa [Value.ownBlock] using h1
      omega)
    clear ho hf
    go_wp2
    go_ret
    exact ⟨_, rfl, HF.out, HO2.out⟩
end
#print axioms delete_any
#print axioms clone_any
end Go.Proofs.Ytcfajeldkioomaa
