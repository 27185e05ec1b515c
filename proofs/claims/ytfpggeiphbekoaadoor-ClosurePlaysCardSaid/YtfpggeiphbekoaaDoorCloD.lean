/- closure: Least. -/
import Derived.Test.YtfpggeiphbekoaaDoorCloC
namespace Go.Proofs.YtfpggeiphbekoaaDoor
open Go.RowKit
set_option linter.unusedVariables false

section
variable {w w' : World} {D S : Nat → Prop} {n : Nat} {dn up ed : Nat → Nat} {k : CC}
/-- the edges that are needed -/
def leastL (n : Nat) (dn ed : Nat → Nat) : List (Int × Int) := if cycB n dn = true then [] else (edgesTo n ed n).filter fun q => neededB n dn ed q.1 q.2
set_option maxRecDepth 100000 in
set_option maxHeartbeats 2000000 in
theorem least_any (h : Clo w D n dn up ed k) (hT : TabOk w) : Calls Tryd.prog 25 #[.pointer (some ⟨k.b, 0, none⟩)] w fun e w' => ∃ v, e = .returned v ∧ Fx No w w' ∧ OwnP w' w.heap.size v (leastL n dn ed) := by
  obtain ⟨ii, hi, hz, hs, hb⟩ := info_parts info_pair
  have H := Lib.hid h
  have HT := Lib.hid hT
  have hle := h.le
  clear h hT
  go_enter Tryd.func25, Tryd.ntmps25
  go_wp2_with fail
  refine (cyclic_any H.out).mono ?_
  rintro e w1 ⟨rfl, hf⟩
  have HF := Lib.hid hf
  clear hf
  have HLe : Hid (leastL n dn ed = if cycB n dn = true then [] else (edgesTo n ed n).filter fun q => neededB n dn ed q.1 q.2) := Lib.hid rfl
  obtain ⟨cy, hcy⟩ : ∃ x, x = cycB n dn := ⟨_, rfl⟩
  rw [← hcy] at HLe ⊢
  clear hcy
  cases cy
  · have HLe : Hid (leastL n dn ed = (edgesTo n ed n).filter fun q => neededB n dn ed q.1 q.2) := by have := HLe.out; rw [if_neg (by simp)] at this; exact Lib.hid this
    go_wp2_with fail
    refine (edges_any (H.out.no HF.out) (HT.out.keep HF.out (fun h => h))).mono ?_
    rintro e w2 ⟨v, rfl, hf, ho⟩
    have hel := edgesTo_len n ed n
    have hnn : n * n ≤ 1024 * 1024 := Nat.mul_le_mul hle hle
    obtain ⟨xs, hxs⟩ : ∃ xs, xs = edgesTo n ed n := ⟨_, rfl⟩
    rw [← hxs] at HLe ho hel
    obtain ⟨vo, vc, rfl, _, _, hcc⟩ := PairsV.facts ho.row
    have HC := Lib.hid hcc
    have hzb := hf.size
    have hz1 := HF.out.size
    have HF2 := Lib.hid (HF.out.trans hf)
    clear hf ho hcc hxs
    go_wp2
    obtain ⟨wo, hwo⟩ : ∃ wo, wo = w2 := ⟨_, rfl⟩
    subst hwo
    go_loopw [2, 4, 10] (fun l _ i ws => ∃ q : Nat, i = .int .i64 q ∧ q ≤ xs.length ∧ Fx No wo ws ∧ OwnP ws wo.heap.size l ((xs.take q).filter fun q => neededB n dn ed q.1 q.2)) (fun _ _ i _ => xs.length - (intOf i).toNat)
    case atStart => exact ⟨0, rfl, Nat.zero_le _, Fx.refl _ _, OwnT.nil _ _⟩
    case round =>
      obtain ⟨q, rfl, hq, hf, ho⟩ := hrel
      have HFq := Lib.hid hf
      have HO := Lib.hid ho
      have hzq := hf.size
      clear hf ho
      by_cases hql : q < xs.length
      · obtain ⟨bq, oq, rfl, _, c1, c2⟩ := HC.out q hql
        have c1 := HFq.out.cell' c1 (fun h => h)
        have c2 := HFq.out.cell' c2 (fun h => h)
        obtain ⟨x, hx⟩ : ∃ x, x = (gt xs q).1 := ⟨_, rfl⟩
        obtain ⟨y, hy⟩ : ∃ x, x = (gt xs q).2 := ⟨_, rfl⟩
        rw [← hx] at c1
        rw [← hy] at c2
        have HG : Hid (xs.take (q + 1) = xs.take q ++ [(x, y)]) := Lib.hid (by rw [take_gt hql, show gt xs q = (x, y) from Prod.ext hx.symm hy.symm])
        have hlen : ((xs.take q).filter fun q => neededB n dn ed q.1 q.2).length ≤ 1048576 := by
          refine Nat.le_trans (List.length_filter_le _ _) ?_
          rw [List.length_take]; omega
        obtain ⟨ys, hys⟩ : ∃ ys, ys = (xs.take q).filter fun q => neededB n dn ed q.1 q.2 := ⟨_, rfl⟩
        rw [← hys] at hlen HO
        have HY := Lib.hid hys
        clear hx hy hys
        go_wp2_with fail
        refine (needed_any (H.out.no ((HF2.out.trans HFq.out).alloc _)) (HT.out.keep ((HF2.out.trans HFq.out).alloc _) (fun h => h)) x y).mono ?_
        rintro e w3 ⟨rfl, hf⟩
        have hxc : w3.cell? ⟨wr.heap.size, 0, none⟩ = some (.int .i64 x) := hf.cell' (by simp) (fun h => h)
        have hyc : w3.cell? ⟨wr.heap.size, 1, none⟩ = some (.int .i64 y) := hf.cell' (by simp) (fun h => h)
        have HF3 := Lib.hid ((HFq.out.alloc _).trans hf)
        have HO3 := Lib.hid ((HO.out.no ((Fx.refl No wr).alloc _)).no hf)
        have hz3 := hf.size
        simp only [World.size_alloc] at hz3
        obtain ⟨N, hN⟩ : ∃ t, t = neededB n dn ed x y := ⟨_, rfl⟩
        rw [← hN]
        have HN := Lib.hid hN
        clear hf hN
        cases N
        · have HG2 : Hid (((xs.take (q + 1)).filter fun q => neededB n dn ed q.1 q.2) = ys) := Lib.hid (by rw [HG.out, List.filter_append, ← HY.out]; simp [← HN.out])
          go_wp2
          go_roundw
          case rel => exact ⟨q + 1, by go_num, by omega, HF3.out, by rw [HG2.out]; exact HO3.out⟩
          case measure => simp [intOf]; omega
        · have HG2 : Hid (((xs.take (q + 1)).filter fun q => neededB n dn ed q.1 q.2) = ys ++ [(x, y)]) := Lib.hid (by rw [HG.out, List.filter_append, ← HY.out]; simp [← HN.out])
          go_wp2_with (at_builtin; refine wpList_append_sl rfl _ _ 22 rfl wo.heap.size 33 Tryd.underlying22 hi hz hs hb rfl (by decide) rfl (World.ownsRow.alloc HO3.out _) rfl (SlV.lit _ 33 #[.int .i64 _, .int .i64 _] 2 1 rfl (by unfold maxLen; omega)) (ints_one [_, _]) (by unfold maxLen; omega) (by omega) (by simp; omega) ?_)
          intro v' w4 ho hfx _
          have HO4 : Hid (OwnP w4 wo.heap.size v' ((xs.take (q + 1)).filter fun q => neededB n dn ed q.1 q.2)) := Lib.hid (by rw [HG2.out]; exact OwnT.snoc ho)
          have HF4 : Hid (Fx No wo w4) := Lib.hid ((HF3.out.alloc _).trans' hfx fun g e hl => by have := (World.ownsRow.lt HO3.out g e).1; omega)
          clear ho hfx
          go_wp2
          go_roundw
          case rel => exact ⟨q + 1, by go_num, by omega, HF4.out, HO4.out⟩
          case measure => simp [intOf]; omega
      · obtain rfl : q = xs.length := by omega
        have HO2 : Hid (OwnP wr wo.heap.size u2 (leastL n dn ed)) := Lib.hid (by rw [HLe.out]; have := HO.out; rw [List.take_length] at this; exact this)
        have hzz : w.heap.size ≤ wo.heap.size := by omega
        go_wp2
        go_ret
        exact ⟨_, rfl, HF2.out.trans HFq.out, HO2.out.base hzz⟩
  · have HLe : Hid (leastL n dn ed = []) := by have := HLe.out; rw [if_pos rfl] at this; exact Lib.hid this
    go_wp2
    go_ret
    exact ⟨_, rfl, HF.out, by rw [HLe.out]; exact OwnT.nil _ _⟩
end
#print axioms least_any
end Go.Proofs.YtfpggeiphbekoaaDoor
