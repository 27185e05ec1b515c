/- graph: Only. -/
import Derived.Test.YtcfajeldkioomaaGQ
namespace Go.Proofs.Ytcfajeldkioomaa
open Go.RowKit
open Go.Maps (Keyed)
set_option linter.unusedVariables false

theorem law_int : Keyed Try.prog 3 := Maps.int_keyed Try.underlying3
theorem key_int {x : Int} (h : Ok64 x) : keyOf Try.prog 3 (.int .i64 x) = some (.int .i64 x) := Maps.keyOf_int_mk Try.underlying3 (wf64 h)
theorem zero_bool (w : World) : (zeroValue 4).run Try.prog w = .ok (.bool false) w := by kernel_rfl
noncomputable abbrev boolR : Value → Option (DataW Unit × List MemPlace) := plainElem (H := Unit) Try.prog 4
/-- a set of numbers behind a map -/
def SetM (w : World) (mb : Nat) (zs : List Int) : Prop := ∃ D : DataW Unit, w.ownsMap Try.prog 3 boolR mb zs.length D ∧ ∀ x, Ok64 x → D.atKey (.int .i64 x) (.lit (.bool false)) = .lit (.bool (decide (x ∈ zs)))
theorem bool_inv {v : Value} {b : Bool} {ps : List MemPlace} (h : boolR v = some (.lit (.bool b), ps)) : v = .bool b := by
  have hu := Try.underlying4
  unfold boolR plainElem at h
  revert h
  generalize Try.prog.underlying 4 = u at hu ⊢
  subst hu
  intro h
  cases v <;> simp at h
  rw [h.1]
section
variable {w w' : World} {S : Nat → Prop} {mb : Nat} {zs : List Int}
theorem SetM.keep (h : SetM w mb zs) (hf : Fx S w w') (hn : ¬ S mb) : SetM w' mb zs := by
  obtain ⟨D, h1, h2⟩ := h
  exact ⟨D, own_fx h1 hf hn, h2⟩
theorem SetM.made (w : World) : SetM (w.alloc (.map #[] 0)) w.heap.size [] := ⟨_, World.ownsMap_made w _ _ _, fun x _ => by simp [DataW.atKey]⟩
theorem SetM.look (h : SetM w mb zs) {x : Int} (hx : Ok64 x) : (Instr.lookup 87 (.map (some mb)) (.int .i64 x) false).run Try.prog w = .ok (.bool (decide (x ∈ zs))) w := by
  obtain ⟨D, h1, h2⟩ := h
  obtain ⟨v, ps, hr, hv⟩ := h1.lookup law_int Try.underlying87 (zero_bool w) (plainElem_bool Try.underlying4 false) (key_int hx)
  rw [h2 x hx] at hv
  rw [hr, bool_inv hv]
theorem SetM.put {x : Int} {D : DataW Unit} (hm : Maps.IsMap D) (hx : Ok64 x) (h2 : ∀ x, Ok64 x → D.atKey (.int .i64 x) (.lit (.bool false)) = .lit (.bool (decide (x ∈ zs)))) (h1 : w.ownsMap Try.prog 3 boolR mb (zs.length + 1) (D.put (.int .i64 x) (.lit (.bool true)))) : SetM w mb (zs ++ [x]) := by
  refine ⟨_, by rw [List.length_append]; exact h1, fun y hy => ?_⟩
  by_cases h : y = x
  · subst h
    rw [Maps.atKey_put_same hm (law_int.key (key_int hx))]
    simp
  · rw [Maps.atKey_put_other (by simpa using h), h2 y hy]
    simp [h]
section
variable {D E : Nat → Prop} {b n : Nat} {L : List Ed} {v : Value}
/-- an edge between nodes that are named -/
def namedE (zs : List Int) (x : Ed) : Bool := decide (x.f ∈ zs) && decide (x.t ∈ zs)
set_option maxRecDepth 100000 in
set_option maxHeartbeats 4000000 in
theorem gOnly_any (h : GraphV w D b n L) (hz : IntsV w E v zs) (hok : ∀ x ∈ zs, Ok64 x) (hl : zs.length ≤ 1000000) : Calls Try.prog 12 #[.pointer (some ⟨b, 0, none⟩), v] w fun e w' => ∃ b', e = .returned (.pointer (some ⟨b', 0, none⟩)) ∧ Fx No w w' ∧ ∃ D', GraphV w' D' b' n (L.filter (namedE zs)) ∧ ∀ x, D' x → w.heap.size ≤ x := by
  have H := Lib.hid h
  obtain ⟨ao, cap, rfl, hcl, hc⟩ := IntsV.facts hz
  have HC := Lib.hid hc
  have HOk := Lib.hid hok
  have hmm := @run_makeMap Try.prog
  clear h hz hc hok
  go_enter Try.func12, Try.ntmps12
  go_wp2
  obtain ⟨mb, hmb⟩ : ∃ m, m = w.heap.size := ⟨_, rfl⟩
  rw [← hmb]
  have HMb := Lib.hid hmb
  have HS0 : Hid (SetM (w.alloc (.map #[] 0)) mb []) := Lib.hid (by rw [hmb]; exact SetM.made w)
  have HF0 : Hid (Fx No w (w.alloc (.map #[] 0))) := Lib.hid ((Fx.refl No w).alloc _)
  clear hmb hmm
  go_loopw [16] (fun i ws => ∃ k : Nat, i = .int .i64 k ∧ k ≤ zs.length ∧ Fx No w ws ∧ SetM ws mb (zs.take k) ∧ mb < ws.heap.size) (fun i _ => zs.length - (intOf i).toNat)
  case atStart => exact ⟨0, rfl, Nat.zero_le _, HF0.out, HS0.out, by rw [HMb.out]; simp⟩
  case round =>
    obtain ⟨k, rfl, hk, hf, hs, hmw⟩ := hrel
    have HF := Lib.hid hf
    clear hf
    by_cases hlt : k < zs.length
    · obtain ⟨bb, oo, rfl, _, hcell⟩ := HC.out k hlt
      have hc2 := HF.out.cell' hcell (fun h => h)
      have hxo := HOk.out _ (gi_mem hlt)
      have HTk := Lib.hid (take_gi hlt)
      obtain ⟨x, hx⟩ : ∃ x, x = gi zs k := ⟨_, rfl⟩
      rw [← hx] at hc2 hxo HTk
      obtain ⟨D1, hs1, hs2⟩ := hs
      have hi0 : (0 : Int) ≤ (k : Int) := by omega
      have hi1 : (k : Int) < (zs.length : Int) := by omega
      have HS1 := Lib.hid hs1
      have HS2 := Lib.hid hs2
      have hkl : (zs.take k).length = k := by rw [List.length_take]; omega
      clear hcell hx hs1 hs2
      go_wp2_with (at_mapUpdate; refine wpList_mapUpdate_own _ rfl _ _ _ 87 rfl 3 4 law_int Try.underlying87 boolR mb (zs.take k).length D1 rfl HS1.out (by rw [hkl]; unfold maxLen; omega) _ _ (.int .i64 x) rfl rfl (key_int hxo) (.lit (.bool true)) [] (plainElem_bool Try.underlying4 true) ?_)
      intro w1 ho1 hg1
      have HS3 : Hid (SetM w1 mb (zs.take (k + 1))) := Lib.hid (by rw [HTk.out]; exact SetM.put HS1.out.isMap hxo HS2.out (by rw [hkl]; exact ho1))
      have HF1 : Hid (Fx No w w1) := Lib.hid (HF.out.trans' (Fx.ofGrown (S := fun j => j = mb) hg1 fun j hj _ => by simpa using hj.symm) fun j h1 h2 => by have h1 : j = mb := h1; have := HMb.out; omega)
      have hmw1 : mb < w1.heap.size := Nat.lt_of_lt_of_le hmw hg1.size
      clear ho1 hg1
      go_wp2
      go_roundw
      case rel => exact ⟨k + 1, by go_num, by omega, HF1.out, HS3.out, hmw1⟩
      case measure => simp [intOf]; omega
    · obtain rfl : k = zs.length := by omega
      rw [List.take_length] at hs
      have HS := Lib.hid hs
      clear hs
      go_wp2_with fail
      refine (gLen_any (H.out.no HF.out)).mono ?_
      rintro e w0 ⟨rfl, rfl⟩
      go_wp2_with fail
      refine (gMade_any n _ H.out.nn).mono ?_
      rintro e w1 ⟨b1, rfl, hf, hg⟩
      obtain ⟨s0, hs0⟩ : ∃ s, s = wr.heap.size := ⟨_, rfl⟩
      rw [← hs0] at hg hmw
      have hs0w : w.heap.size ≤ s0 := by rw [hs0]; exact HF.out.size
      have hs01 : s0 ≤ w1.heap.size := by rw [hs0]; exact hf.size
      have HF1 := Lib.hid (HF.out.trans hf)
      have HS1 := Lib.hid (HS.out.keep hf (fun h => h))
      have HG1 := Lib.hid hg
      clear hf hg hs0 HF HS HS0 HF0 HC HOk
      go_wp2_with fail
      refine (gEdges_any (H.out.no HF1.out)).mono ?_
      rintro e w2 ⟨v2, rfl, hf, ho⟩
      obtain ⟨a2, c2, rfl, hcl2, hcm2, hc2⟩ := EdsV.facts ho.row
      have HC2 := Lib.hid hc2
      have hs12 := hf.size
      have HF2 := Lib.hid (HF1.out.trans hf)
      have HS2 := Lib.hid (HS1.out.keep hf (fun h => h))
      have HG2 := Lib.hid (HG1.out.no hf)
      clear hf ho hc2
      go_wp2
      go_loopw [29] (fun i ws => ∃ (q : Nat) (D' : Nat → Prop), i = .int .i64 q ∧ q ≤ L.length ∧ Fx (Iv s0 w1.heap.size) w2 ws ∧ GraphV ws D' b1 n ((L.take q).filter (namedE zs)) ∧ ∀ x, D' x → Iv s0 w1.heap.size x ∨ w2.heap.size ≤ x) (fun i _ => L.length - (intOf i).toNat)
      case atStart => exact ⟨0, _, rfl, Nat.zero_le _, Fx.refl _ _, by simpa using HG2.out, fun x hx => .inl hx⟩
      case round =>
        obtain ⟨q, D', rfl, hq, hf, hg, hd⟩ := hrel
        have HFq := Lib.hid hf
        have HGq := Lib.hid hg
        have HDq := Lib.hid hd
        have hsq := hf.size
        clear hf hg hd
        by_cases hlt2 : q < L.length
        · obtain ⟨bb, oo, rfl, hbb, p0, p1, p2⟩ := HC2.out q hlt2
          have hnb : ¬ Iv s0 w1.heap.size bb := fun h => by have h1 := hbb.1; have h2 := h.2; omega
          have k0 := HFq.out.cell' p0 hnb
          have k1 := HFq.out.cell' p1 hnb
          have k2 := HFq.out.cell' p2 hnb
          have hmem := gt_mem hlt2
          have HTk := Lib.hid (take_gt hlt2)
          obtain ⟨x, hx⟩ : ∃ x, x = gt L q := ⟨_, rfl⟩
          rw [← hx] at k0 k1 k2 hmem HTk
          have hox := H.out.ok x hmem
          have hnx := H.out.nodes x hmem
          have hq0 : (0 : Int) ≤ (q : Int) := by omega
          have hq1 : (q : Int) < (L.length : Int) := by omega
          have HMem := Lib.hid hmem
          obtain ⟨M, hM⟩ : ∃ M, M = (L.take q).filter (namedE zs) := ⟨_, rfl⟩
          have hMl : M.length ≤ q := by rw [hM]; exact Nat.le_trans (List.length_filter_le _ _) (by rw [List.length_take]; omega)
          have HMn : Hid ((L.take (q + 1)).filter (namedE zs) = if namedE zs x = true then insE x M else M) := Lib.hid (by
            rw [HTk.out, List.filter_append, ← hM]
            split
            · rename_i hp
              have hal : Asc ((L.take (q + 1)).filter (namedE zs)) := (List.Pairwise.sublist (List.take_sublist _ _) H.out.asc).filter _
              rw [HTk.out, List.filter_append, ← hM] at hal
              have e1 : [x].filter (namedE zs) = [x] := by simp [hp]
              rw [e1] at hal ⊢
              refine Asc.same hal (Asc.ins (List.pairwise_append.1 hal).1) fun y => ?_
              rw [List.mem_append, mem_insE, List.mem_singleton]
              exact or_comm
            · rename_i hp
              simp [hp])
          rw [← hM] at HGq
          have hsm := HS2.out.keep HFq.out (fun h => by have := h.1; omega)
          have hw1 := hsm.keep ((Fx.refl No wr).alloc (.cells #[.int .i64 x.f, .int .i64 x.t, .int .i64 x.l] 25)) (fun h => h)
          have l1 := hw1.look hox.f
          have l2 := hw1.look hox.t
          obtain ⟨t1, ht1⟩ : ∃ t, t = decide (x.f ∈ zs) := ⟨_, rfl⟩
          obtain ⟨t2, ht2⟩ : ∃ t, t = decide (x.t ∈ zs) := ⟨_, rfl⟩
          rw [← ht1] at l1
          rw [← ht2] at l2
          have HNm : Hid (namedE zs x = (t1 && t2)) := Lib.hid (by rw [ht1, ht2]; rfl)
          obtain ⟨f1, f2, f3⟩ := x
          simp only at k0 k1 k2 l1 l2 hnx
          clear p0 p1 p2 hx hM hmem hw1 hsm ht1 ht2 HTk
          cases t1
          · have HR : Hid ((L.take (q + 1)).filter (namedE zs) = M) := Lib.hid (by rw [HMn.out, HNm.out]; rfl)
            go_wp2
            go_roundw
            case rel => exact ⟨q + 1, D', by go_num, by omega, HFq.out.alloc _, by rw [HR.out]; exact HGq.out.no ((Fx.refl No _).alloc _), HDq.out⟩
            case measure => simp [intOf]; omega
          · cases t2
            · have HR : Hid ((L.take (q + 1)).filter (namedE zs) = M) := Lib.hid (by rw [HMn.out, HNm.out]; rfl)
              go_wp2
              go_roundw
              case rel => exact ⟨q + 1, D', by go_num, by omega, HFq.out.alloc _, by rw [HR.out]; exact HGq.out.no ((Fx.refl No _).alloc _), HDq.out⟩
              case measure => simp [intOf]; omega
            · have HR : Hid ((L.take (q + 1)).filter (namedE zs) = insE ⟨f1, f2, f3⟩ M) := Lib.hid (by rw [HMn.out, HNm.out]; rfl)
              have HSl : Hid (EdsV ((wr.alloc (.cells #[.int .i64 f1, .int .i64 f2, .int .i64 f3] 25)).alloc (.cells #[.int .i64 f1, .int .i64 f2, .int .i64 f3] 25)) (fun j => j = wr.heap.size + 1) (.slice (some ⟨wr.heap.size + 1, 0, none⟩) 1 1) [⟨f1, f2, f3⟩]) := Lib.hid (by
                have h1 : EdB ((wr.alloc (.cells #[.int .i64 f1, .int .i64 f2, .int .i64 f3] 25)).alloc (.cells #[.int .i64 f1, .int .i64 f2, .int .i64 f3] 25)) (wr.heap.size + 1) ⟨f1, f2, f3⟩ := by
                  have h2 := (MapKept.heap_alloc (wr.alloc (.cells #[.int .i64 f1, .int .i64 f2, .int .i64 f3] 25)) (.cells #[.int .i64 f1, .int .i64 f2, .int .i64 f3] 25)).1
                  rw [World.size_alloc] at h2
                  exact h2
                exact h1.sl)
              have HFa : Hid (Fx No wr ((wr.alloc (.cells #[.int .i64 f1, .int .i64 f2, .int .i64 f3] 25)).alloc (.cells #[.int .i64 f1, .int .i64 f2, .int .i64 f3] 25))) := Lib.hid (((Fx.refl No wr).alloc _).alloc _)
              go_wp2_with fail
              refine (gAdd_any (HGq.out.no HFa.out) HSl.out (fun j hj hd => by have h1 := HGq.out.lt j hd; have h2 : j = wr.heap.size + 1 := hj; omega) (by intro y hy; rw [List.mem_singleton] at hy; subst hy; exact hox) (good_mk (by intro y hy; rw [List.mem_singleton] at hy; subst hy; exact hnx)) (by have := H.out.small; simp only [List.length_singleton]; omega)).mono ?_
              rintro e w4 ⟨rfl, hf, hg⟩
              have HF4 : Hid (Fx (Iv s0 w1.heap.size) w2 w4) := Lib.hid ((HFq.out.transNo HFa.out).trans' hf fun j h1 h2 => by
                rcases HDq.out j h1 with h | h
                · exact h
                · omega)
              have HG4 : Hid (GraphV w4 (DU D' ((wr.alloc (.cells #[.int .i64 f1, .int .i64 f2, .int .i64 f3] 25)).alloc (.cells #[.int .i64 f1, .int .i64 f2, .int .i64 f3] 25)) w4) b1 n ((L.take (q + 1)).filter (namedE zs))) := Lib.hid (by rw [HR.out]; exact hg)
              have hsa := HFa.out.size
              have HD4 : Hid (∀ x, DU D' ((wr.alloc (.cells #[.int .i64 f1, .int .i64 f2, .int .i64 f3] 25)).alloc (.cells #[.int .i64 f1, .int .i64 f2, .int .i64 f3] 25)) w4 x → Iv s0 w1.heap.size x ∨ w2.heap.size ≤ x) := Lib.hid fun x hx => by
                rcases hx with hx | hx
                · exact HDq.out x hx
                · exact .inr (by have := hx.1; omega)
              clear hf hg hsa
              go_wp2
              go_roundw
              case rel => exact ⟨q + 1, _, by go_num, by omega, HF4.out, HG4.out, HD4.out⟩
              case measure => simp [intOf]; omega
        · obtain rfl : q = L.length := by omega
          have HFw : Hid (Fx No w wr) := Lib.hid (HF2.out.trans' HFq.out fun j h1 h2 => by have := h1.1; omega)
          go_wp2
          go_ret
          refine ⟨b1, rfl, HFw.out, D', ?_, fun x hx => ?_⟩
          · have h1 := HGq.out
            rw [List.take_length] at h1
            exact h1
          · rcases HDq.out x hx with h | h
            · have := h.1; omega
            · omega
end
end
#print axioms SetM.look
#print axioms gOnly_any
#print axioms SetM.put
end Go.Proofs.Ytcfajeldkioomaa
