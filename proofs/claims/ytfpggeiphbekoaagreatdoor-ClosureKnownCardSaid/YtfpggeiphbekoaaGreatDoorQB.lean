/- closure.Of; alike, same2 of alibilaw17. -/
import Derived.Test.YtfpggeiphbekoaaGreatDoorQA
import Derived.Test.YtfpggeiphbekoaaGreatDoorA9
import Derived.Test.YtfpggeiphbekoaaGreatDoorB6
namespace Go.Proofs.YtfpggeiphbekoaaGreatDoor
open Go.RowKit Gr
set_option linter.unusedVariables false

/-- a row of edges as pairs of numbers -/
def edN (L : List Ed) : List (Nat × Nat) := L.map fun x => (x.f.toNat, x.t.toNat)
theorem edN_take {L : List Ed} {q f t : Nat} (hq : q < L.length) (hf : (gt L q).f = (f : Int)) (ht : (gt L q).t = (t : Int)) (n : Nat) : allS n zS ((edN L).take (q + 1)) = addS n (allS n zS ((edN L).take q)) (f, t) := by
  have : (edN L).take (q + 1) = (edN L).take q ++ [(f, t)] := by
    unfold edN
    rw [← List.map_take, ← List.map_take, take_gt hq, List.map_append]
    simp [hf, ht]
  rw [this, allS_snoc]
theorem edN_in {L : List Ed} {n : Nat} (h : ∀ x ∈ L, (0 ≤ x.f ∧ x.f < (n : Int)) ∧ 0 ≤ x.t ∧ x.t < (n : Int)) : InN n (edN L) := fun q hq => by
  obtain ⟨x, hx, rfl⟩ := List.mem_map.1 hq
  have := h x hx
  exact ⟨by show x.f.toNat < n; omega, by show x.t.toNat < n; omega⟩
section
variable {w w' : World} {D E : Nat → Prop} {b n : Nat} {L : List Ed}
set_option maxRecDepth 100000 in
set_option maxHeartbeats 2000000 in
theorem cloOf_any (h : GraphV w D b n L) (hn : n ≤ 1024) (hT : TabOk w) :
    Calls Tryz.prog 18 #[.pointer (some ⟨b, 0, none⟩)] w fun e w' => ∃ (k : CC) (hi : Nat), e = .returned (.tuple #[.pointer (some ⟨k.b, 0, none⟩), .int .i64 0]) ∧ Fx No w w' ∧
      Clo w' (Iv w.heap.size hi) n (allS n zS (edN L)).dn (allS n zS (edN L)).up (allS n zS (edN L)).ed k ∧ hi ≤ w'.heap.size := by
  have H := Lib.hid h
  have HT := Lib.hid hT
  have hTl := hT.lt
  have HN := Lib.hid h.nodes
  have hsm := h.small
  clear h hT
  go_enter Tryz.func18, Tryz.ntmps18
  go_wp2_with fail
  refine (gLen_any H.out).mono ?_
  rintro e w0 ⟨rfl, rfl⟩
  go_wp2_with fail
  refine (cloNew_any n w hn).mono ?_
  rintro e w1 ⟨k, rfl, hf, hC⟩
  have HF1 := Lib.hid hf
  have HC1 : Hid (Clo w1 (Iv w.heap.size w1.heap.size) n zS.dn zS.up zS.ed k) := Lib.hid hC
  have z1 := hf.size
  clear hf hC
  go_wp2_with fail
  refine (gEdges_any (H.out.no HF1.out)).mono ?_
  rintro e w2 ⟨v2, rfl, hf, ho⟩
  obtain ⟨eo, ec, rfl, _, _, hc⟩ := EdsV.facts (OwnT.row ho)
  have HC := Lib.hid hc
  have HF2 := Lib.hid (HF1.out.trans hf)
  have HC2 := Lib.hid (HC1.out.no hf)
  have z2 := hf.size
  have HTn : Hid (¬ Iv w.heap.size w1.heap.size 0) := Lib.hid fun h => by have := h.1; omega
  clear hf ho hc HC1 hTl
  go_wp2
  go_loopw [7, 22] (fun _ i ws => ∃ q : Nat, i = .int .i64 q ∧ q ≤ L.length ∧ Fx (Iv w.heap.size w1.heap.size) w2 ws ∧ Clo ws (Iv w.heap.size w1.heap.size) n (allS n zS ((edN L).take q)).dn (allS n zS ((edN L).take q)).up (allS n zS ((edN L).take q)).ed k) (fun _ i _ => L.length - (intOf i).toNat)
  case atStart => exact ⟨0, rfl, Nat.zero_le _, Fx.refl _ _, HC2.out⟩
  case round =>
    obtain ⟨q, rfl, hq, hf, hC⟩ := hrel
    have HF := Lib.hid hf
    have HCl := Lib.hid hC
    have zr := hf.size
    clear hf hC
    by_cases hql : q < L.length
    · obtain ⟨bb, oo, rfl, hbb, p0, p1, p2⟩ := HC.out q hql
      have nb : ¬ Iv w.heap.size w1.heap.size bb := fun h => by have h1 := h.2; have h2 := hbb.1; omega
      have p0 := HF.out.cell' p0 nb
      have p1 := HF.out.cell' p1 nb
      have p2 := HF.out.cell' p2 nb
      obtain ⟨⟨n1, n2⟩, n3, n4⟩ := HN.out _ (gt_mem hql)
      obtain ⟨f, hf⟩ := Int.eq_ofNat_of_zero_le n1
      obtain ⟨t, ht⟩ := Int.eq_ofNat_of_zero_le n3
      have HTk := Lib.hid (edN_take hql hf ht n)
      rw [hf] at p0 n2
      rw [ht] at p1 n4
      have hfn : f < n := by omega
      have htn : t < n := by omega
      obtain ⟨l, hl⟩ : ∃ l, l = (gt L q).l := ⟨_, rfl⟩
      rw [← hl] at p2
      obtain ⟨st, hst⟩ : ∃ s, s = allS n zS ((edN L).take q) := ⟨_, rfl⟩
      rw [← hst] at HCl HTk
      have HFw : Hid (Fx No w wr) := Lib.hid (HF2.out.trans' HF.out fun j h1 h2 => by have := h1.1; omega)
      have hq0 : (0 : Int) ≤ (q : Int) := by omega
      have hq1 : (q : Int) < (L.length : Int) := by omega
      have hfn0 : (0 : Int) ≤ (f : Int) := by omega
      have htn0 : (0 : Int) ≤ (t : Int) := by omega
      clear hst hl hf ht n1 n2 n3 n4 nb hbb
      go_wp2_with fail
      refine (cloAdd_any (HCl.out.no ((Fx.refl No wr).alloc _)) (fun x hx => by have := hx.2; simp; omega) (HT.out.keep (HFw.out.alloc _) (fun h => h)) HTn.out hfn htn).mono ?_
      rintro e w3 ⟨rfl, hf, hC⟩
      have HF3 : Hid (Fx (Iv w.heap.size w1.heap.size) w2 w3) := Lib.hid ((HF.out.alloc _).trans hf)
      have HC3 : Hid (Clo w3 (Iv w.heap.size w1.heap.size) n (addS n st (f, t)).dn (addS n st (f, t)).up (addS n st (f, t)).ed k) := Lib.hid hC
      clear hf hC
      go_wp2
      go_roundw
      case rel => exact ⟨q + 1, by go_num, by omega, HF3.out, by rw [HTk.out]; exact HC3.out⟩
      case measure => simp [intOf]; omega
    · have hqe : q = L.length := by omega
      have HE : Hid ((edN L).take q = edN L) := Lib.hid (by rw [hqe]; unfold edN; rw [← List.map_take, List.take_length])
      have HCe : Hid (Clo wr (Iv w.heap.size w1.heap.size) n (allS n zS (edN L)).dn (allS n zS (edN L)).up (allS n zS (edN L)).ed k) := Lib.hid (by have := HCl.out; rw [HE.out] at this; exact this)
      have hd : decide ((q : Int) < (L.length : Int)) = false := decide_eq_false (by omega)
      have hd2 : decide (q < L.length) = false := decide_eq_false hql
      have HFw : Hid (Fx No w wr) := Lib.hid (HF2.out.trans' HF.out fun j h1 h2 => by have := h1.1; omega)
      clear hqe hql
      go_wp2
      go_ret2
      exact ⟨k, _, rfl, HFw.out, HCe.out, by omega⟩
set_option maxHeartbeats 1000000 in
theorem same2_any {v u : Value} {a b : List (Int × Int)} (h : PairsV w D v a) (h' : PairsV w E u b) : Calls Tryz.prog 28 #[v, u] w fun e w' => e = .returned (.bool (decide (a = b))) ∧ Fx No w w' := by
  obtain ⟨ao, cap, rfl, hal, hac, hc⟩ := h.facts
  obtain ⟨bo, bcap, rfl, hbl, hbc, hc'⟩ := h'.facts
  have HC := Lib.hid hc
  have HC' := Lib.hid hc'
  clear h h' hc hc'
  by_cases hl : a.length = b.length
  · have hn : ((a.length : Int) != (b.length : Int)) = false := by rw [hl]; simp
    have HL := Lib.hid hl
    clear hl
    go_enter Tryz.func28, Tryz.ntmps28
    go_wp2
    go_loopw [5] (fun i wr => ∃ k : Nat, k ≤ a.length ∧ i = .int .i64 k ∧ (∀ j, j < k → gt a j = gt b j) ∧ Fx No w wr) (fun i _ => a.length - (intOf i).toNat)
    case atStart => exact ⟨0, Nat.zero_le _, rfl, fun j hj => by omega, Fx.refl _ _⟩
    case round =>
      obtain ⟨k, hk, rfl, hq, hf⟩ := hrel
      have HQ := Lib.hid hq
      have HF := Lib.hid hf
      clear hq hf
      by_cases hlt : k < a.length
      · obtain ⟨b1, o1, rfl, _, x1, x2⟩ := HC.out k hlt
        obtain ⟨b2, o2, rfl, _, y1, y2⟩ := HC'.out k (by rw [← HL.out]; exact hlt)
        have x1 := HF.out.cell' x1 (fun h => h)
        have x2 := HF.out.cell' x2 (fun h => h)
        have y1 := HF.out.cell' y1 (fun h => h)
        have y2 := HF.out.cell' y2 (fun h => h)
        have hlt1 : (k : Int) < (a.length : Int) := by omega
        have hlt2 : (k : Int) < (b.length : Int) := by rw [← HL.out]; omega
        have hk0 : (0 : Int) ≤ (k : Int) := by omega
        obtain ⟨p, hp⟩ : ∃ z, z = (gt a k).1 := ⟨_, rfl⟩
        obtain ⟨q, hq⟩ : ∃ z, z = (gt a k).2 := ⟨_, rfl⟩
        obtain ⟨r, hr⟩ : ∃ z, z = (gt b k).1 := ⟨_, rfl⟩
        obtain ⟨s, hs⟩ : ∃ z, z = (gt b k).2 := ⟨_, rfl⟩
        rw [← hp] at x1
        rw [← hq] at x2
        rw [← hr] at y1
        rw [← hs] at y2
        have HGa : Hid (gt a k = (p, q)) := Lib.hid (Prod.ext hp.symm hq.symm)
        have HGb : Hid (gt b k = (r, s)) := Lib.hid (Prod.ext hr.symm hs.symm)
        clear hp hq hr hs
        have hqq : ∀ W, (Op.equalIn 10000 25 (.agg #[.int .i64 p, .int .i64 q]) (.agg #[.int .i64 r, .int .i64 s])).run Tryz.prog W = .ok (p == r && q == s) W := fun W => by rw [run_eq2]
        by_cases he : p = r ∧ q = s
        · have hd : (p == r && q == s) = true := by simp [he.1, he.2]
          rw [hd] at hqq
          have HE : Hid (gt a k = gt b k) := Lib.hid (by rw [HGa.out, HGb.out, he.1, he.2])
          clear he hd
          go_wp2_with fail
          go_quiet (fail)
          all_goals
            go_wp2
            go_roundw
            case rel => exact ⟨k + 1, by omega, by go_num, fun j hj => by
              by_cases e : j = k
              · subst e; exact HE.out
              · exact HQ.out j (by omega), HF.out.drewN _⟩
            case measure => simp [intOf]; omega
        · have hd : (p == r && q == s) = false := by
            rw [Bool.eq_false_iff]; intro h; simp at h; exact he h
          rw [hd] at hqq
          have HB : Hid (decide (a = b) = false) := Lib.hid (by
            rw [decide_eq_false_iff_not]
            rintro rfl
            have := HGa.out.symm.trans HGb.out
            simp only [Prod.mk.injEq] at this
            exact he this)
          clear he hd
          go_wp2_with fail
          go_quiet (fail)
          all_goals
            go_wp2
            go_ret
            exact ⟨by rw [HB.out]; rfl, HF.out.drewN _⟩
      · have HB : Hid (decide (a = b) = true) := Lib.hid (decide_eq_true (gt_ext HL.out fun j hj => HQ.out j (by omega)))
        have hlt1 : decide ((k : Int) < (a.length : Int)) = false := decide_eq_false (by omega)
        go_wp2
        go_ret
        exact ⟨by rw [HB.out]; rfl, HF.out⟩
  · have hn : ((a.length : Int) != (b.length : Int)) = true := by simp; omega
    have HB : Hid (decide (a = b) = false) := Lib.hid (by
      rw [decide_eq_false_iff_not]
      rintro rfl
      exact hl rfl)
    clear hl
    go_enter Tryz.func28, Tryz.ntmps28
    go_wp2
    go_ret
    exact ⟨by rw [HB.out]; rfl, Fx.refl _ _⟩
theorem pairsTo_congr {n : Nat} {dn dn' : Nat → Nat} : ∀ m, (∀ i, i < m → allX n (dn i) = allX n (dn' i)) → pairsTo n dn m = pairsTo n dn' m
  | 0, _ => rfl
  | m + 1, h => by
    show pairsTo n dn m + cntX n (dn m) = pairsTo n dn' m + cntX n (dn' m)
    rw [pairsTo_congr m fun i hi => h i (by omega)]
    unfold cntX
    rw [h m (by omega)]
theorem ofN_nat {n i : Nat} (h : i < n) : ofN n (i : Int) = n := by unfold ofN; rw [if_pos (by omega)]
theorem ofM_nat {n i : Nat} {M : Nat → Nat} (h : i < n) : ofM n M (i : Int) = M i := by unfold ofM; rw [if_pos (by omega)]; rfl
set_option maxHeartbeats 2000000 in
theorem alike_any {n : Nat} {dn up ed dn' up' ed' : Nat → Nat} {k k' : CC} (ha : Clo w D n dn up ed k) (hb : Clo w E n dn' up' ed' k') (hT : TabOk w) (heq : ∀ i, i < n → allX n (dn i) = allX n (dn' i) ∧ allX n (up i) = allX n (up' i)) :
    Calls Tryz.prog 27 #[.pointer (some ⟨k.b, 0, none⟩), .pointer (some ⟨k'.b, 0, none⟩)] w fun e w' => e = .returned (.bool true) ∧ Fx No w w' := by
  have HA := Lib.hid ha
  have HB := Lib.hid hb
  have HT := Lib.hid hT
  have HE := Lib.hid heq
  have HP : Hid (pairsTo n dn n = pairsTo n dn' n) := Lib.hid (pairsTo_congr n fun i hi => (heq i hi).1)
  have hpl := pairsTo_le n dn' n
  have hle := ha.le
  have hnn : n * n ≤ 1024 * 1024 := Nat.mul_le_mul hle hle
  clear ha hb hT heq
  go_enter Tryz.func27, Tryz.ntmps27
  go_wp2_with fail
  refine (cloLen_any HA.out).mono ?_
  rintro e w0 ⟨rfl, rfl⟩
  go_wp2_with fail
  refine (cloLen_any HB.out).mono ?_
  rintro e w0 ⟨rfl, rfl⟩
  go_wp2_with fail
  refine (pairs_any HA.out).mono ?_
  rintro e w1 ⟨rfl, hf⟩
  have HF1 := Lib.hid hf
  rw [HP.out]
  obtain ⟨p, hp⟩ : ∃ p, p = pairsTo n dn' n := ⟨_, rfl⟩
  have HPp := Lib.hid hp
  rw [← hp]
  clear hf hp hpl
  go_wp2_with fail
  refine (pairs_any (HB.out.no HF1.out)).mono ?_
  rw [← HPp.out]
  rintro e w2 ⟨rfl, hf⟩
  have HF2 := Lib.hid (HF1.out.trans hf)
  clear hf
  go_wp2
  go_loopw [5] (fun i ws => ∃ q : Nat, i = .int .i64 q ∧ q ≤ n ∧ Fx No w ws) (fun i _ => n - (intOf i).toNat)
  case atStart => exact ⟨0, rfl, Nat.zero_le _, HF2.out⟩
  case round =>
    obtain ⟨q, rfl, hq, hf⟩ := hrel
    have HF := Lib.hid hf
    have HAr := Lib.hid (HA.out.no hf)
    have HBr := Lib.hid (HB.out.no hf)
    clear hf
    by_cases hlt : q < n
    · have hlt1 : (q : Int) < (n : Int) := by omega
      have HQ : Hid (allX (ofN n (q : Int)) (ofM n dn (q : Int)) = allX n (dn' q) ∧ allX (ofN n (q : Int)) (ofM n dn' (q : Int)) = allX n (dn' q) ∧ allX (ofN n (q : Int)) (ofM n up (q : Int)) = allX n (up' q) ∧ allX (ofN n (q : Int)) (ofM n up' (q : Int)) = allX n (up' q)) := Lib.hid (by
        obtain ⟨h1, h2⟩ := HE.out q hlt
        rw [ofN_nat hlt, ofM_nat hlt, ofM_nat hlt, ofM_nat hlt, ofM_nat hlt, h1, h2]
        exact ⟨rfl, rfl, rfl, rfl⟩)
      go_wp2_with fail
      refine (cloLen_any HAr.out).mono ?_
      rintro e w0 ⟨rfl, rfl⟩
      go_wp2_with fail
      refine (from_any' HAr.out (HT.out.keep HF.out (fun h => h)) (q : Int)).mono ?_
      rintro e w3 ⟨v3, rfl, hf, ho⟩
      rw [HQ.out.1] at ho
      have HO3 := Lib.hid ho.ints
      have HF3 := Lib.hid (HF.out.trans hf)
      clear hf ho
      go_wp2_with fail
      refine (from_any' (HB.out.no HF3.out) (HT.out.keep HF3.out (fun h => h)) (q : Int)).mono ?_
      rintro e w4 ⟨v4, rfl, hf, ho⟩
      rw [HQ.out.2.1] at ho
      have HO4 := Lib.hid ho.ints
      have HO3 := Lib.hid (HO3.out.keep hf No.disj)
      have HF4 := Lib.hid (HF3.out.trans hf)
      clear hf ho
      go_wp2_with fail
      refine (sameInts_any HO3.out HO4.out).mono ?_
      rintro e w5 ⟨rfl, hf⟩
      rw [beq_self_eq_true]
      have HF5 := Lib.hid (HF4.out.trans hf)
      clear hf HO3 HO4
      go_wp2_with fail
      refine (to_any (HA.out.no HF5.out) (HT.out.keep HF5.out (fun h => h)) (q : Int)).mono ?_
      rintro e w6 ⟨v6, rfl, hf, ho⟩
      rw [HQ.out.2.2.1] at ho
      have HO6 := Lib.hid ho.ints
      have HF6 := Lib.hid (HF5.out.trans hf)
      clear hf ho
      go_wp2_with fail
      refine (to_any (HB.out.no HF6.out) (HT.out.keep HF6.out (fun h => h)) (q : Int)).mono ?_
      rintro e w7 ⟨v7, rfl, hf, ho⟩
      rw [HQ.out.2.2.2] at ho
      have HO7 := Lib.hid ho.ints
      have HO6 := Lib.hid (HO6.out.keep hf No.disj)
      have HF7 := Lib.hid (HF6.out.trans hf)
      clear hf ho
      go_wp2_with fail
      refine (sameInts_any HO6.out HO7.out).mono ?_
      rintro e w8 ⟨rfl, hf⟩
      rw [beq_self_eq_true]
      have HF8 := Lib.hid (HF7.out.trans hf)
      clear hf HO6 HO7
      go_wp2
      go_roundw
      case rel => exact ⟨q + 1, by go_num, by omega, HF8.out⟩
      case measure => simp [intOf]; omega
    · have hlt1 : decide ((q : Int) < (n : Int)) = false := decide_eq_false (by omega)
      go_wp2_with fail
      refine (cloLen_any HAr.out).mono ?_
      rintro e w0 ⟨rfl, rfl⟩
      go_wp2
      go_ret
      exact ⟨rfl, HF.out⟩
end
#print axioms cloOf_any
#print axioms alike_any
#print axioms same2_any
end Go.Proofs.YtfpggeiphbekoaaGreatDoor
