/- Depth and the document's longest rows of edges: the plain law; Depth, with the rounds' numbers. | The law TopoAll. -/
import Derived.Test.YteafkafkbipcmaaS11
import Derived.Test.YteafkafkbipcmaaS5
import Derived.Test.YteafkafkbipcmaaS12
import Derived.Test.YteafkafkbipcmaaS10
import Derived.Test.YteafkafkbipcmaaM7
import Derived.Deep.DeepCutAuto
import Derived.Deep.CutBlock

namespace Go.Proofs.Yteafkafkbipcmaa
open Go.RowKit
set_option linter.unusedVariables false
attribute [go_sem] max_ints

def lngM (L : List Ed) (K q : Nat) : Int := (List.range q).foldl (fun m i => max m ((lngF L (K + 1) i : Nat) : Int)) 0
theorem lngM_succ (L : List Ed) (K q : Nat) : lngM L K (q + 1) = max (lngM L K q) ((lngF L (K + 1) q : Nat) : Int) := by
  unfold lngM
  rw [List.range_succ, List.foldl_append]; rfl
theorem lngM_nn (L : List Ed) (K : Nat) : ∀ q, 0 ≤ lngM L K q
  | 0 => Int.le_refl _
  | q + 1 => by rw [lngM_succ]; have := lngM_nn L K q; omega
theorem lngM_ge (L : List Ed) (K : Nat) : ∀ q i, i < q → ((lngF L (K + 1) i : Nat) : Int) ≤ lngM L K q
  | 0, i, h => by omega
  | q + 1, i, h => by
    rw [lngM_succ]
    by_cases e : i = q
    · subst e; omega
    · have := lngM_ge L K q i (by omega); omega
theorem lngM_le (L : List Ed) (K : Nat) {c : Int} (h0 : 0 ≤ c) : ∀ q, (∀ i, i < q → ((lngF L (K + 1) i : Nat) : Int) ≤ c) → lngM L K q ≤ c
  | 0, _ => h0
  | q + 1, h => by
    rw [lngM_succ]
    have h1 := lngM_le L K h0 q fun i hi => h i (by omega)
    have h2 := h q (by omega)
    omega
theorem rndF_ne {L : List Ed} {N : Nat} : ∀ (k : Nat) (S : List Nat), ∀ r ∈ rndF L N k S, r ≠ []
  | 0, S, r, h => by simp [rndF] at h
  | k + 1, S, r, h => by
    unfold rndF at h
    cases e : free L N S with
    | nil => rw [e] at h; simp at h
    | cons v q =>
      rw [e] at h
      rcases List.mem_cons.1 h with h | h
      · rw [h]; simp
      · exact rndF_ne k _ r h
section
variable {L : List Ed} {N : Nat} {ord : List Nat} {rd : Nat → Int}
theorem KF.whole (hk : KF L N ord rd) (hL : NdE L N) (hw : (srt L N).length = N) : ∀ v, v < N → v ∈ ord := fun v hv => (hk.same v).2 (all_taken (srt_ok L N).2.1 (srt_ok L N).2.2.1 (by omega) v hv)
/-- the depth is the longest row of edges -/
theorem depth_long (hk : KF L N ord rd) (hL : NdE L N) (hw : (srt L N).length = N) : depD L N = lngM L (rnds L N).length N := by
  obtain ⟨k1, k2⟩ := hk.rounds hL
  have hall := hk.whole hL hw
  have hdd : depD L N = max 0 (((rnds L N).length : Int) - 1) := if_pos hw
  rw [hdd]
  obtain ⟨K, hK⟩ : ∃ K, K = (rnds L N).length := ⟨_, rfl⟩
  rw [← hK] at k2 ⊢
  have hnn := lngM_nn L K N
  have hup : lngM L K N ≤ max 0 ((K : Int) - 1) := lngM_le L K (by omega) N fun i hi => by
    have h1 := lng_up (K := K) hk hL hall k2 (K + 1) i hi
    have h2 := hk.rd0 i (hall i hi)
    omega
  by_cases h1 : 1 ≤ K
  · have hm : rowR N rd (K - 1) ∈ rnds L N := by
      rw [k1, ← hK, List.mem_map]
      exact ⟨K - 1, List.mem_range.2 (by omega), rfl⟩
    obtain ⟨v, hv⟩ := List.exists_mem_of_ne_nil _ (rndF_ne N [] _ hm)
    obtain ⟨v1, v2⟩ := mem_rowR.1 hv
    obtain ⟨i, i1, i2⟩ := lng_low hk hL hall (K - 1) 0 v v1 v2
    have i3 := lngM_ge L K N i i1
    have i4 := lng_mono' (L := L) (k := 0 + (K - 1)) (i := i) 2
    have e : 0 + (K - 1) + 2 = K + 1 := by omega
    rw [e] at i4
    simp only [lngF] at i2
    omega
  · omega
/-- as many rounds -/
theorem rounds_depth (hk : KF L N ord rd) (hL : NdE L N) (hw : (srt L N).length = N) : ((rnds L N).length : Int) = min (N : Int) 1 * (depD L N + 1) := by
  have hdd : depD L N = max 0 (((rnds L N).length : Int) - 1) := if_pos hw
  rw [hdd]
  by_cases h : 0 < N
  · have := rounds_count hk hL h hw
    rw [show min (N : Int) 1 = 1 by omega]; omega
  · have := rnds_len L N
    rw [show min (N : Int) 1 = 0 by omega]; omega
end
section
variable {w : World} {D : Nat → Prop} {gb N : Nat} {L : List Ed}
set_option maxRecDepth 100000 in
set_option maxHeartbeats 4000000 in
theorem depthK_any (hg : GraphV w D gb N L) : Calls Try.prog 23 #[.pointer (some ⟨gb, 0, none⟩)] w fun e w' => e = .returned (.tuple #[.int .i64 (depD L N), .int .i64 (serr L N)]) ∧ Fx No w w' ∧ ((srt L N).length = N → ∃ ord rd, KF L N ord rd) := by
  have HG := Lib.hid hg
  have hNN := hg.nn
  have hKN := rnds_len L N
  clear hg
  go_enter Try.func23, Try.ntmps23
  go_wp2_with fail
  refine (sort_any HG.out).mono ?_
  rintro e w2 ⟨v2, rfl, hf2, _⟩
  have HF2 := Lib.hid hf2
  clear hf2
  by_cases hl : (srt L N).length = N
  · have he : serr L N = 0 := if_pos hl
    have HD : Hid (depD L N = max 0 (((rnds L N).length : Int) - 1)) := Lib.hid (if_pos hl)
    have HSe := Lib.hid he
    rw [he]
    obtain ⟨K, hK⟩ : ∃ K, K = (rnds L N).length := ⟨_, rfl⟩
    have HK := Lib.hid hK
    rw [← hK] at hKN HD
    have hw : IntKind.i64.wrap ((K : Int) - 1) = (K : Int) - 1 := by rw [IntKind.wrap_i64]; omega
    clear hl he hK
    go_wp2_with fail
    refine (roundsK_any (HG.out.no HF2.out)).mono ?_
    rintro e w3 ⟨v3, V, rfl, hf3, ho3, hk3⟩
    obtain ⟨ra, rc, e3, _⟩ := SlV.ofOwns ho3.own
    rw [List.length_map, ← HK.out] at e3
    subst e3
    have HF3 := Lib.hid (HF2.out.trans hf3)
    have HK3 := Lib.hid hk3
    clear hf3 ho3 hk3
    go_wp2
    go_ret2
    exact ⟨by rw [HD.out, HSe.out]; rfl, HF3.out, fun _ => HK3.out⟩
  · have he : serr L N = 140 := if_neg hl
    have HNw := Lib.hid hl
    have HD : Hid (depD L N = 0) := Lib.hid (if_neg hl)
    have HSe := Lib.hid he
    rw [he]
    clear hl he
    go_wp2
    go_ret2
    exact ⟨by rw [HD.out, HSe.out]; rfl, HF2.out, fun q => (HNw.out q).elim⟩
end
#print axioms depth_long
#print axioms rounds_depth
#print axioms depthK_any
end Go.Proofs.Yteafkafkbipcmaa

namespace Go.Proofs.Yteafkafkbipcmaa
open Go.RowKit
set_option linter.unusedVariables false

theorem min_intsI (ats : Array TypeId) (ty : TypeId) (x y : Int) : Builtin.min_ ats ty #[.int .i64 x, .int .i64 y] = pure (.int .i64 (min x y)) := by
  have e : (if y < x then y else x) = min x y := by split <;> omega
  show (pure (Value.int .i64 (if y < x then y else x)) : Sem Value) = _
  rw [e]
attribute [go_sem] min_intsI
attribute [go_sem] max_ints
/-- the rounds one behind the other -/
def rowT (P : List (List Int)) (k : Nat) : List Int := (P.take k).flatten
theorem rowT_succ {P : List (List Int)} {k : Nat} (hk : k < P.length) : rowT P (k + 1) = rowT P k ++ rg P k := by
  unfold rowT rg
  rw [List.take_add_one, List.flatten_append, List.getElem?_eq_getElem hk]
  simp [hk]
theorem rowT_len {P : List (List Int)} : ∀ (k : Nat), (rowT P k).length ≤ P.flatten.length := by
  intro k
  have h : P.flatten = (P.take k).flatten ++ (P.drop k).flatten := by rw [← List.flatten_append, List.take_append_drop]
  unfold rowT
  rw [h, List.length_append]; omega
theorem rowT_all (P : List (List Int)) : rowT P P.length = P.flatten := by unfold rowT; rw [List.take_length]
theorem flat_nI (Q : List (List Nat)) : (Q.map nI).flatten = nI Q.flatten := by unfold nI; rw [List.map_flatten]
section
variable {w w' : World} {E : Nat → Prop} {l : List Ed} {v : Value}
set_option maxRecDepth 100000 in
set_option maxHeartbeats 16000000 in
theorem alllaw_any (n : Int) (h : EdsV w E v l) (hok : ∀ x ∈ l, x.ok) : Calls Try.prog 6 #[.int .i64 n, v] w fun e w' => e = .returned (.bool true) ∧ Fx No w w' := by
  have HE := Lib.hid h
  have HOk := Lib.hid hok
  obtain ⟨ao, cap, rfl, hcl, hcm, _⟩ := EdsV.facts h
  clear h hok
  by_cases h1 : 40 < l.length
  · have d1 : decide ((40 : Int) < (l.length : Int)) = true := decide_eq_true (by omega)
    go_enter Try.func6, Try.ntmps6
    go_wp2_with fail
    refine (works_any _).mono ?_
    rintro e w1 ⟨rfl, hf⟩
    have HF := Lib.hid hf
    clear hf
    go_wp2
    go_ret
    exact ⟨rfl, HF.out⟩
  · have d1 : decide ((40 : Int) < (l.length : Int)) = false := decide_eq_false (by omega)
    have hl40 : l.length ≤ 40 := by omega
    clear h1
    go_enter Try.func6, Try.ntmps6
    go_wp2_with fail
    refine (drawn_any HE.out HOk.out (by omega) n 6 (by omega)).mono ?_
    rintro e w1 ⟨gb, N, L, rv, D, R, rfl, hD, hN, hL⟩
    obtain ⟨ro, rc, rfl, _⟩ := EdsV.facts hD.row
    have HD1 := Lib.hid hD
    have hL40 : L.length ≤ 40 := by omega
    clear hD hL
    go_wp2_with fail
    refine calls_hold (fun W => GS w W w1.heap.size gb N L ro rc D R) (GS.start HD1.out) ?_
    rintro w2 hg2
    obtain ⟨rb, hrb⟩ : ∃ q, q = w1.heap.size := ⟨_, rfl⟩
    rw [← hrb] at hg2 ⊢
    have HG2 := Lib.hid hg2
    have HNd : Hid (NdE L N) := Lib.hid hg2.g.nodes
    clear hg2 hrb HD1
    refine (refAll_any hN (by omega) N w2 No (.slice none 0 0) [] (SlV.nil _ _ _) HG2.out.row (by simp)).mono ?_
    rintro e w3 ⟨av, vals, rfl, hf3, _, ho3, hR3⟩
    have HG3 := Lib.hid (HG2.out.no hf3)
    have HV3 := Lib.hid (SlV.ofOwns ho3)
    have HRo3 := Lib.hid hR3
    have hAl := hR3.length
    obtain ⟨A, hA⟩ : ∃ A, A = vals.length := ⟨_, rfl⟩
    obtain ⟨aa, ac, rfl, _, _, _, _, hsl⟩ := SlV.ofOwns ho3
    have HSl3 := Lib.hid hsl
    clear hsl
    rw [← hA] at hAl ho3
    rw [← hA]
    have hA0 := all_pos (N := N) HNd.out
    rw [← hAl] at hA0
    have HAl := Lib.hid hAl
    have HA := Lib.hid hA
    have hA9 : A ≤ 46656 := by rw [hAl]; exact Nat.le_trans (allG_len N L N []) (pow_bound hN hN)
    clear hf3 ho3 hR3 hA hAl HG2
    go_wp2_with fail
    refine (sort_any HG3.out.g).mono ?_
    rintro e w4 ⟨pv, rfl, hf4, ho4⟩
    have HG4 := Lib.hid (HG3.out.no hf4)
    have HF4 := Lib.hid hf4
    have HP4 : Hid (IntsV w4 (Iv w3.heap.size w4.heap.size) pv (nI (sres L N))) := Lib.hid (by unfold IntsV; rw [nI_len]; exact SlV.ofOwns ho4)
    obtain ⟨pa, pc, rfl, _⟩ := SlV.ofOwns ho4
    clear hf4 ho4 HG3
    go_wp2_with fail
    refine (depthK_any HG4.out.g).mono ?_
    rintro e w5 ⟨rfl, hf5, hk5⟩
    have HG5 := Lib.hid (HG4.out.no hf5)
    have HF5 := Lib.hid (HF4.out.trans hf5)
    have HP5 := Lib.hid (HP4.out.no hf5)
    have HK5 := Lib.hid hk5
    clear hf5 hk5 HG4 HF4 HP4
    by_cases hw : (srt L N).length = N
    · have HW := Lib.hid hw
      obtain ⟨ord, rd, hk⟩ := HK5.out hw
      have HK := Lib.hid hk
      have hse : serr L N = 0 := if_pos hw
      have hsr : sres L N = srt L N := if_pos hw
      have hd := depth_long hk HNd.out hw
      have hrk := rounds_depth hk HNd.out hw
      have hKN := rnds_len L N
      have hA1 : 0 < A := hA0.2 hw
      have ho := all_only (N := N) HNd.out hw
      rw [← HAl.out] at ho
      have hrl : (rstL L N).length = 0 := (rst_len L N).2 hw
      have hkr := hk.rounds HNd.out
      have hgd : ((0 : Int) < (A : Int)) := by omega
      have hon : onlyB L N = ((A : Int) == 1) := by
        have e : decide ((A : Int) = 1) = onlyB L N := by
          rw [Bool.eq_iff_iff, decide_eq_true_iff, ← ho]; omega
        rw [← e]; rfl
      rw [hse, hsr, hw]
      rw [hsr, hw] at HP5
      have hwd : decide ((srt L N).length = N) = true := decide_eq_true hw
      have HB := Lib.hid hon
      obtain ⟨K, hK⟩ : ∃ K, K = (rnds L N).length := ⟨_, rfl⟩
      rw [← hK] at hd hrk hKN hkr
      have HKe := Lib.hid hK
      have HLt := Lib.hid hkr.2
      obtain ⟨T, hT⟩ : ∃ T, T = depD L N := ⟨_, rfl⟩
      have HT := Lib.hid hT
      rw [← hT] at hd hrk ⊢
      have HRk := Lib.hid hrk
      have HDl := Lib.hid hd
      have HWd := Lib.hid hwd
      have HRl := Lib.hid hrl
      clear hA0 ho hw hk hse hsr hd hrk hrl hkr hwd hon hK hT
      go_wp2_with fail
      refine (only_any HG5.out.g).mono ?_
      rintro e w6 ⟨rfl, hf6⟩
      rw [HB.out]
      have HG6 := Lib.hid (HG5.out.no hf6)
      have HF6 := Lib.hid (HF5.out.trans hf6)
      have HP6 := Lib.hid (HP5.out.no hf6)
      have p0 := HG6.out.r0
      have p1 := HG6.out.r1
      clear hf6 HG5 HF5 HP5
      go_wp2_with fail
      refine (walks_any HG6.out.row HNd.out (by omega) (by omega) (fun q i s => fun hi h1 hW => whole_no HK.out HNd.out HW.out hi h1 hW)).mono ?_
      rintro e w7 ⟨rfl, hf7⟩
      rw [HWd.out]
      have HG7 := Lib.hid (HG6.out.no hf7)
      have HF7 := Lib.hid (HF6.out.trans hf7)
      have HP7 := Lib.hid (HP6.out.no hf7)
      clear hf7 p0 p1 HG6 HF6 HP6
      go_wp2_with fail
      refine (rest_any HG7.out.g).mono ?_
      rintro e w8 ⟨tv, rfl, hf8, ho8⟩
      have hts := SlV.ofOwns ho8
      rw [HRl.out] at hts
      obtain ⟨ta, tc, rfl, _⟩ := hts
      have HG8 := Lib.hid (HG7.out.no hf8)
      have HF8 := Lib.hid (HF7.out.trans hf8)
      have HP8 := Lib.hid (HP7.out.no hf8)
      clear hf8 ho8 HG7 HF7 HP7
      go_wp2
      go_loopw [12, 13] (fun m i ws => ∃ q : Nat, i = .int .i64 (q : Nat) ∧ m = .int .i64 (lngM L K q) ∧ q ≤ N ∧ Fx No w8 ws) (fun _ i _ => N - (intOf i).toNat)
      case atStart => exact ⟨0, rfl, rfl, by omega, Fx.refl _ _⟩
      case round =>
        obtain ⟨q, rfl, rfl, hq, hf⟩ := hrel
        have HF := Lib.hid hf
        have HGr := Lib.hid (HG8.out.no hf)
        have p0 := HGr.out.r0
        have p1 := HGr.out.r1
        clear hf
        by_cases hqN : q < N
        · have q1 : (q : Int) < (N : Int) := by omega
          have hall := HK.out.whole HNd.out HW.out
          have hr0 := HK.out.rd0 q (hall q hqN)
          have hs := lngM_succ L K q
          obtain ⟨M, hM⟩ : ∃ M, M = lngM L K q := ⟨_, rfl⟩
          rw [← hM] at hs ⊢
          have HS := Lib.hid hs
          clear hM hs
          have hlr := fun W hW => refLong_any (v := .slice ro L.length rc) HK.out HNd.out hall HLt.out (by omega) (by omega) K q W (HGr.out.no hW).row hqN (by omega)
          have HLr : Hid (∀ W, Fx No wr W → _) := Lib.hid hlr
          clear hlr hall hr0
          go_wp2_with fail
          refine (HLr.out _ (by first | exact Fx.refl _ _ | exact (Fx.refl _ _).drew)).mono ?_
          rintro e w9 ⟨rfl, hf9⟩
          have HF9 := Lib.hid (HF.out.trans hf9)
          clear hf9 p0 p1
          go_wp2
          go_roundw
          case rel => exact ⟨q + 1, by go_num, by rw [HS.out], by omega, HF9.out⟩
          case measure => simp [intOf]; omega
        · have hqe : N = q := by omega
          subst hqe
          have hMT := HDl.out
          rw [← hMT]
          have HP9 := Lib.hid (HP8.out.no HF.out)
          have HF9 := Lib.hid (HF8.out.trans HF.out)
          clear hMT hqN hq
          go_wp2_with fail
          refine (rounds_any HGr.out.g).mono ?_
          rintro e w9 ⟨sv, V, rfl, hf9, hr9⟩
          have HG9 := Lib.hid (HGr.out.no hf9)
          have HF9 := Lib.hid (HF9.out.trans hf9)
          have HP9 := Lib.hid (HP9.out.no hf9)
          obtain ⟨P, hP⟩ : ∃ P, P = (rnds L N).map nI := ⟨_, rfl⟩
          rw [← hP] at hr9
          have hPl : P.length = K := by rw [hP, List.length_map, ← HKe.out]
          have hPf : P.flatten = nI (rnds L N).flatten := by rw [hP, flat_nI]
          have hOr := rounds_ordr HW.out
          have hPn : P.flatten.length = N := by rw [hPf, nI_len]; exact hOr.1
          have hRs : respB N L P.flatten = true := by rw [hPf]; exact hOr.resp HNd.out
          have HPl := Lib.hid hPl
          have HPn := Lib.hid hPn
          have HRs := Lib.hid hRs
          obtain ⟨BB, hrw⟩ := hr9.rowsW
          have HR9 := Lib.hid hrw.toRowsR
          have hsf := hrw.toRowsR.facts
          rw [hPl] at hsf
          obtain ⟨sa, sc, rfl, _, hce⟩ := hsf
          have HCe := Lib.hid hce
          have HEl : Hid (∀ i, i < K → IntsV w9 (Iv wr.heap.size w9.heap.size) (V i) (rg P i)) := Lib.hid fun i hi => hrw.toRowsR.el i (by rw [hPl]; exact hi)
          obtain ⟨ii, hi, hz0, hs, hb8⟩ := info_parts info_int'
          have hK6 : K ≤ 6 := by omega
          clear hr9 hrw hP hPl hPf hOr hPn hRs hce hf9 p0 p1 HGr
          go_wp2
          go_loopw [15, 16] (fun o i ws => ∃ (q : Nat), i = .int .i64 (q : Nat) ∧ q ≤ K ∧ Fx No w9 ws ∧ ws.ownsRow w9.heap.size 3 1 o (rowT P q).length (ints (rowT P q))) (fun _ i _ => K - (intOf i).toNat)
          case atStart => exact ⟨0, rfl, by omega, Fx.refl _ _, World.ownsRow_nil _ _ _ _⟩
          case round =>
            obtain ⟨q, rfl, hq, hf, ho⟩ := hrel
            have HFq := Lib.hid hf
            have HOq := Lib.hid ho
            clear hf ho
            by_cases hqK : q < K
            · have q0 : (0 : Int) ≤ (q : Int) := by omega
              have q1 : (q : Int) < (K : Int) := by omega
              obtain ⟨g, go, hga, hgE, hgc⟩ := HCe.out q hqK
              have p0 := HFq.out.cell' hgc (fun q => q)
              have hel := (HEl.out q hqK).no HFq.out
              have hsu := rowT_succ (P := P) (k := q) (by rw [HPl.out]; exact hqK)
              have hl1 : (rowT P (q + 1)).length ≤ N := by rw [← HPn.out]; exact rowT_len _
              rw [hsu, List.length_append] at hl1
              obtain ⟨RT, hRT⟩ : ∃ RT, RT = rowT P q := ⟨_, rfl⟩
              obtain ⟨RQ, hRQ⟩ : ∃ RQ, RQ = rg P q := ⟨_, rfl⟩
              rw [← hRT] at HOq hsu hl1
              rw [← hRQ] at hel hsu hl1
              have hel2 := hel
              obtain ⟨ea, ec, hev, _⟩ := hel2
              rw [hev] at p0 hel
              have HEq := Lib.hid hel
              have HSu := Lib.hid hsu
              subst hga
              clear hel hsu hev hgc hRT hRQ
              go_wp2_with (at_builtin; refine wpList_append_sl rfl _ _ 32 rfl w9.heap.size 3 Try.underlying32 hi hz0 hs hb8 rfl (by decide) rfl HOq.out rfl HEq.out (ints_one _) (by unfold maxLen; omega) (by omega) HFq.out.size ?_)
              intro v' w10 ho10 hf10 hn10
              have HF10 : Hid (Fx No w9 w10) := Lib.hid (HFq.out.trans' hf10 fun g e hl => by have := (World.ownsRow.lt HOq.out g e).1; omega)
              have HO10 : Hid (w10.ownsRow w9.heap.size 3 1 v' (rowT P (q + 1)).length (ints (rowT P (q + 1)))) := Lib.hid (by
                rw [HSu.out, List.length_append, show ints (RT ++ RQ) = ints RT ++ ints RQ by simp [ints]]
                exact ho10)
              clear ho10 hf10 hn10 p0
              go_wp2
              go_roundw
              case rel => exact ⟨q + 1, by go_num, by omega, HF10.out, HO10.out⟩
              case measure => simp [intOf]; omega
            · have hqe : K = q := by omega
              subst hqe
              obtain ⟨rest, hfst⟩ := all_first HNd.out HW.out
              obtain ⟨v0, hv0, hi0⟩ := RowsOf.at (k := 0) HRo3.out (by rw [← HAl.out]; omega)
              rw [hfst, List.getD_cons_zero] at hi0
              have hvl : 0 < vals.length := by rw [← HA.out]; exact hA1
              rcases HSl3.out with hvn | ⟨ab, ao0, haa, _, hc⟩
              · rw [hvn] at hvl; simp at hvl
              · subst haa
                have hc0 := hc 0 hvl
                rw [show vals.getD 0 undef = v0 by rw [List.getD_eq_getElem?_getD, hv0]; rfl, Nat.add_zero] at hc0
                have HFz : Hid (Fx No w3 wr) := Lib.hid (HF9.out.trans HFq.out)
                have pz := HFz.out.cell' hc0 (fun q => q)
                have hi0' := hi0
                obtain ⟨za, zc, rfl, _⟩ := hi0'
                have HI0 := Lib.hid (hi0.no HFz.out)
                have a0 : (0 : Int) < (A : Int) := by omega
                have HRow := Lib.hid (show IntsV wr (Iv w9.heap.size wr.heap.size) u15 P.flatten from (by
                  have := SlV.ofOwns HOq.out
                  rw [show rowT P K = P.flatten by rw [← HPl.out]; exact rowT_all P] at this
                  exact this))
                obtain ⟨ra, rcp, rfl, _⟩ := SlV.ofOwns HOq.out
                have hrt : (rowT P K).length = N := by rw [show rowT P K = P.flatten by rw [← HPl.out]; exact rowT_all P]; exact HPn.out
                rw [hrt] at HRow ⊢
                clear hrt HOq
                have HGr := Lib.hid (HG9.out.no HFq.out)
                have HPr := Lib.hid (HP9.out.no HFq.out)
                have HFin := Lib.hid (HG9.out.fx.trans HFq.out)
                have p0 := HGr.out.r0
                have HSn : Hid ((srt L N).length = N) := HW
                have hT0 : 0 ≤ T := by rw [HDl.out]; exact lngM_nn _ _ _
                have hTe := HRk.out
                have hT6 : T ≤ 6 := by
                  rw [HT.out]
                  have e : depD L N = max 0 (((rnds L N).length : Int) - 1) := if_pos HW.out
                  rw [e, ← HKe.out]; omega
                have w1' : IntKind.i64.wrap (T + 1) = T + 1 := by rw [IntKind.wrap_i64]; omega
                have w2' : IntKind.i64.wrap (min (N : Int) 1 * (T + 1)) = (K : Int) := by rw [← hTe, IntKind.wrap_i64]; omega
                clear hc0 hc hi0 hv0 hvl hfst hTe hT0 hT6
                go_wp2_with fail
                refine (sameInts_any HPr.out HI0.out).mono ?_
                rintro e w11 ⟨rfl, hf11⟩
                have dd : (nI (srt L N) == nI (srt L N)) = true := by simp
                rw [dd]
                have HG11 := Lib.hid (HGr.out.no hf11)
                have HRow11 := Lib.hid (HRow.out.no hf11)
                have HFin11 := Lib.hid (HFin.out.trans hf11)
                have p0 := HG11.out.r0
                clear dd hf11 pz
                go_wp2_with fail
                refine (respects_any HG11.out.g HRow11.out (by omega)).mono ?_
                rintro e w12 ⟨rfl, hf12⟩
                rw [HRs.out]
                have HFin12 := Lib.hid (HFin11.out.trans hf12)
                clear hf12 p0
                go_wp2_with fail
                refine (works_any _).mono ?_
                rintro e w13 ⟨rfl, hf13⟩
                have HFin13 := Lib.hid (HFin12.out.trans hf13)
                clear hf13
                go_wp2
                go_ret
                exact ⟨rfl, HFin13.out⟩
    · have hse : serr L N = 140 := if_neg hw
      have hsr : sres L N = [] := if_neg hw
      have hA1 : A = 0 := by
        apply Classical.byContradiction
        intro h0
        exact hw (hA0.1 (by omega))
      have hT : depD L N = 0 := if_neg hw
      have hB : onlyB L N = false := by unfold onlyB; rw [decide_eq_false hw]; rfl
      have hwd : decide ((srt L N).length = N) = false := decide_eq_false hw
      have hrp : 0 < (rstL L N).length := by
        have := rst_len L N
        omega
      rw [hse, hsr, hA1, hT]
      obtain ⟨M, hM⟩ : ∃ M, M = (rstL L N).length := ⟨_, rfl⟩
      rw [← hM] at hrp
      have HM := Lib.hid hM
      have HB := Lib.hid hB
      have HWd := Lib.hid hwd
      have HW := Lib.hid hw
      clear hA0 hw hse hsr hA1 hT hB hwd hM HP5 HK5
      go_wp2_with fail
      refine (only_any HG5.out.g).mono ?_
      rintro e w6 ⟨rfl, hf6⟩
      rw [HB.out]
      have HG6 := Lib.hid (HG5.out.no hf6)
      have p0 := HG6.out.r0
      have p1 := HG6.out.r1
      clear hf6 HG5 HF5
      go_wp2_with fail
      refine (walks_any HG6.out.row HNd.out (by omega) (by omega) (fun q => (HW.out q).elim)).mono ?_
      rintro e w7 ⟨rfl, hf7⟩
      rw [HWd.out]
      have HG7 := Lib.hid (HG6.out.no hf7)
      clear hf7 p0 p1 HG6
      go_wp2_with fail
      refine (rest_any HG7.out.g).mono ?_
      rintro e w8 ⟨tv, rfl, hf8, ho8⟩
      have hts := SlV.ofOwns ho8
      rw [← HM.out] at hts
      obtain ⟨ta, tc, rfl, _⟩ := hts
      have HG8 := Lib.hid (HG7.out.no hf8)
      have hmz : ((M : Int) == 0) = false := by simp; omega
      clear hf8 ho8 HG7
      go_wp2_with fail
      refine (works_any _).mono ?_
      rintro e w9 ⟨rfl, hf9⟩
      have HFin := Lib.hid (HG8.out.fx.trans hf9)
      clear hf9
      go_wp2
      go_ret
      exact ⟨rfl, HFin.out⟩
end
#print axioms alllaw_any
end Go.Proofs.Yteafkafkbipcmaa
