/- topo.Sort and Rest. | The law's rows: rows of numbers are compared, and written over. | Rows of numbers that a call builds: rows are put at the end, numbers are put to a row. | topo.Rounds. | topo.Depth and Only. -/
import Derived.Test.YteafkafkbipcmaaS3
import Derived.Test.YteafkafkbipcmaaS4
import Derived.Test.YteafkafkbipcmaaS2
import Derived.Test.YteafkafkbipcmaaM5
import Derived.StillTailTactics
import Derived.BigRegion
import Derived.BigQuiet
import Derived.Test.YteafkafkbipcmaaM1
import Derived.Laws.OwnMore
import Derived.Test.YteafkafkbipcmaaM4

namespace Go.Proofs.Yteafkafkbipcmaa
open Go.RowKit
set_option linter.unusedVariables false

theorem least_start (w : World) (t : TypeId) : LeastV w.heap.size w.heap.size (w.alloc (.cells #[.slice none 0 0] t)) (HpS w.heap.size (.slice none 0 0)) [] := by
  obtain ⟨h1, h2⟩ := new_cells (W := w) (cs := #[.slice none 0 0]) (t := t) (i := 0) rfl rfl
  exact ⟨.slice none 0 0, [], ⟨h1, h2, World.ownsRow_nil _ _ _ _, by simp [Value.ownBlock], Nat.le_refl _⟩, fun k h1 h2 => by simp at h2, List.Perm.refl _, List.Pairwise.nil, rfl⟩
theorem first_start (w : World) (t : TypeId) : FirstV w.heap.size w.heap.size (w.alloc (.cells #[.slice none 0 0] t)) (HpS w.heap.size (.slice none 0 0)) [] := by
  obtain ⟨h1, h2⟩ := new_cells (W := w) (cs := #[.slice none 0 0]) (t := t) (i := 0) rfl rfl
  exact ⟨.slice none 0 0, ⟨h1, h2⟩, .inl ⟨rfl, rfl⟩, by simp [Value.ownBlock], Nat.le_refl _, rfl⟩
theorem HpS_new {hb x : Nat} (h : HpS hb (.slice none 0 0) x) : x = hb := by
  rcases h with e | e
  · exact e
  · simp [Value.ownBlock] at e
/-- what Sort tells -/
def sres (L : List Ed) (N : Nat) : List Nat := if (srt L N).length = N then srt L N else []
def serr (L : List Ed) (N : Nat) : Int := if (srt L N).length = N then 0 else 140
section
variable {w : World} {D : Nat → Prop} {gb N : Nat} {L : List Ed}
theorem takenL_any (hg : GraphV w D gb N L) (t : TypeId) :
    Calls Try.prog 31 #[.pointer (some ⟨gb, 0, none⟩), .iface 71 (.pointer (some ⟨w.heap.size, 0, none⟩))] (w.alloc (.cells #[.slice none 0 0] t)) fun e w' => ∃ (ov : Value) (rb : Nat) (rd : Nat → Int), e = .returned (.tuple #[ov, .slice (some ⟨rb, 0, none⟩) N N]) ∧ Fx No w w' ∧ w'.ownsRow w.heap.size 3 1 ov (srt L N).length (ints (nI (srt L N))) := by
  have hf1 : Fx No w (w.alloc (.cells #[.slice none 0 0] t)) := (Fx.refl No w).alloc _
  have hg1 := hg.no hf1
  refine (taken_least (J := SortP L N) (least_line w.heap.size w.heap.size) hg1 (least_start w t) (fun x hx hd => ?_) (SortP.nil L N) (fun W F n rest ord hl hj hm => ?_)).mono ?_
  · have := HpS_new hx
    have := hg.lt x hd
    omega
  · obtain ⟨v, l, _, _, _, h4, _⟩ := hl
    exact hj.snoc (asc_ext (free_asc L N ord) h4 fun u => by rw [mem_free, hm u])
  · rintro e w2 ⟨ov, rb, ord, rd, rfl, hf2, ho, _, _, hk, hj⟩
    obtain rfl := hj.eq hk.stuck
    have hz : w.heap.size ≤ (w.alloc (.cells #[.slice none 0 0] t)).heap.size := hf1.size
    exact ⟨ov, rb, rd, rfl, hf1.trans' hf2 fun j e hl => by have := HpS_new e; omega, ownsRow_base ho hz⟩
theorem takenF_any (hg : GraphV w D gb N L) (t : TypeId) :
    Calls Try.prog 31 #[.pointer (some ⟨gb, 0, none⟩), .iface 66 (.pointer (some ⟨w.heap.size, 0, none⟩))] (w.alloc (.cells #[.slice none 0 0] t)) fun e w' => ∃ (ov : Value) (rb : Nat) (ord : List Nat) (rd : Nat → Int), e = .returned (.tuple #[ov, .slice (some ⟨rb, 0, none⟩) N N]) ∧ Fx No w w' ∧ (w.heap.size ≤ rb ∧ rb < w'.heap.size) ∧ IntB w' rb N rd ∧ KF L N ord rd := by
  have hf1 : Fx No w (w.alloc (.cells #[.slice none 0 0] t)) := (Fx.refl No w).alloc _
  have hg1 := hg.no hf1
  refine (taken_first (J := fun _ => True) (first_line w.heap.size w.heap.size) hg1 (first_start w t) (fun x hx hd => ?_) trivial (fun _ _ _ _ _ _ _ _ => trivial)).mono ?_
  · have := HpS_new hx
    have := hg.lt x hd
    omega
  · rintro e w2 ⟨ov, rb, ord, rd, rfl, hf2, ho, hr, hi, hk, _⟩
    have hz : w.heap.size ≤ (w.alloc (.cells #[.slice none 0 0] t)).heap.size := hf1.size
    exact ⟨ov, rb, ord, rd, rfl, hf1.trans' hf2 fun j e hl => by have := HpS_new e; omega, ⟨by omega, hr.2.1⟩, hi, hk⟩
set_option maxRecDepth 100000 in
set_option maxHeartbeats 4000000 in
theorem sort_any (hg : GraphV w D gb N L) : Calls Try.prog 15 #[.pointer (some ⟨gb, 0, none⟩)] w fun e w' => ∃ v', e = .returned (.tuple #[v', .int .i64 (serr L N)]) ∧ Fx No w w' ∧ w'.ownsRow w.heap.size 3 1 v' (sres L N).length (ints (nI (sres L N))) := by
  have HG := Lib.hid hg
  have hNN := hg.nn
  have CT := fun t => Lib.hid (takenL_any hg t)
  have hsl : (srt L N).length ≤ N := nd_len (srt_ok L N).2.1 (srt_ok L N).2.2.1
  clear hg
  go_enter Try.func15, Try.ntmps15
  go_wp2_with fail
  refine (CT _).out.mono ?_
  rintro e w2 ⟨ov, rb, rd, rfl, hf2, ho2⟩
  have HF2 := Lib.hid hf2
  have HO2 := Lib.hid ho2
  obtain ⟨oa, oc, rfl, _⟩ := SlV.ofOwns ho2
  clear hf2 ho2 CT
  go_wp2_with fail
  refine (gLen_any (HG.out.no HF2.out)).mono ?_
  rintro e w3 ⟨rfl, rfl⟩
  by_cases hl : (srt L N).length = N
  · have hlt : ¬ ((srt L N).length : Int) < (N : Int) := by omega
    have hr : Hid (sres L N = srt L N ∧ serr L N = 0) := Lib.hid ⟨if_pos hl, if_pos hl⟩
    clear hl
    go_wp2
    go_ret2
    exact ⟨_, by rw [hr.out.2]; rfl, HF2.out, by rw [hr.out.1]; exact HO2.out⟩
  · have hlt : ((srt L N).length : Int) < (N : Int) := by omega
    have hr : Hid (sres L N = [] ∧ serr L N = 140) := Lib.hid ⟨if_neg hl, if_neg hl⟩
    clear hl
    go_wp2
    go_ret2
    exact ⟨_, by rw [hr.out.2]; rfl, HF2.out, by rw [hr.out.1]; exact World.ownsRow_nil _ _ _ _⟩
set_option maxRecDepth 100000 in
set_option maxHeartbeats 4000000 in
theorem rest_any (hg : GraphV w D gb N L) : Calls Try.prog 11 #[.pointer (some ⟨gb, 0, none⟩)] w fun e w' => ∃ v', e = .returned v' ∧ Fx No w w' ∧ w'.ownsRow w.heap.size 3 1 v' (rstL L N).length (ints (nI (rstL L N))) := by
  obtain ⟨ii, hi, hz, hs, hb8⟩ := info_parts info_int'
  have HG := Lib.hid hg
  have hNN := hg.nn
  have CT := fun t => Lib.hid (takenF_any hg t)
  clear hg
  go_enter Try.func11, Try.ntmps11
  go_wp2_with fail
  refine (CT _).out.mono ?_
  rintro e w2 ⟨ov, rb, ord, rd, rfl, hf2, hr2, hi2, hk2⟩
  have HF2 := Lib.hid hf2
  have HR2 := Lib.hid hr2
  have HI2 := Lib.hid hi2
  have HK2 := Lib.hid hk2.rest
  clear hf2 hr2 hi2 hk2 CT
  go_wp2
  go_loopw [2, 19] (fun l i ws => ∃ (q : Nat), i = .int .i64 (q : Nat) ∧ q ≤ N ∧ Fx No w2 ws ∧ ws.ownsRow w2.heap.size 3 1 l ((List.range q).filter fun v => decide (rd v < 0)).length (ints (nI ((List.range q).filter fun v => decide (rd v < 0))))) (fun _ i _ => N - (intOf i).toNat)
  case atStart => exact ⟨0, rfl, by omega, Fx.refl _ _, World.ownsRow_nil _ _ _ _⟩
  case round =>
    obtain ⟨q, rfl, hq, hf, ho⟩ := hrel
    have HF := Lib.hid hf
    have HO := Lib.hid ho
    by_cases hqN : q < N
    · obtain ⟨p0, z0⟩ := HI2.out.no HF.out q hqN
      have q0 : (0 : Int) ≤ (q : Int) := by omega
      have q1 : (q : Int) < (N : Int) := by omega
      obtain ⟨R, hR⟩ : ∃ R, R = (List.range q).filter fun v => decide (rd v < 0) := ⟨_, rfl⟩
      have HR := Lib.hid hR
      rw [← hR] at HO
      have hRl : R.length ≤ q := by rw [hR]; exact Nat.le_trans (List.length_filter_le _ _) (by simp)
      obtain ⟨z, hz2⟩ : ∃ z, z = rd q := ⟨_, rfl⟩
      rw [← hz2] at p0
      have HZ := Lib.hid hz2
      have HSz : Hid (w2.heap.size ≤ wr.heap.size) := Lib.hid hf.size
      clear hf ho hR hz2
      by_cases hneg : z < 0
      · have HS : Hid ((List.range (q + 1)).filter (fun v => decide (rd v < 0)) = R ++ [q]) := Lib.hid (by
          rw [List.range_succ, List.filter_append, ← HR.out]; congr 1; simp [← HZ.out, hneg])
        go_wp2_with (at_builtin; refine wpList_append_kept rfl _ _ 32 rfl w2.heap.size 3 Try.underlying32 hi hz hs hb8 rfl (by decide) rfl (World.ownsRow.alloc HO.out _) rfl (SlV.lit _ 3 #[.int .i64 (q : Nat)] 1 1 rfl (by unfold maxLen; omega)) (ints_one [_]) (by omega) (by unfold maxLen; omega) (by omega) (by rw [World.size_alloc]; have := HSz.out; omega) ?_)
        intro v' w7 ho7 hf7 _ _
        have HE : Hid (Fx No w2 w7 ∧ w7.ownsRow w2.heap.size 3 1 v' (R ++ [q]).length (ints (nI (R ++ [q])))) := Lib.hid ⟨(HF.out.trans ((Fx.refl No _).alloc _)).trans' hf7 fun j e hl => by have := (World.ownsRow.lt HO.out j e).1; omega, by
          rw [List.length_append]
          have e : ints (nI (R ++ [q])) = ints (nI R) ++ [.int .i64 (q : Nat)] := by simp [ints, nI]
          rw [e]; exact ho7⟩
        clear ho7 hf7
        go_wp2
        go_roundw
        case rel => exact ⟨q + 1, by go_num, by omega, HE.out.1, by rw [HS.out]; exact HE.out.2⟩
        case measure => simp [intOf]; omega
      · have HS : Hid ((List.range (q + 1)).filter (fun v => decide (rd v < 0)) = R) := Lib.hid (by
          rw [List.range_succ, List.filter_append, ← HR.out]; simp [← HZ.out, hneg])
        go_wp2
        go_roundw
        case rel => exact ⟨q + 1, by go_num, by omega, HF.out, by rw [HS.out]; exact HO.out⟩
        case measure => simp [intOf]; omega
    · have hqe : q = N := by omega
      have q1 : ¬ (q : Int) < (N : Int) := by omega
      have HE : Hid (wr.ownsRow w.heap.size 3 1 _ (rstL L N).length (ints (nI (rstL L N)))) := Lib.hid (by rw [HK2.out, ← hqe]; exact ownsRow_base HO.out HF2.out.size)
      have HFE := Lib.hid (HF2.out.trans HF.out)
      clear hf ho hqe hqN
      go_wp2
      go_ret
      exact ⟨_, rfl, HFE.out, HE.out⟩
end
#print axioms sort_any
#print axioms rest_any
end Go.Proofs.Yteafkafkbipcmaa

namespace Go.Proofs.Yteafkafkbipcmaa
open Go.RowKit
set_option linter.unusedVariables false

def rg (R : List (List Int)) (i : Nat) : List Int := R.getD i []
theorem rg_ext {a b : List (List Int)} (h : a.length = b.length) (hg : ∀ k, k < a.length → rg a k = rg b k) : a = b := by
  apply List.ext_getElem h
  intro k h1 h2
  have := hg k h1
  simpa [rg, h1, h2] using this
/-- rows of numbers that are read -/
structure RowsR (w : World) (E : Nat → Prop) (v : Value) (R : List (List Int)) (V : Nat → Value) : Prop where
  hd : SlV w E v 1 R.length ((List.range R.length).map V)
  el : ∀ i, i < R.length → IntsV w E (V i) (rg R i)
/-- rows of numbers that may be written -/
structure RowsW (w : World) (D : Nat → Prop) (v : Value) (R : List (List Int)) (B : Nat → Nat) (V : Nat → Value) : Prop extends RowsR w D v R V where
  pl : ∀ i, i < R.length → 0 < (rg R i).length → ∃ c, V i = .slice (some ⟨B i, 0, none⟩) (rg R i).length c
  ce : ∀ i, i < R.length → 0 < (rg R i).length → CellsI w (B i) 0 (rg R i)
  inj : ∀ i j, i < R.length → j < R.length → i ≠ j → 0 < (rg R i).length → 0 < (rg R j).length → B i ≠ B j
theorem RowsR.facts {w : World} {E : Nat → Prop} {v : Value} {R : List (List Int)} {V : Nat → Value} (h : RowsR w E v R V) : ∃ ao cap, v = .slice ao R.length cap ∧ R.length ≤ 9223372036854775807 ∧ ∀ i, i < R.length → ∃ g o, ao = some ⟨g, o, none⟩ ∧ E g ∧ w.cell? ⟨g, o + i, none⟩ = some (V i) := by
  obtain ⟨ao, cap, h1, h2, h3, h4, h5, h6⟩ := h.hd
  unfold maxLen at h3
  refine ⟨ao, cap, h1, by omega, fun i hi => ?_⟩
  obtain ⟨b, o, h7, h8, h9⟩ := h6.addr (by simp; omega)
  have := h9 i (by simpa using hi)
  exact ⟨b, o, h7, h8, by rw [this]; simp [hi]⟩
theorem RowsR.keep {w w' : World} {E S : Nat → Prop} {v : Value} {R : List (List Int)} {V : Nat → Value} (h : RowsR w E v R V) (hf : Fx S w w') (hd : ∀ k, E k → ¬ S k) : RowsR w' E v R V :=
  ⟨h.hd.keep hf hd, fun i hi => (h.el i hi).keep hf hd⟩
theorem IntsV.recell {w ws : World} {D : Nat → Prop} {v : Value} {l : List Int} {B : Nat} (h : IntsV w D v l) (hat : 0 < l.length → ∃ c, v = .slice (some ⟨B, 0, none⟩) l.length c) (hc : 0 < l.length → CellsI ws B 0 l) : IntsV ws D v l := by
  obtain ⟨ao, cap, h1, h2, h3, h4, h5, h6⟩ := h
  refine ⟨ao, cap, h1, h2, h3, h4, h5, ?_⟩
  rcases Nat.eq_zero_or_pos l.length with h0 | h0
  · obtain rfl := List.eq_nil_of_length_eq_zero h0
    exact .inl rfl
  · obtain ⟨c, e⟩ := hat h0
    rw [h1] at e
    simp only [Value.slice.injEq] at e
    obtain ⟨rfl, -, rfl⟩ := e
    obtain ⟨b, o, h7, h8, h9⟩ := h6.addr (by simp [ints]; omega)
    simp only [Option.some.injEq, Addr.mk.injEq] at h7
    obtain ⟨rfl, rfl, -⟩ := h7
    refine .inr ⟨B, 0, rfl, h8, fun k hk => ?_⟩
    have hk' : k < l.length := by simpa [ints] using hk
    rw [(hc h0 k hk').1]
    simp [ints, gi, hk']
theorem RowsW.no {w w' : World} {D : Nat → Prop} {v : Value} {R : List (List Int)} {B : Nat → Nat} {V : Nat → Value} (h : RowsW w D v R B V) (hf : Fx No w w') : RowsW w' D v R B V :=
  ⟨h.toRowsR.keep hf No.disj, h.pl, fun i hi h0 k hk => hf.cellF (h.ce i hi h0 k hk).1 (h.ce i hi h0 k hk).2 (fun q => q), h.inj⟩
theorem RowsR.mono {w : World} {E T : Nat → Prop} {v : Value} {R : List (List Int)} {V : Nat → Value} (h : RowsR w E v R V) (hd : ∀ k, E k → T k) : RowsR w T v R V := ⟨h.hd.mono hd, fun i hi => (h.el i hi).mono hd⟩
theorem RowsW.mono {w : World} {D T : Nat → Prop} {v : Value} {R : List (List Int)} {B : Nat → Nat} {V : Nat → Value} (h : RowsW w D v R B V) (hd : ∀ k, D k → T k) : RowsW w T v R B V := ⟨h.toRowsR.mono hd, h.pl, h.ce, h.inj⟩
/-- rows that are written out -/
theorem RowsR.lit {w : World} {E : Nat → Prop} {R : List (List Int)} (U : Nat → Value) (t : TypeId) (h : ∀ i, i < R.length → IntsV w E (U i) (rg R i)) (hR : R.length ≤ 1000000) :
    RowsR (w.alloc (.cells ((List.range R.length).map U).toArray t)) (fun k => E k ∨ k = w.heap.size) (.slice (some ⟨w.heap.size, 0, none⟩) R.length R.length) R U := by
  refine ⟨⟨some ⟨w.heap.size, 0, none⟩, R.length, rfl, Nat.le_refl _, by unfold maxLen; omega, by simp, by simp, .inr ⟨w.heap.size, 0, rfl, .inr rfl, fun i hi => ?_⟩⟩, fun i hi => ((h i hi).mono fun _ => .inl).no ((Fx.refl No w).alloc _)⟩
  have hi' : i < R.length := by simpa using hi
  simp [hi']
/-- the rows behind i are as they were -/
structure RwS (w ws : World) (D : Nat → Prop) (ao : Option Addr) (R : List (List Int)) (B : Nat → Nat) (V : Nat → Value) (i : Nat) : Prop where
  fx : Fx D w ws
  hd : ∀ j, j < R.length → ∃ g o, ao = some ⟨g, o, none⟩ ∧ ws.cell? ⟨g, o + j, none⟩ = some (V j)
  el : ∀ j, i ≤ j → j < R.length → IntsV ws D (V j) (rg R j)
  ce : ∀ j, i ≤ j → j < R.length → 0 < (rg R j).length → CellsI ws (B j) 0 (rg R j)
theorem RwS.no {w ws w' : World} {D : Nat → Prop} {ao : Option Addr} {R : List (List Int)} {B : Nat → Nat} {V : Nat → Value} {i : Nat} (h : RwS w ws D ao R B V i) (hf : Fx No ws w') : RwS w w' D ao R B V i :=
  ⟨h.fx.trans hf.no, fun j hj => by obtain ⟨g, o, e, c⟩ := h.hd j hj; exact ⟨g, o, e, hf.cell' c (fun q => q)⟩, fun j hj hl => (h.el j hj hl).no hf, fun j hj hl h0 k hk => hf.cellF (h.ce j hj hl h0 k hk).1 (h.ce j hj hl h0 k hk).2 (fun q => q)⟩
set_option maxRecDepth 100000 in
set_option maxHeartbeats 4000000 in
theorem rows_any {w : World} {D E : Nat → Prop} {v u : Value} {R Q : List (List Int)} {B : Nat → Nat} {V U : Nat → Value} (h : RowsW w D v R B V) (h' : RowsR w E u Q U) (hE : ∀ k, E k → ¬ D k) :
    Calls Try.prog 16 #[v, u] w fun e w' => e = .returned (.bool (decide (R = Q))) ∧ Fx D w w' := by
  obtain ⟨ao, cap, rfl, hal, hc⟩ := h.toRowsR.facts
  obtain ⟨bo, bcap, rfl, hbl, hc'⟩ := h'.facts
  have H := Lib.hid h
  have HR := Lib.hid h'
  have HE := Lib.hid hE
  have HC' := Lib.hid hc'
  have HS0 : Hid (RwS w w D ao R B V 0) := Lib.hid ⟨Fx.refl _ _, fun j hj => by obtain ⟨g, o, e, _, c⟩ := hc j hj; exact ⟨g, o, e, c⟩, fun j _ hj => h.el j hj, fun j _ hj h0 => h.ce j hj h0⟩
  clear h h' hE hc hc'
  by_cases hl : R.length = Q.length
  · have hn : ((R.length : Int) != (Q.length : Int)) = false := by rw [hl]; simp
    have HL := Lib.hid hl
    obtain ⟨n, hnn⟩ : ∃ n, n = R.length := ⟨_, rfl⟩
    have HN := Lib.hid hnn
    rw [← hl] at hn ⊢
    rw [← hnn] at hn hal ⊢
    clear hl hnn hbl
    go_enter Try.func16, Try.ntmps16
    go_wp2
    go_loopw [5] (fun i ws => ∃ k : Nat, k ≤ n ∧ i = .int .i64 k ∧ (∀ j, j < k → rg R j = rg Q j) ∧ RwS w ws D ao R B V k) (fun i _ => n - (intOf i).toNat)
    case atStart => exact ⟨0, Nat.zero_le _, rfl, fun j hj => by omega, HS0.out⟩
    case round =>
      obtain ⟨i, hi, rfl, hq, hs⟩ := hrel
      have HQ := Lib.hid hq
      have HS := Lib.hid hs
      clear hq hs
      by_cases hlt : i < n
      · have hiR : i < R.length := by have := HN.out; omega
        have hiQ : i < Q.length := by have := HL.out; omega
        obtain ⟨g, o, rfl, hcell⟩ := HS.out.hd i hiR
        obtain ⟨g', o', rfl, hg', hcell'⟩ := HC'.out i hiQ
        have hcell' := HS.out.fx.cell' hcell' (HE.out _ hg')
        have hV := Lib.hid (HS.out.el i (Nat.le_refl _) hiR)
        have hU := Lib.hid (IntsV.keep (HR.out.el i hiQ) HS.out.fx HE.out)
        obtain ⟨vo, vc, hve, hvl, _⟩ := IntsV.facts hV.out
        obtain ⟨x, hx⟩ : ∃ x, x = V i := ⟨_, rfl⟩
        obtain ⟨y, hy⟩ : ∃ y, y = U i := ⟨_, rfl⟩
        rw [← hx] at hcell hve hV
        rw [← hy] at hcell' hU
        have HX := Lib.hid hx
        have HVe := Lib.hid hve
        have i0 : (0 : Int) ≤ (i : Int) := by omega
        have i1 : (i : Int) < (n : Int) := by omega
        obtain ⟨t, ht⟩ : ∃ t, t = (rg R i == rg Q i) := ⟨_, rfl⟩
        have HT := Lib.hid ht
        have CS : Hid (∀ W, Fx No wr W → Calls Try.prog 21 #[x, y] W fun e w' => e = .returned (.bool t) ∧ Fx No W w') := Lib.hid fun W hf => by rw [HT.out]; exact sameInts_any (hV.out.no hf) (hU.out.no hf)
        clear hx hy hve ht
        go_wp2_with fail
        go_still_tail 8, (by kernel_rfl)
        change wpList _ _ _ _ _ wr.drew
        go_wp2_with fail
        refine (CS.out _ (Fx.refl No wr).drew).mono ?_
        rintro e w1 ⟨rfl, hf1⟩
        have HS1 := Lib.hid (HS.out.no ((Fx.refl No wr).drew.trans hf1))
        clear hf1 CS hcell hcell'
        cases t
        · have HB : Hid (decide (R = Q) = false) := Lib.hid (decide_eq_false fun e => by
            have := HT.out
            rw [e, beq_self_eq_true] at this; cases this)
          go_wp2
          go_ret
          exact ⟨by rw [HB.out]; rfl, HS1.out.fx⟩
        · have HQ2 : Hid (∀ j, j < i + 1 → rg R j = rg Q j) := Lib.hid fun j hj => by
            by_cases e : j = i
            · rw [e]; exact eq_of_beq HT.out.symm
            · exact HQ.out j (by omega)
          clear HQ HT HS hV hU
          obtain ⟨m, hm⟩ : ∃ m, m = (rg R i).length := ⟨_, rfl⟩
          have HM := Lib.hid hm
          rw [← hm] at hvl
          clear hm
          have HO := Lib.hid (H.out.pl i hiR)
          have HDx : Hid (0 < m → D (B i)) := Lib.hid fun h0 => by
            obtain ⟨c, e⟩ := H.out.pl i hiR (by rw [← HM.out]; exact h0)
            obtain ⟨ao2, cap2, q1, _, q3⟩ := (H.out.toRowsR.el i hiR).facts
            obtain ⟨b2, o2, q4, q5, _⟩ := q3 0 (by rw [← HM.out]; exact h0)
            rw [e] at q1
            simp only [Value.slice.injEq] at q1
            rw [← q1.1] at q4
            simp only [Option.some.injEq, Addr.mk.injEq] at q4
            rw [q4.1]; exact q5
          rw [← HM.out] at HVe
          go_wp2
          go_loopw [6] (fun k ws => ∃ q : Nat, q ≤ m ∧ k = .int .i64 q ∧ RwS w ws D (some ⟨g, o, none⟩) R B V (i + 1) ∧ (∀ p, p < m → ∃ z, ws.cell? ⟨B i, p, none⟩ = some (.int .i64 z) ∧ ws.frozen? ⟨B i, p, none⟩ = false)) (fun k _ => m - (intOf k).toNat)
          case atStart => exact ⟨0, Nat.zero_le _, rfl, ⟨HS1.out.fx, HS1.out.hd, fun j hj => HS1.out.el j (by omega), fun j hj => HS1.out.ce j (by omega)⟩, fun p hp => by
            have := HS1.out.ce i (Nat.le_refl _) hiR (by rw [← HM.out]; omega) p (by rw [← HM.out]; exact hp)
            rw [Nat.zero_add] at this
            exact ⟨_, this⟩⟩
          case round =>
            obtain ⟨q, hqm, rfl, hs, hcs⟩ := hrel
            have HS2 := Lib.hid hs
            have HCs := Lib.hid hcs
            obtain ⟨g2, o2, e2, hcell⟩ := hs.hd i hiR
            simp only [Option.some.injEq, Addr.mk.injEq] at e2
            obtain ⟨rfl, rfl, -⟩ := e2
            rw [← HX.out, HVe.out] at hcell
            clear hs hcs
            by_cases hq : q < m
            · obtain ⟨c, e⟩ := HO.out (by rw [← HM.out]; omega)
              rw [← HX.out, HVe.out] at e
              simp only [Value.slice.injEq] at e
              obtain ⟨rfl, -, -⟩ := e
              obtain ⟨z, hz, hzf⟩ := HCs.out q hq
              have q0 : (0 : Int) ≤ (q : Int) := by omega
              have q1 : (q : Int) < (m : Int) := by omega
              have HW : Hid (RwS w (wr.setCell ⟨B i, q, none⟩ (.int .i64 77)) D (some ⟨g, o, none⟩) R B V (i + 1) ∧ ∀ p, p < m → ∃ z, (wr.setCell ⟨B i, q, none⟩ (.int .i64 77)).cell? ⟨B i, p, none⟩ = some (.int .i64 z) ∧ (wr.setCell ⟨B i, q, none⟩ (.int .i64 77)).frozen? ⟨B i, p, none⟩ = false) := Lib.hid (by
                have hne : ∀ j, i + 1 ≤ j → j < R.length → 0 < (rg R j).length → B i ≠ B j := fun j hj hl h0 => H.out.inj i j hiR hl (by omega) (by rw [← HM.out]; omega) h0
                have hfx : Fx (fun x => x = B i) wr (wr.setCell ⟨B i, q, none⟩ (.int .i64 77)) := Fx.put _ _ _ _
                have hce : ∀ j, i + 1 ≤ j → j < R.length → 0 < (rg R j).length → CellsI (wr.setCell ⟨B i, q, none⟩ (.int .i64 77)) (B j) 0 (rg R j) := fun j hj hl h0 k hk => hfx.cellF (HS2.out.ce j hj hl h0 k hk).1 (HS2.out.ce j hj hl h0 k hk).2 (fun e => hne j hj hl h0 (by have e : B j = B i := e; exact e.symm))
                refine ⟨⟨HS2.out.fx.setCell (.inr (HDx.out (by omega))) _, fun j hj => ?_, fun j hj hl => (HS2.out.el j hj hl).recell (H.out.pl j hl) (hce j hj hl), hce⟩, fun p hp => ?_⟩
                · obtain ⟨g3, o3, e3, c3⟩ := HS2.out.hd j hj
                  refine ⟨g3, o3, e3, ?_⟩
                  rw [World.cell?_setCell_other _ _ _ _ ?_]
                  · exact c3
                  · intro e4
                    obtain ⟨a4, c4, v4, _⟩ := (H.out.toRowsR.el j hj).facts
                    rw [← e4, hz, v4] at c3
                    cases c3
                · obtain ⟨z2, hz2, hf2⟩ := HCs.out p hp
                  by_cases e : p = q
                  · rw [e]
                    exact ⟨77, World.cell?_setCell_same _ _ _ hz, by simpa using hzf⟩
                  · exact ⟨z2, by rw [World.cell?_setCell_other _ _ _ _ (by intro e2; injection e2 with e3 e4; exact e e4.symm)]; exact hz2, by simpa using hf2⟩)
              go_wp2
              go_roundw
              case rel => exact ⟨q + 1, by omega, by go_num, HW.out.1, HW.out.2⟩
              case measure => simp [intOf]; omega
            · obtain rfl : q = m := by omega
              go_wp2
              go_roundw
              case rel => exact ⟨i + 1, by omega, by go_num, HQ2.out, HS2.out⟩
              case measure => simp [intOf]; omega
      · have HB : Hid (decide (R = Q) = true) := Lib.hid (decide_eq_true (rg_ext HL.out fun j hj => HQ.out j (by have := HN.out; omega)))
        obtain rfl : i = n := by omega
        go_wp2
        go_ret
        exact ⟨by rw [HB.out]; rfl, HS.out.fx⟩
  · have hn : ((R.length : Int) != (Q.length : Int)) = true := by simp; omega
    have HB : Hid (decide (R = Q) = false) := Lib.hid (decide_eq_false fun e => hl (by rw [e]))
    clear hl
    go_enter Try.func16, Try.ntmps16
    go_wp2
    go_ret
    exact ⟨by rw [HB.out]; rfl, Fx.refl _ _⟩
#print axioms rows_any
end Go.Proofs.Yteafkafkbipcmaa

namespace Go.Proofs.Yteafkafkbipcmaa
open Go.RowKit
set_option linter.unusedVariables false

/-- rows of the call's own -/
structure RowsO (w : World) (lo : Nat) (ov : Value) (P : List (List Int)) (V : Nat → Value) : Prop where
  own : w.ownsRow lo 32 1 ov P.length ((List.range P.length).map V)
  el : ∀ j, j < P.length → w.ownsRow lo 3 1 (V j) (rg P j).length (ints (rg P j))
  sep : ∀ j b, j < P.length → (V j).ownBlock = some b → ov.ownBlock ≠ some b ∧ ∀ i, i < P.length → i ≠ j → (V i).ownBlock ≠ some b
section
variable {w w' W w2 : World} {lo : Nat} {ov v' : Value} {P : List (List Int)} {V : Nat → Value}
theorem RowsO.nil (w : World) (lo : Nat) (V : Nat → Value) : RowsO w lo (.slice none 0 0) [] V := ⟨World.ownsRow_nil _ _ _ _, fun j hj => by simp at hj, fun j b hj => by simp at hj⟩
theorem RowsO.no (h : RowsO w lo ov P V) (hf : Fx No w w') : RowsO w' lo ov P V := ⟨ownsRow_fx h.own hf fun _ _ q => q, fun j hj => ownsRow_fx (h.el j hj) hf fun _ _ q => q, h.sep⟩
theorem RowsO.base {lo' : Nat} (h : RowsO w lo ov P V) (hl : lo' ≤ lo) : RowsO w lo' ov P V := ⟨ownsRow_base h.own hl, fun j hj => ownsRow_base (h.el j hj) hl, h.sep⟩
theorem rg_snoc {P : List (List Int)} {p : List Int} {j : Nat} : rg (P ++ [p]) j = if j = P.length then p else rg P j := by
  unfold rg
  by_cases e : j = P.length
  · rw [if_pos e, e]; simp
  · rw [if_neg e]
    by_cases h : j < P.length
    · simp [List.getD, List.getElem?_append_left h]
    · have : P.length + 1 ≤ j := by omega
      simp only [List.getD]
      rw [List.getElem?_eq_none (by simp; omega), List.getElem?_eq_none (by omega)]
theorem rg_set {P : List (List Int)} {p : List Int} {c j : Nat} (hc : c < P.length) : rg (P.set c p) j = if j = c then p else rg P j := by
  unfold rg
  by_cases e : j = c
  · subst e; simp [hc]
  · rw [if_neg e]; simp [List.getD, List.getElem?_set_ne (fun q => e q.symm)]
theorem RowsO.push (h : RowsO w lo ov P V) (hW : Fx No w W) (ho : w2.ownsRow lo 32 1 v' (P.length + 1) ((List.range P.length).map V ++ [.slice none 0 0])) (hfx : Fx (fun b => ov.ownBlock = some b) W w2)
    (hb : ∀ g, v'.ownBlock = some g → ov.ownBlock = some g ∨ W.heap.size ≤ g) : RowsO w2 lo v' (P ++ [[]]) (fun j => if j = P.length then .slice none 0 0 else V j) := by
  have hlt : ∀ j b, j < P.length → (V j).ownBlock = some b → b < w.heap.size := fun j b hj e => (World.ownsRow.lt (h.el j hj) b e).2
  have hz := hW.size
  refine ⟨?_, fun j hj => ?_, fun j b hj e => ?_⟩
  · rw [List.length_append, List.length_singleton, List.range_succ, List.map_append]
    have : (List.range P.length).map (fun j => if j = P.length then Value.slice none 0 0 else V j) = (List.range P.length).map V := List.map_congr_left fun j hj => by rw [if_neg (by have := List.mem_range.1 hj; omega)]
    rw [this]
    simpa using ho
  · rw [List.length_append, List.length_singleton] at hj
    rw [rg_snoc]
    by_cases e : j = P.length
    · rw [if_pos e, if_pos e]; exact World.ownsRow_nil _ _ _ _
    · rw [if_neg e, if_neg e]
      have hj' : j < P.length := by omega
      exact ownsRow_fx (ownsRow_fx (h.el j hj') hW fun _ _ q => q) hfx fun b e2 e3 => (h.sep j b hj' e2).1 e3
  · rw [List.length_append, List.length_singleton] at hj
    by_cases e1 : j = P.length
    · rw [if_pos e1] at e; simp [Value.ownBlock] at e
    · rw [if_neg e1] at e
      have hj' : j < P.length := by omega
      refine ⟨fun e2 => ?_, fun i hi hne => ?_⟩
      · rcases hb b e2 with e3 | e3
        · exact (h.sep j b hj' e).1 e3
        · have := hlt j b hj' e; omega
      · by_cases e2 : i = P.length
        · rw [if_pos e2]; simp [Value.ownBlock]
        · rw [if_neg e2]
          rw [List.length_append, List.length_singleton] at hi
          exact (h.sep j b hj' e).2 i (by omega) hne
theorem RowsO.put {g n cap c : Nat} {y : Int} (h : RowsO w lo (.slice (some ⟨g, 0, none⟩) n cap) P V) (hc : c < P.length) (hW : Fx No w W) (ho : w2.ownsRow lo 3 1 v' ((rg P c).length + 1) (ints (rg P c) ++ ints [y]))
    (hfx : Fx (fun b => (V c).ownBlock = some b) W w2) (hb : ∀ g, v'.ownBlock = some g → (V c).ownBlock = some g ∨ W.heap.size ≤ g) :
    RowsO (w2.setCell ⟨g, c, none⟩ v') lo (.slice (some ⟨g, 0, none⟩) n cap) (P.set c (rg P c ++ [y])) (fun j => if j = c then v' else V j) := by
  have hown := h.own
  have hn : n = P.length := by
    rcases h.own.2 with ⟨e, _⟩ | ⟨g', c', cur, e, _⟩
    · cases e
    · simp only [Value.slice.injEq] at e; exact e.2.1
  subst hn
  have hgl := World.ownsRow.lt hown g rfl
  have hlt : ∀ j b, j < P.length → (V j).ownBlock = some b → b < w.heap.size := fun j b hj e => (World.ownsRow.lt (h.el j hj) b e).2
  have hz := hW.size
  have hgv : ¬ (V c).ownBlock = some g := fun e => (h.sep c g hc e).1 rfl
  have hgv' : ¬ v'.ownBlock = some g := fun e => by
    rcases hb g e with e | e
    · exact hgv e
    · omega
  have hp : Fx (fun x => x = g) w2 (w2.setCell ⟨g, c, none⟩ v') := Fx.put _ _ _ _
  refine ⟨?_, fun j hj => ?_, fun j b hj e => ?_⟩
  · have h1 := ownsRow_fx (ownsRow_fx hown hW fun _ _ q => q) hfx fun b e e2 => hgv (by have e : some g = some b := e; rw [← e] at e2; exact e2)
    have h2 := (World.ownsRow.stored h1 c v').1
    rw [List.length_set]
    have : ((List.range P.length).map fun j => if j = c then v' else V j) = ((List.range P.length).map V).set c v' := by
      apply List.ext_getElem?
      intro i
      by_cases e : i = c
      · subst e
        rw [List.getElem?_set_self (by simp [hc])]
        simp [hc]
      · rw [List.getElem?_set_ne (fun q => e q.symm)]
        by_cases hi : i < P.length
        · simp [hi, e]
        · rw [List.getElem?_eq_none (by simp; omega), List.getElem?_eq_none (by simp; omega)]
    rw [this]; exact h2
  · rw [List.length_set] at hj
    rw [rg_set hc]
    by_cases e : j = c
    · rw [if_pos e, if_pos e]
      refine ownsRow_fx ?_ hp fun b e2 e3 => hgv' (by have e3 : b = g := e3; rw [← e3]; exact e2)
      rw [List.length_append, show ints (rg P c ++ [y]) = ints (rg P c) ++ ints [y] from List.map_append]
      exact ho
    · rw [if_neg e, if_neg e]
      have h1 := ownsRow_fx (ownsRow_fx (h.el j hj) hW fun _ _ q => q) hfx fun b e2 e3 => (h.sep j b hj e2).2 c hc (fun q => e q.symm) e3
      exact ownsRow_fx h1 hp fun b e2 e3 => (h.sep j b hj e2).1 (by have e3 : b = g := e3; rw [e3]; rfl)
  · rw [List.length_set] at hj
    by_cases e1 : j = c
    · rw [if_pos e1] at e
      subst e1
      rcases hb b e with e2 | e2
      · obtain ⟨q1, q2⟩ := h.sep j b hj e2
        exact ⟨q1, fun i hi hne => by rw [List.length_set] at hi; rw [if_neg hne]; exact q2 i hi hne⟩
      · refine ⟨fun e3 => ?_, fun i hi hne => ?_⟩
        · have e3 : some g = some b := e3
          simp only [Option.some.injEq] at e3; omega
        · rw [List.length_set] at hi
          rw [if_neg hne]
          intro e3
          have := hlt i b hi e3; omega
    · rw [if_neg e1] at e
      obtain ⟨q1, q2⟩ := h.sep j b hj e
      refine ⟨q1, fun i hi hne => ?_⟩
      rw [List.length_set] at hi
      by_cases e2 : i = c
      · subst e2
        rw [if_pos rfl]
        intro e3
        rcases hb b e3 with e4 | e4
        · exact q2 i hi hne e4
        · have := hlt j b hj e; omega
      · rw [if_neg e2]; exact q2 i hi hne
/-- they may be read, and be written -/
theorem RowsO.rowsW (h : RowsO w lo ov P V) : ∃ B, RowsW w (Iv lo w.heap.size) ov P B V := by
  refine ⟨fun j => ((V j).ownBlock).getD 0, ⟨SlV.ofOwns h.own, fun i hi => SlV.ofOwns (h.el i hi)⟩, fun i hi h0 => ?_, fun i hi h0 => ?_, fun i j hi hj hne h1 h2 e => ?_⟩
  · obtain ⟨g, cap, e, _, _⟩ := ownsRow_pos (h.el i hi) h0
    exact ⟨cap, by rw [e]; rfl⟩
  · obtain ⟨g, cap, e, _, _⟩ := ownsRow_pos (h.el i hi) h0
    have hh := h.el i hi
    rw [e] at hh
    intro k hk
    have hb : ((V i).ownBlock).getD 0 = g := by rw [e]; rfl
    rw [hb, Nat.zero_add]
    refine ⟨?_, World.ownsRow.frozenAt hh k⟩
    rw [World.ownsRow.cellAt hh k (by omega)]
    simp [ints, gi, hk]
  · obtain ⟨g1, c1, e1, _, _⟩ := ownsRow_pos (h.el i hi) h1
    obtain ⟨g2, c2, e2, _, _⟩ := ownsRow_pos (h.el j hj) h2
    have b1 : (V i).ownBlock = some g1 := by rw [e1]; rfl
    have b2 : (V j).ownBlock = some g2 := by rw [e2]; rfl
    have e : ((V i).ownBlock).getD 0 = ((V j).ownBlock).getD 0 := e
    rw [b1, b2] at e
    simp only [Option.getD_some] at e
    subst e
    exact (h.sep i g1 hi b1).2 j hj (fun q => hne q.symm) b2
end
#print axioms RowsO.put
#print axioms RowsO.rowsW
end Go.Proofs.Yteafkafkbipcmaa

namespace Go.Proofs.Yteafkafkbipcmaa
open Go.RowKit
set_option linter.unusedVariables false

theorem info_rowsR : (Try.prog.info? 32).map (fun i => (i.zero, i.size, i.bytes)) = some (some (.slice none 0 0), 1, 24) := by kernel_rfl
theorem rndF_len (L : List Ed) (N : Nat) : ∀ k S, (rndF L N k S).length ≤ k
  | 0, S => by simp [rndF]
  | k + 1, S => by
    unfold rndF
    split
    · simp
    · simp only [List.length_cons]; have := rndF_len L N k; rename_i v r _; have := this (S ++ v :: r); omega
theorem rnds_len (L : List Ed) (N : Nat) : (rnds L N).length ≤ N := rndF_len L N N []
theorem rowR_succ {q r : Nat} {rd : Nat → Int} : rowR (q + 1) rd r = if rd q = (r : Int) then rowR q rd r ++ [q] else rowR q rd r := by
  unfold rowR
  rw [List.range_succ, List.filter_append]
  by_cases e : rd q = (r : Int)
  · rw [if_pos e]; simp [e]
  · rw [if_neg e]; simp [e]
/-- the rounds, as far as the nodes below q tell them -/
structure RdP (K q : Nat) (rd : Nat → Int) (P : List (List Int)) : Prop where
  len : P.length ≤ K
  row : ∀ r, r < P.length → rg P r = nI (rowR q rd r)
  all : ∀ v, v < q → rd v < (P.length : Int)
section
variable {K q : Nat} {rd : Nat → Int} {P : List (List Int)}
theorem RdP.nil (K : Nat) (rd : Nat → Int) : RdP K 0 rd [] := ⟨by simp, fun r hr => by simp at hr, fun v hv => by omega⟩
theorem RdP.more (h : RdP K q rd P) (hl : P.length < K) : RdP K q rd (P ++ [[]]) := by
  refine ⟨by simp; omega, fun r hr => ?_, fun v hv => by have := h.all v hv; simp; omega⟩
  rw [rg_snoc]
  by_cases e : r = P.length
  · rw [if_pos e]
    have : rowR q rd r = [] := by
      rw [List.eq_nil_iff_forall_not_mem]
      intro v hv
      have h1 := mem_rowR.1 hv
      have := h.all v h1.1
      omega
    rw [this]; rfl
  · rw [if_neg e]; exact h.row r (by simp at hr; omega)
theorem RdP.put {c : Nat} (h : RdP K q rd P) (hc : rd q = (c : Int)) (hl : c < P.length) : RdP K (q + 1) rd (P.set c (rg P c ++ [(q : Int)])) := by
  refine ⟨by rw [List.length_set]; exact h.len, fun r hr => ?_, fun v hv => ?_⟩
  · rw [List.length_set] at hr
    rw [rg_set hl, rowR_succ]
    by_cases e : r = c
    · rw [if_pos e, if_pos (by rw [hc, e]), h.row c hl, e]
      simp [nI]
    · rw [if_neg e, if_neg (by rw [hc]; omega), h.row r hr]
  · rw [List.length_set]
    by_cases e : v = q
    · rw [e, hc]; omega
    · exact h.all v (by omega)
theorem RdP.skip (h : RdP K q rd P) (hc : rd q < 0) : RdP K (q + 1) rd P := by
  refine ⟨h.len, fun r hr => ?_, fun v hv => ?_⟩
  · rw [rowR_succ, if_neg (by omega)]; exact h.row r hr
  · by_cases e : v = q
    · rw [e]; omega
    · exact h.all v (by omega)
theorem RdP.fin {L : List Ed} {N : Nat} (h : RdP (rnds L N).length N rd P) (hr : rnds L N = (List.range (rnds L N).length).map (rowR N rd)) (hne : ∀ r, r < (rnds L N).length → rowR N rd r ≠ []) : P = (rnds L N).map nI := by
  have hl : P.length = (rnds L N).length := by
    have := h.len
    apply Classical.byContradiction
    intro hn
    obtain ⟨v, hv⟩ := List.exists_mem_of_ne_nil _ (hne P.length (by omega))
    have h1 := mem_rowR.1 hv
    have := h.all v h1.1
    omega
  refine rg_ext (by rw [hl, List.length_map]) fun k hk => ?_
  rw [h.row k hk]
  have hk2 : k < (rnds L N).length := by omega
  have : (rnds L N)[k]? = some (rowR N rd k) := by rw [hr]; simp [hk2]
  simp [rg, this]
end
theorem rnds_ne {L : List Ed} {N : Nat} : ∀ {k : Nat} {S : List Nat}, ∀ l ∈ rndF L N k S, l ≠ []
  | 0, S => fun l h => by simp [rndF] at h
  | k + 1, S => fun l h => by
    unfold rndF at h
    split at h
    · simp at h
    · rcases List.mem_cons.1 h with e | e
      · rw [e]; simp
      · exact rnds_ne l e
section
variable {w : World} {D : Nat → Prop} {gb N : Nat} {L : List Ed}
set_option maxRecDepth 100000 in
set_option maxHeartbeats 8000000 in
theorem roundsK_any (hg : GraphV w D gb N L) : Calls Try.prog 10 #[.pointer (some ⟨gb, 0, none⟩)] w fun e w' => ∃ v' V, e = .returned v' ∧ Fx No w w' ∧ RowsO w' w.heap.size v' ((rnds L N).map nI) V ∧ ∃ ord rd, KF L N ord rd := by
  obtain ⟨ii, hi, hz, hs, hb8⟩ := info_parts info_int'
  obtain ⟨ii2, hi2, hz2, hs2, hb2⟩ := info_parts info_rowsR
  have HG := Lib.hid hg
  have hNN := hg.nn
  have CT := fun t => Lib.hid (takenF_any hg t)
  have HNd : Hid (NdE L N) := Lib.hid hg.nodes
  clear hg
  go_enter Try.func10, Try.ntmps10
  go_wp2_with fail
  refine (CT _).out.mono ?_
  rintro e w2 ⟨ov, rb, ord, rd, rfl, hf2, hr2, hi2', hk2⟩
  have HF2 := Lib.hid hf2
  have HR2 := Lib.hid hr2
  have HI2 := Lib.hid hi2'
  have HK2 := Lib.hid hk2
  obtain ⟨K, hK⟩ : ∃ K, K = (rnds L N).length := ⟨_, rfl⟩
  have HKe := Lib.hid hK
  have hKN : K ≤ N := by rw [hK]; exact rnds_len L N
  have hko := hk2.rounds HNd.out
  rw [← hK] at hko
  have HKo := Lib.hid hko
  have HNe : Hid (∀ r, r < K → rowR N rd r ≠ []) := Lib.hid fun r hr => by
    refine rnds_ne (L := L) (N := N) (k := N) (S := []) _ ?_
    show _ ∈ rnds L N
    rw [hko.1]
    exact List.mem_map.2 ⟨r, List.mem_range.2 hr, rfl⟩
  clear hf2 hr2 hi2' hk2 CT hK hko
  go_wp2
  go_loopw [2, 19] (fun l i ws => ∃ (q : Nat) (P : List (List Int)) (V : Nat → Value), i = .int .i64 (q : Nat) ∧ q ≤ N ∧ Fx No w2 ws ∧ RowsO ws w2.heap.size l P V ∧ RdP K q rd P) (fun _ i _ => N - (intOf i).toNat)
  case atStart => exact ⟨0, [], fun _ => undef, rfl, by omega, Fx.refl _ _, RowsO.nil _ _ _, RdP.nil _ _⟩
  case round =>
    obtain ⟨q, P, V, rfl, hq, hf, ho, hp⟩ := hrel
    have HF := Lib.hid hf
    have HO := Lib.hid ho
    have HP := Lib.hid hp
    by_cases hqN : q < N
    · obtain ⟨p0, z0⟩ := HI2.out.no HF.out q hqN
      have q0 : (0 : Int) ≤ (q : Int) := by omega
      have q1 : (q : Int) < (N : Int) := by omega
      obtain ⟨z, hz3⟩ : ∃ z, z = rd q := ⟨_, rfl⟩
      rw [← hz3] at p0
      have HZ := Lib.hid hz3
      have hzK : z < (K : Int) := by rw [hz3]; exact HKo.out.2 q hqN
      clear hf ho hp hz3
      go_wp2
      go_loopw [2] (fun l ws => ∃ (P : List (List Int)) (V : Nat → Value), Fx No w2 ws ∧ RowsO ws w2.heap.size l P V ∧ RdP K q rd P) (fun l _ => K - slLen l)
      case atStart => exact ⟨P, V, HF.out, HO.out, HP.out⟩
      case round =>
        clear HF HO HP
        obtain ⟨P, V, hf, ho, hp⟩ := hrel
        have HF := Lib.hid hf
        have HO := Lib.hid ho
        have HP := Lib.hid hp
        obtain ⟨m, hm⟩ : ∃ m, m = P.length := ⟨_, rfl⟩
        have HM := Lib.hid hm
        have how := ho.own
        rw [← hm] at how
        obtain ⟨la, lc, rfl, _⟩ := SlV.ofOwns how
        have HOw := Lib.hid how
        have hmK : m ≤ K := by rw [hm]; exact hp.len
        have HSz : Hid (w2.heap.size ≤ wr.heap.size) := Lib.hid hf.size
        clear hf ho hp hm how
        by_cases hzm : (m : Int) ≤ z
        · go_wp2_with (at_builtin; refine wpList_append_kept rfl _ _ 30 rfl w2.heap.size 32 Try.underlying30 hi2 hz2 hs2 hb2 rfl (by decide) rfl (World.ownsRow.alloc HOw.out _) rfl (SlV.lit _ 32 #[.slice none 0 0] 1 1 rfl (by unfold maxLen; omega)) (fun u hu => by rw [show u = _ from List.mem_singleton.1 hu]; rfl) (by omega) (by unfold maxLen; omega) (by omega) (by rw [World.size_alloc]; have := HSz.out; omega) ?_)
          intro v6 w6 ho6 hf6 _ hb6
          have HE : Hid (Fx No w2 w6 ∧ RowsO w6 w2.heap.size v6 (P ++ [[]]) (fun j => if j = P.length then .slice none 0 0 else V j)) := Lib.hid ⟨(HF.out.trans ((Fx.refl No wr).alloc _)).trans' hf6 fun j e hl => by have := (World.ownsRow.lt HOw.out _ e).1; omega, HO.out.push ((Fx.refl No wr).alloc _) (by rw [← HM.out]; exact ho6) hf6 (fun q e => by rw [World.size_alloc]; exact hb6 q e)⟩
          have hs6 := slLen_own ho6
          clear ho6 hf6 hb6
          go_wp2
          go_roundw
          case rel => exact ⟨P ++ [[]], _, HE.out.1, HE.out.2, HP.out.more (by have := HM.out; omega)⟩
          case measure => rw [hs6]; simp only [slLen]; omega
        · by_cases hz0 : 0 ≤ z
          · obtain ⟨c, rfl⟩ := Int.eq_ofNat_of_zero_le hz0
            have hcm : c < m := by omega
            have hcP : c < P.length := by have := HM.out; omega
            have c0 : (0 : Int) ≤ (c : Int) := by omega
            have c1 : (c : Int) < (m : Int) := by omega
            obtain ⟨g, gc, e1, hgl, _⟩ := ownsRow_pos HOw.out (by omega)
            simp only [Value.slice.injEq] at e1
            obtain ⟨rfl, -, rfl⟩ := e1
            have hel := HO.out.el c hcP
            obtain ⟨eo, ec, hev, _⟩ := SlV.ofOwns hel
            obtain ⟨n, hn⟩ : ∃ n, n = (rg P c).length := ⟨_, rfl⟩
            rw [← hn] at hev hel
            have hnq : n ≤ q := by
              rw [hn, HP.out.row c hcP]
              simp only [nI, List.length_map, rowR]
              exact Nat.le_trans (List.length_filter_le _ _) (by simp)
            have hcell := World.ownsRow.cellAt HOw.out c (by omega)
            rw [show ((List.range m).map V)[c]? = some (V c) by simp [hcm], hev] at hcell
            have kfz : wr.frozen? ⟨g, c, none⟩ = false := World.ownsRow.frozenAt HOw.out c
            have n1 : ¬ (V c).ownBlock = some g := fun e => (HO.out.sep c g hcP e).1 rfl
            rw [hev] at hel n1
            have HEl := Lib.hid hel
            have HEv := Lib.hid hev
            have HNn := Lib.hid hn
            have HGl := Lib.hid hgl
            clear hel hev hn hgl hzm
            go_wp2_with (at_builtin; refine wpList_append_kept rfl _ _ 32 rfl w2.heap.size 3 Try.underlying32 hi hz hs hb8 rfl (by decide) rfl (World.ownsRow.alloc HEl.out _) rfl (SlV.lit _ 3 #[.int .i64 (q : Nat)] 1 1 rfl (by unfold maxLen; omega)) (ints_one [_]) (by omega) (by unfold maxLen; omega) (by omega) (by rw [World.size_alloc]; have := HSz.out; omega) ?_)
            intro v' w7 ho7 hf7 _ hb7
            obtain ⟨g', gc', rfl, _, _⟩ := ownsRow_pos ho7 (by omega)
            have q4 := hf7.cellF (((Fx.refl No wr).alloc (.cells #[.int .i64 (q : Nat)] 3)).cell' hcell (fun q => q)) (((Fx.refl No wr).alloc (.cells #[.int .i64 (q : Nat)] 3)).cellF hcell kfz (fun q => q)).2 n1
            have HE : Hid (Fx No w2 (w7.setCell ⟨g, c, none⟩ (.slice (some ⟨g', 0, none⟩) (n + 1) gc')) ∧ RowsO (w7.setCell ⟨g, c, none⟩ (.slice (some ⟨g', 0, none⟩) (n + 1) gc')) w2.heap.size (.slice (some ⟨g, 0, none⟩) m lc) (P.set c (rg P c ++ [(q : Int)])) (fun j => if j = c then (.slice (some ⟨g', 0, none⟩) (n + 1) gc') else V j)) := Lib.hid ⟨(((HF.out.trans ((Fx.refl No wr).alloc _)).trans' hf7 fun j e hl => by have := (World.ownsRow.lt HEl.out _ e).1; omega).setCell (.inl HGl.out) _), HO.out.put hcP ((Fx.refl No wr).alloc _) (by rw [← HNn.out]; exact ho7) (by rw [HEv.out]; exact hf7) (fun x e => by rw [HEv.out, World.size_alloc]; exact hb7 x e)⟩
            clear ho7 hf7 hb7 hcell kfz n1
            go_wp2
            go_roundw
            case rel => exact ⟨q + 1, _, _, by go_num, by omega, HE.out.1, HE.out.2, HP.out.put (by rw [← HZ.out]) hcP⟩
            case measure => simp [intOf]; omega
          · have hz1 : ¬ z ≥ 0 := hz0
            go_wp2
            go_roundw
            case rel => exact ⟨q + 1, P, V, by go_num, by omega, HF.out, HO.out, HP.out.skip (by rw [← HZ.out]; omega)⟩
            case measure => simp [intOf]; omega
    · have hqe : q = N := by omega
      have q1 : ¬ (q : Int) < (N : Int) := by omega
      have HE : Hid (P = (rnds L N).map nI) := Lib.hid (RdP.fin (by have := HP.out; rw [hqe, HKe.out] at this; exact this) (by rw [← HKe.out]; exact HKo.out.1) (by rw [← HKe.out]; exact HNe.out))
      have HFE := Lib.hid (HF2.out.trans HF.out)
      clear hf ho hp hqe hqN
      go_wp2
      go_ret
      exact ⟨_, rfl, HFE.out, ⟨V, by rw [← HE.out]; exact HO.out.base HF2.out.size⟩, ⟨_, _, HK2.out⟩⟩
theorem rounds_any (hg : GraphV w D gb N L) : Calls Try.prog 10 #[.pointer (some ⟨gb, 0, none⟩)] w fun e w' => ∃ v' V, e = .returned v' ∧ Fx No w w' ∧ RowsO w' w.heap.size v' ((rnds L N).map nI) V :=
  (roundsK_any hg).mono fun _ _ ⟨v', V, h1, h2, h3, _⟩ => ⟨v', V, h1, h2, h3⟩
end
#print axioms rounds_any
end Go.Proofs.Yteafkafkbipcmaa

namespace Go.Proofs.Yteafkafkbipcmaa
open Go.RowKit
set_option linter.unusedVariables false
attribute [go_sem] max_ints

def depD (L : List Ed) (N : Nat) : Int := if (srt L N).length = N then max 0 (((rnds L N).length : Int) - 1) else 0
/-- is there an edge between them? -/
def edB (L : List Ed) (a b : Nat) : Bool := L.any fun x => decide (x.f = (a : Int)) && decide (x.t = (b : Int))
def onlyB (L : List Ed) (N : Nat) : Bool := decide ((srt L N).length = N) && (List.range (N - 1)).all fun i => edB L (hx (srt L N) i) (hx (srt L N) (i + 1))
theorem betw_len {L : List Ed} {N a b : Nat} (ha : a < N) : ((rowI (outE L) N (a : Int)).filter fun x => decide (x.t = (b : Int))).length = 0 ↔ edB L a b = false := by
  rw [List.length_eq_zero_iff, List.filter_eq_nil_iff]
  unfold rowI edB
  rw [if_pos ⟨by omega, by omega⟩, Int.toNat_natCast, List.any_eq_false]
  constructor
  · intro h x hx
    by_cases e : x.f = (a : Int)
    · have := h x (mem_outE.2 ⟨hx, e⟩)
      simp [e]; simpa using this
    · simp [e]
  · intro h x hx
    obtain ⟨h1, h2⟩ := mem_outE.1 hx
    have := h x h1
    simp [h2] at this
    simpa using this
section
variable {w : World} {D : Nat → Prop} {gb N : Nat} {L : List Ed}
set_option maxRecDepth 100000 in
set_option maxHeartbeats 4000000 in
theorem depth_any (hg : GraphV w D gb N L) : Calls Try.prog 23 #[.pointer (some ⟨gb, 0, none⟩)] w fun e w' => e = .returned (.tuple #[.int .i64 (depD L N), .int .i64 (serr L N)]) ∧ Fx No w w' := by
  have HG := Lib.hid hg
  have hNN := hg.nn
  have hKN := rnds_len L N
  clear hg
  go_enter Try.func23, Try.ntmps23
  go_wp2_with fail
  refine (sort_any HG.out).mono ?_
  rintro e w2 ⟨v2, rfl, hf2, _⟩
  have HF2 := Lib.hid hf2
  clear hf2
  by_cases hl : (srt L N).length = N
  · have he : serr L N = 0 := if_pos hl
    have HD : Hid (depD L N = max 0 (((rnds L N).length : Int) - 1)) := Lib.hid (if_pos hl)
    have HSe := Lib.hid he
    rw [he]
    obtain ⟨K, hK⟩ : ∃ K, K = (rnds L N).length := ⟨_, rfl⟩
    have HK := Lib.hid hK
    rw [← hK] at hKN HD
    have hw : IntKind.i64.wrap ((K : Int) - 1) = (K : Int) - 1 := by rw [IntKind.wrap_i64]; omega
    clear hl he hK
    go_wp2_with fail
    refine (rounds_any (HG.out.no HF2.out)).mono ?_
    rintro e w3 ⟨v3, V, rfl, hf3, ho3⟩
    obtain ⟨ra, rc, e3, _⟩ := SlV.ofOwns ho3.own
    rw [List.length_map, ← HK.out] at e3
    subst e3
    have HF3 := Lib.hid (HF2.out.trans hf3)
    clear hf3 ho3
    go_wp2
    go_ret2
    exact ⟨by rw [HD.out, HSe.out]; rfl, HF3.out⟩
  · have he : serr L N = 140 := if_neg hl
    have HD : Hid (depD L N = 0) := Lib.hid (if_neg hl)
    have HSe := Lib.hid he
    rw [he]
    clear hl he
    go_wp2
    go_ret2
    exact ⟨by rw [HD.out, HSe.out]; rfl, HF2.out⟩
set_option maxRecDepth 100000 in
set_option maxHeartbeats 4000000 in
theorem only_any (hg : GraphV w D gb N L) : Calls Try.prog 24 #[.pointer (some ⟨gb, 0, none⟩)] w fun e w' => e = .returned (.bool (onlyB L N)) ∧ Fx No w w' := by
  have HG := Lib.hid hg
  have hNN := hg.nn
  clear hg
  go_enter Try.func24, Try.ntmps24
  go_wp2_with fail
  refine (sort_any HG.out).mono ?_
  rintro e w2 ⟨v2, rfl, hf2, ho2⟩
  have HF2 := Lib.hid hf2
  by_cases hl : (srt L N).length = N
  · have he : serr L N = 0 := if_pos hl
    have hsr : sres L N = srt L N := if_pos hl
    rw [hsr, hl] at ho2
    rw [he]
    obtain ⟨sa, sc, rfl, _⟩ := SlV.ofOwns ho2
    obtain ⟨l, hl2⟩ : ∃ l, l = srt L N := ⟨_, rfl⟩
    have HLe := Lib.hid hl2
    have hll : l.length = N := by rw [hl2]; exact hl
    have HLl := Lib.hid hll
    have HLn : Hid (∀ v ∈ l, v < N) := Lib.hid (by rw [hl2]; exact (srt_ok L N).2.2.1)
    have HO := Lib.hid (SlV.ofOwns ho2)
    rw [← hl2] at HO
    clear hf2 ho2 he hsr hl hl2 hll
    go_wp2
    go_loopw [5] (fun i ws => ∃ (q : Nat), i = .int .i64 (q : Nat) ∧ 1 ≤ q ∧ q ≤ max 1 N ∧ Fx No w2 ws ∧ ∀ j, j + 1 < q → edB L (hx l j) (hx l (j + 1)) = true) (fun i _ => N - (intOf i).toNat)
    case atStart => exact ⟨1, rfl, by omega, by omega, Fx.refl _ _, fun j hj => by omega⟩
    case round =>
      obtain ⟨q, rfl, hq1, hq, hf, hall⟩ := hrel
      have HF := Lib.hid hf
      have HAll := Lib.hid hall
      by_cases hqN : q < N
      · obtain ⟨p, rfl⟩ : ∃ p, q = p + 1 := ⟨q - 1, by omega⟩
        have hsl := HO.out.keep hf No.disj
        obtain ⟨ao, cap, e1, _, _, _, _, h6⟩ := hsl
        simp only [Value.slice.injEq] at e1
        obtain ⟨rfl, -, rfl⟩ := e1
        obtain ⟨b, o, rfl, hb, hk⟩ := h6.addr (by simp [ints, nI]; have := HLl.out; omega)
        have p0 : wr.cell? ⟨b, o + p, none⟩ = some (.int .i64 (hx l p : Nat)) := by
          rw [hk p (by simp [ints, nI]; have := HLl.out; omega)]; simp [ints, nI, hx, show p < l.length by have := HLl.out; omega]
        have p1 : wr.cell? ⟨b, o + (p + 1), none⟩ = some (.int .i64 (hx l (p + 1) : Nat)) := by
          rw [hk (p + 1) (by simp [ints, nI]; have := HLl.out; omega)]; simp [ints, nI, hx, show p + 1 < l.length by have := HLl.out; omega]
        obtain ⟨a, ha⟩ : ∃ a, a = hx l p := ⟨_, rfl⟩
        obtain ⟨c, hc⟩ : ∃ c, c = hx l (p + 1) := ⟨_, rfl⟩
        have haN : a < N := by rw [ha]; exact HLn.out _ (hx_mem (by have := HLl.out; omega))
        rw [← ha] at p0
        rw [← hc] at p1
        have HA := Lib.hid ha
        have HC := Lib.hid hc
        have q0 : (0 : Int) ≤ ((p + 1 : Nat) : Int) := by omega
        have q1 : ((p + 1 : Nat) : Int) < (N : Int) := by omega
        have r0 : (0 : Int) ≤ (p : Int) := by omega
        have r1 : (p : Int) < (N : Int) := by omega
        have hw : IntKind.i64.wrap (p : Int) = (p : Int) := by rw [IntKind.wrap_i64]; omega
        have q2 : (0 : Int) ≤ (p : Int) + 1 := by omega
        have q3 : (p : Int) + 1 < (N : Int) := by omega
        clear hf hall h6 hk ha hc
        go_wp2_with fail
        go_still_tail 10, (by kernel_rfl)
        change wpList _ _ _ _ _ wr.drew
        go_wp2_with fail
        refine (gBetween_any (HG.out.no (HF2.out.trans HF.out.drew)) a c).mono ?_
        rintro e w3 ⟨v3, rfl, hf3, ho3⟩
        have HF3 := Lib.hid (HF.out.drew.trans hf3)
        obtain ⟨xa, xc, rfl, _⟩ := SlV.ofOwns ho3
        have hbl := betw_len (L := L) (b := c) haN
        obtain ⟨n, hn⟩ : ∃ n, n = ((rowI (outE L) N (a : Int)).filter fun x => decide (x.t = (c : Int))).length := ⟨_, rfl⟩
        rw [← hn] at hbl ⊢
        clear hf3 ho3 hn p0 p1
        by_cases hn0 : n = 0
        · have hd : ((n : Int) == 0) = true := by rw [hn0]; rfl
          have HB : Hid (onlyB L N = false) := Lib.hid (by
            unfold onlyB
            rw [Bool.and_eq_false_iff]
            right
            rw [List.all_eq_false]
            refine ⟨p, List.mem_range.2 (by omega), ?_⟩
            rw [← HLe.out, ← HA.out, ← HC.out, hbl.1 hn0]; simp)
          clear hbl hn0
          go_wp2
          go_ret
          exact ⟨by rw [HB.out]; rfl, HF2.out.trans HF3.out⟩
        · have hd : ((n : Int) == 0) = false := by simp; omega
          have HB : Hid (edB L (hx l p) (hx l (p + 1)) = true) := Lib.hid (by
            rw [← HA.out, ← HC.out]
            cases h : edB L a c with
            | true => rfl
            | false => exact absurd (hbl.2 h) hn0)
          clear hbl hn0
          go_wp2
          go_roundw
          case rel => exact ⟨p + 1 + 1, by go_num, by omega, by omega, HF3.out, fun j hj => by
            by_cases e : j = p
            · rw [e]; exact HB.out
            · exact HAll.out j (by omega)⟩
          case measure => simp [intOf]; omega
      · have q1 : ¬ (q : Int) < (N : Int) := by omega
        have HB : Hid (onlyB L N = true) := Lib.hid (by
          unfold onlyB
          rw [← HLe.out, Bool.and_eq_true, List.all_eq_true]
          refine ⟨by simpa using HLl.out, fun i hi => ?_⟩
          have := List.mem_range.1 hi
          exact hall i (by omega))
        have HFE := Lib.hid (HF2.out.trans HF.out)
        clear hf hall
        go_wp2
        go_ret
        exact ⟨by rw [HB.out]; rfl, HFE.out⟩
  · have he : serr L N = 140 := if_neg hl
    have HB : Hid (onlyB L N = false) := Lib.hid (by unfold onlyB; rw [decide_eq_false hl]; rfl)
    rw [he]
    clear hl he hf2 ho2
    go_wp2
    go_ret
    exact ⟨by rw [HB.out]; rfl, HF2.out⟩
end
#print axioms depth_any
#print axioms only_any
end Go.Proofs.Yteafkafkbipcmaa
