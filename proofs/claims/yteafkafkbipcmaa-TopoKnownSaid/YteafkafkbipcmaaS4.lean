/- topo.taken: nodes taken away, one by one, by the line first. -/
import Derived.Test.YteafkafkbipcmaaS2
import Derived.Test.YteafkafkbipcmaaM5
import Derived.Deep.OwnRows
import Derived.Deep.DeepCutAuto
import Derived.Deep.CutBlock

namespace Go.Proofs.Yteafkafkbipcmaa
open Go.RowKit
set_option linter.unusedVariables false
attribute [go_sem] max_ints

section
variable {LV : World → (Nat → Prop) → List Nat → Prop} {ins : Nat → List Nat → List Nat}
variable {w0 : World} {D F0 : Nat → Prop} {gb N hb : Nat} {L : List Ed}
set_option maxRecDepth 100000 in
set_option maxHeartbeats 16000000 in
theorem taken_first {J : List Nat → Prop} (hC : LineC LV 66 (.pointer (some ⟨hb, 0, none⟩)) 84 83 85 ins) (hg : GraphV w0 D gb N L) (hv : LV w0 F0 []) (hFD : ∀ x, F0 x → ¬ D x)
    (hJ0 : J []) (hJ : ∀ w F n rest ord, LV w F (n :: rest) → J ord → (∀ v, v ∈ n :: rest ↔ v < N ∧ v ∉ ord ∧ ∀ x ∈ L, x.t = (v : Int) → x.f.toNat ∈ ord) → J (ord ++ [n])) :
    Calls Try.prog 31 #[.pointer (some ⟨gb, 0, none⟩), .iface 66 (.pointer (some ⟨hb, 0, none⟩))] w0 fun e w' => ∃ (ov : Value) (rb : Nat) (ord : List Nat) (rd : Nat → Int), e = .returned (.tuple #[ov, .slice (some ⟨rb, 0, none⟩) N N]) ∧ Fx F0 w0 w' ∧ w'.ownsRow w0.heap.size 3 1 ov ord.length (ints (nI ord)) ∧ (w0.heap.size ≤ rb ∧ rb < w'.heap.size ∧ ¬ ov.ownBlock = some rb) ∧ IntB w' rb N rd ∧ KF L N ord rd ∧ J ord := by
  obtain ⟨ii, hi, hz, hs, hb8⟩ := info_parts info_int'
  have hNN := hg.nn
  have hLs := hg.small
  have HG := Lib.hid hg
  have HD : Hid (∀ x, D x → x < w0.heap.size) := Lib.hid hg.lt
  have HC := Lib.hid hC
  have HV := Lib.hid hv
  have HFD := Lib.hid hFD
  have HJ0 := Lib.hid hJ0
  have HJ := Lib.hid hJ
  have HNd : Hid (NdE L N) := Lib.hid hg.nodes
  have HLn : Hid L.Nodup := Lib.hid hg.asc.nodup
  have m1 := hC.mpush
  have m2 := hC.mpop
  have m3 := hC.msome
  have hm1 := run_make_row' (P := Try.prog) 32 3 (.int .i64 0) 8 Try.underlying32 (by kernel_rfl) rfl .i64 .i64 N (by omega) (by omega)
  clear hg hC hv hFD hJ0 hJ
  go_enter Try.func31, Try.ntmps31
  go_wp2_with fail
  refine (gLen_any HG.out).mono ?_
  rintro e w1 ⟨rfl, rfl⟩
  go_wp2_with fail
  refine (gLen_any (HG.out.no ((Fx.refl No w0).alloc _))).mono ?_
  rintro e w1 ⟨rfl, rfl⟩
  go_upto_region 4 with fail
  refine wp_hold (fun W => TK LV w0 W D F0 F0 gb N L [] w0.heap.size (w0.heap.size + 1) (fun _ => 0) (fun _ => 0)) ?_ ?_
  · have f1 : Fx No w0 (w0.alloc (.cells (madeCells #[.int .i64 0] N) 3)) := (Fx.refl No w0).alloc _
    have f2 : Fx No (w0.alloc (.cells (madeCells #[.int .i64 0] N) 3)) ((w0.alloc (.cells (madeCells #[.int .i64 0] N) 3)).alloc (.cells (madeCells #[.int .i64 0] N) 3)) := (Fx.refl No _).alloc _
    have z1 : (w0.alloc (.cells (madeCells #[.int .i64 0] N) 3)).heap.size = w0.heap.size + 1 := World.size_alloc _ _
    have z2 : ((w0.alloc (.cells (madeCells #[.int .i64 0] N) 3)).alloc (.cells (madeCells #[.int .i64 0] N) 3)).heap.size = w0.heap.size + 1 + 1 := by rw [World.size_alloc, z1]
    have hn1 : ¬ F0 w0.heap.size := fun e => by have := HC.out.lt _ _ _ HV.out _ e; omega
    have hn2 : ¬ F0 (w0.heap.size + 1) := fun e => by have := HC.out.lt _ _ _ HV.out _ e; omega
    refine ⟨(f1.trans f2).no, HG.out.no (f1.trans f2), HC.out.keep _ _ _ _ _ HV.out (f1.trans f2) (fun _ _ q => q), fun x hx => .inl hx, ?_, ?_, hn1, hn2, by omega, ⟨Nat.le_refl _, by omega, by omega, by omega⟩⟩
    · exact IntB.no (fun i hi => new_cells rfl (by simp [madeCells, hi, Nat.mod_one])) f2
    · exact fun i hi => new_cells z1.symm (by simp [madeCells, hi, Nat.mod_one])
  obtain ⟨wb, hwb⟩ : ∃ x, x = w0.heap.size := ⟨_, rfl⟩
  obtain ⟨rb, hrb⟩ : ∃ x, x = w0.heap.size + 1 := ⟨_, rfl⟩
  rw [← hrb, ← hwb]
  rintro w1 hT
  have HT := Lib.hid hT
  have HWb := Lib.hid hwb
  have HRb := Lib.hid hrb
  clear hT hm1 hwb hrb
  go_loopw [20] (fun i ws => ∃ (k : Nat) (F : Nat → Prop) (Q : List Nat) (fW fR : Nat → Int), i = .int .i64 k ∧ k ≤ N ∧ TK LV w0 ws D F0 F gb N L Q wb rb fW fR ∧ (∀ v, v ∈ Q ↔ v < k ∧ ∀ x ∈ L, x.t ≠ (v : Int)) ∧ Q.Nodup ∧ ∀ j, j < k → fW j = (wtD L [] j : Nat) ∧ fR j = if ∃ x ∈ L, x.t = (j : Int) then -1 else 0) (fun i _ => N - (intOf i).toNat)
  case atStart => exact ⟨0, _, _, _, _, rfl, by omega, HT.out, by simp, List.nodup_nil, fun j hj => by omega⟩
  case round =>
    obtain ⟨k, F, Q, fW, fR, rfl, hk, hT, hQ, hQn, hfs⟩ := hrel
    have HT2 := Lib.hid hT
    have HQ := Lib.hid hQ
    have HQn := Lib.hid hQn
    have HFs := Lib.hid hfs
    clear hT hQ hQn hfs HT
    by_cases hkN : k < N
    · have k0 : (0 : Int) ≤ (k : Int) := by omega
      have k1 : (k : Int) < (N : Int) := by omega
      have HKn := Lib.hid hkN
      go_wp2_with fail
      refine (gIn_any HT2.out.g (k : Int)).mono ?_
      rintro e w3 ⟨v3, rfl, hf3, ho3⟩
      have hrow : rowI (inE L) N (k : Int) = inE L k := by unfold rowI; rw [if_pos ⟨k0, k1⟩, Int.toNat_natCast]
      rw [hrow] at ho3
      obtain ⟨a3, c3, rfl, _⟩ := OwnT.row ho3
      have hlen : (inE L k).length = wtD L [] k := by unfold wtD inE; congr 1; refine List.filter_congr fun x hx => ?_; simp
      rw [hlen]
      have ht3 := HT2.out.no HC.out hf3
      have HT3 := Lib.hid ht3
      obtain ⟨p0, q0⟩ := ht3.wB k hkN
      obtain ⟨p1, q1⟩ := ht3.rB k hkN
      have hwr := ht3.wr
      have hrw : ¬ rb = wb := fun e => hwr e.symm
      obtain ⟨wl, hwl⟩ : ∃ x, x = wtD L [] k := ⟨_, rfl⟩
      rw [← hwl]
      have HWl := Lib.hid hwl
      clear hf3 ho3 hrow hlen ht3 hwl
      go_upto_region 7 with fail
      refine wp_hold (fun W => TK LV w0 W D F0 F gb N L Q wb rb (fun j => if j = k then (wl : Nat) else fW j) (fun j => if j = k then -1 else fR j)) ((HT3.out.setW HC.out HD.out hkN _).setR HC.out HD.out hkN _) ?_
      rintro w4 hT4
      have HT4 := Lib.hid hT4
      obtain ⟨p0, q0⟩ := hT4.wB k hkN
      obtain ⟨p1, q1⟩ := hT4.rB k hkN
      simp only [if_true] at p0 p1
      clear hT4
      have hql : Hid (Q.length ≤ N) := Lib.hid (nd_len HQn.out fun x hx => by have := ((HQ.out x).1 hx).1; omega)
      by_cases hw0 : wl = 0
      · have dw : ((wl : Int) == 0) = true := by simp [hw0]
        have HNo : Hid (∀ x ∈ L, x.t ≠ (k : Int)) := Lib.hid fun x hx e => by
          have := wtD_zero.1 (HWl.out.symm.trans hw0) x hx e
          simp at this
        have HkQ : Hid (k ∉ Q) := Lib.hid fun e => by have := ((HQ.out k).1 e).1; omega
        clear hw0
        go_upto_region 9 with fail
        refine wp_hold (fun W => TK LV w0 W D F0 F gb N L Q wb rb (fun j => if j = k then (wl : Nat) else fW j) (fun j => if j = k then 0 else if j = k then -1 else fR j)) (HT4.out.setR HC.out HD.out hkN _) ?_
        rintro w5 hT5
        have HT5 := Lib.hid hT5
        clear hT5 p0 q0 p1 q1
        go_wp2_with fail
        refine (HC.out.push _ _ _ k HT5.out.lv (by have := hql.out; omega) (by omega) HkQ.out).mono ?_
        rintro e w6 ⟨rfl, hf6, F6, hv6, hF6⟩
        have HT6 := Lib.hid (HT5.out.line (HT5.out.FD HC.out HD.out HFD.out) hf6 hv6 hF6)
        clear hf6 hv6 hF6
        go_wp2
        go_roundw
        case rel => exact ⟨k + 1, F6, ins k Q, _, _, by go_num, by omega, HT6.out, fun v => by
          rw [HC.out.mem, HQ.out]
          constructor
          · rintro (e | ⟨e1, e2⟩)
            · rw [e]; exact ⟨by omega, HNo.out⟩
            · exact ⟨by omega, e2⟩
          · rintro ⟨e1, e2⟩
            by_cases e : v = k
            · exact .inl e
            · exact .inr ⟨by omega, e2⟩, HC.out.nd _ _ HQn.out HkQ.out, fun j hj => by
          by_cases e : j = k
          · subst e
            simp only [if_true]
            exact ⟨by rw [HWl.out], by rw [if_neg fun ⟨x, hx, e2⟩ => HNo.out x hx e2]⟩
          · simp only [if_neg e]; exact HFs.out j (by omega)⟩
        case measure => simp [intOf]; omega
      · have dw : ((wl : Int) == 0) = false := by simp; omega
        have HEx : Hid (∃ x ∈ L, x.t = (k : Int)) := Lib.hid (by
          apply Classical.byContradiction
          intro hn
          apply hw0
          rw [HWl.out, wtD_zero]
          exact fun x hx e => absurd ⟨x, hx, e⟩ hn)
        clear hw0
        go_wp2
        go_roundw
        case rel => exact ⟨k + 1, F, Q, _, _, by go_num, by omega, HT4.out, fun v => by
          rw [HQ.out]
          constructor
          · rintro ⟨e1, e2⟩; exact ⟨by omega, e2⟩
          · rintro ⟨e1, e2⟩
            by_cases e : v = k
            · obtain ⟨x, hx, e3⟩ := HEx.out
              exact absurd (by rw [e]; exact e3) (e2 x hx)
            · exact ⟨by omega, e2⟩, HQn.out, fun j hj => by
          by_cases e : j = k
          · subst e
            simp only [if_true]
            exact ⟨by rw [HWl.out], by rw [if_pos HEx.out]⟩
          · simp only [if_neg e]; exact HFs.out j (by omega)⟩
        case measure => simp [intOf]; omega
    · have hke : k = N := by omega
      have HQ2 : Hid (∀ v, v ∈ Q ↔ v < N ∧ ∀ x ∈ L, x.t ≠ (v : Int)) := Lib.hid (by rw [← hke]; exact HQ.out)
      have k1 : ¬ (k : Int) < (N : Int) := by omega
      have HFs2 : Hid (∀ j, j < N → fW j = (wtD L [] j : Nat) ∧ fR j = if ∃ x ∈ L, x.t = (j : Int) then -1 else 0) := Lib.hid fun j hj => HFs.out j (by omega)
      clear hk hkN hke HQ HFs m1
      have m1 := HC.out.mpush
      go_wp2_with fail
      refine (cloneA_any (HT2.out.rB.ints (Nat.le_refl _) (by unfold maxLen; omega)) (rowF_len N fR).symm (by rw [rowF_len]; omega)).mono ?_
      rw [rowF_len]
      rintro e w3 ⟨fb, fc, rfl, hf3, ho3, hfb1, hfb2⟩
      have hst := HT2.out.fx.size
      have hlk : LK LV w0 w3 D F0 F gb N L Q wb rb fb (fun j => (wtD L [] j : Nat)) (fun v => if ∃ x ∈ L, x.t = (v : Int) then -1 else 0) (fun v => if ∃ x ∈ L, x.t = (v : Int) then -1 else 0) (.slice none 0 0) [] No (.slice none 0 0) [] := by
        have h := HT2.out
        have hl := h.lo
        have hfz := hf3.size
        exact ⟨h.fx.transNo hf3, h.g.no hf3, HC.out.keep _ _ _ _ _ h.lv hf3 (fun _ _ q => q), h.fF, (h.wB.no hf3).congr fun i hi => (HFs2.out i hi).1, (h.rB.no hf3).congr fun i hi => (HFs2.out i hi).2, (IntB.ofOwns ho3).congr fun i hi => (HFs2.out i hi).2, ⟨h.nw, h.nr, fun e => by have := HC.out.lt _ _ _ h.lv _ e; omega⟩, ⟨h.wr, by omega, by omega⟩, ⟨hl.1, hl.2.1, by omega⟩, ⟨by omega, by omega, hfb2⟩, World.ownsRow_nil _ _ _ _, fun y hy => by simp [Value.ownBlock] at hy, RowV.nil _ _, fun y hy => hy.elim⟩
      have HLK0 := Lib.hid hlk
      have HKL0 := Lib.hid (KL.start HQ2.out HQn.out)
      clear hf3 ho3 hfb1 hfb2 hlk HT2 HQ2 HQn HFs2 hst k1
      go_wp2
      go_loopw [4] (fun o ws => ∃ (F : Nat → Prop) (Q : List Nat) (fW fR fF : Nat → Int) (ord : List Nat) (dn : List Ed), LK LV w0 ws D F0 F gb N L Q wb rb fb fW fR fF o ord No (.slice none 0 0) [] ∧ KL L N ord Q dn fW fF fR ∧ (∀ x ∈ L, x.f.toNat ∈ ord → x ∈ dn) ∧ J ord) (fun o _ => N - slLen o)
      case atStart => exact ⟨_, _, _, _, _, _, _, HLK0.out, HKL0.out, fun x hx h => by simp at h, HJ0.out⟩
      case round =>
        clear HLK0 HKL0
        obtain ⟨F, Q, fW, fR, fF, ord, dn, hlk, hkl, hfull, hj⟩ := hrel
        have HLK := Lib.hid hlk
        have HKL := Lib.hid hkl
        have HFull := Lib.hid hfull
        have HJo := Lib.hid hj
        clear hlk hkl hfull hj
        cases Q with
        | nil =>
          have hso := HC.out.some _ _ _ HLK.out.lv
          have dQ : decide (0 < ([] : List Nat).length) = false := rfl
          rw [dQ] at hso
          have HSo := Lib.hid hso
          clear hso dQ
          go_wp2_with fail
          refine HSo.out.mono ?_
          rintro e w5 ⟨rfl, rfl⟩
          go_wp2
          go_ret2
          exact ⟨_, _, _, _, rfl, HLK.out.fx, HLK.out.own, ⟨HLK.out.lo.2.1, HLK.out.hi.2.1, fun e => (HLK.out.od _ e).1.2.2.1 rfl⟩, HLK.out.rB, HKL.out.ki.fin HNd.out HFull.out, HJo.out⟩
        | cons n Q =>
          have hso := HC.out.some _ _ _ HLK.out.lv
          have dQ : decide (0 < (n :: Q).length) = true := by simp
          rw [dQ] at hso
          have HSo := Lib.hid hso
          have hql : (n :: Q).length ≤ N := nd_len HKL.out.ki.ndQ fun x hx => HKL.out.ki.lt x (.inr hx)
          have hqc : Q.length ≤ 100000 := by simp at hql; omega
          have HPop := Lib.hid (HC.out.pop _ _ _ _ HLK.out.lv hqc)
          have hnN := HKL.out.ki.lt n (.inr (by simp))
          have n0 : (0 : Int) ≤ (n : Int) := by omega
          have n1 : (n : Int) < (N : Int) := by omega
          have hno : n ∉ ord := fun e => HKL.out.ki.dj n e (by simp)
          have HNo := Lib.hid hno
          have HJn := Lib.hid (HJ.out _ _ _ _ _ HLK.out.lv HJo.out (HKL.out.free HFull.out))
          have hol : ord.length ≤ N := nd_len HKL.out.ki.ndO fun x hx => HKL.out.ki.lt x (.inl hx)
          have HFDD := Lib.hid (HLK.out.FD HD.out HFD.out)
          have hso0 := slLen_own HLK.out.own
          have hol2 : ord.length < N := by
            have := nd_len HKL.out.pop.ki.ndO fun x hx => HKL.out.pop.ki.lt x (.inl hx)
            rw [List.length_append, List.length_singleton] at this; omega
          clear hso dQ hno hql
          go_wp2_with fail
          refine HSo.out.mono ?_
          rintro e w5 ⟨rfl, rfl⟩
          go_wp2_with fail
          refine HPop.out.mono ?_
          rintro e w6 ⟨rfl, hf6, F6, hv6, hF6⟩
          have HLK6 := Lib.hid (HLK.out.line HFDD.out hf6 hv6 hF6)
          have HKL6 := Lib.hid HKL.out.pop
          clear hf6 hv6 hF6 HSo HPop HLK
          have HZ6 : Hid (w0.heap.size ≤ w6.heap.size + 1) := Lib.hid (by have := HLK6.out.fx.size; omega)
          go_wp2_with (at_builtin; refine wpList_append_kept rfl _ _ 32 rfl w0.heap.size 3 Try.underlying32 hi hz hs hb8 rfl (by decide) rfl (World.ownsRow.alloc HLK6.out.own _) rfl (SlV.lit _ 3 #[.int .i64 (n : Nat)] 1 1 rfl (by unfold maxLen; omega)) (ints_one [_]) (by omega) (by unfold maxLen; omega) (by omega) (by rw [World.size_alloc]; exact HZ6.out) ?_)
          intro ov' w7 ho7 hf7 _ hb7
          have hlk7 : LK LV w0 w7 D F0 F6 gb N L Q wb rb fb fW fR fF ov' (ord ++ [n]) No (.slice none 0 0) [] := by
            have h1 := HLK6.out.no HC.out HD.out ((Fx.refl No w6).alloc (.cells #[.int .i64 (n : Nat)] 3))
            refine h1.app HC.out HD.out hf7 ?_ (by rw [World.size_alloc]; exact hb7)
            rw [List.length_append]
            have e : ints (nI (ord ++ [n])) = ints (nI ord) ++ [.int .i64 (n : Nat)] := by simp [ints, nI]
            rw [e]; exact ho7
          have HLK7 := Lib.hid hlk7
          clear hf7 ho7 hb7 hlk7 HLK6 HZ6
          go_wp2_with fail
          refine (gOut_any HLK7.out.g (n : Int)).mono ?_
          rintro e w8 ⟨ev, rfl, hf8, ho8⟩
          have hrow : rowI (outE L) N (n : Int) = outE L n := by unfold rowI; rw [if_pos ⟨n0, n1⟩, Int.toNat_natCast]
          rw [hrow] at ho8
          have her := OwnT.row ho8
          obtain ⟨l, hl⟩ : ∃ l, l = outE L n := ⟨_, rfl⟩
          rw [← hl] at her
          have HLm : Hid (∀ y, y ∈ l ↔ y ∈ L ∧ y.f = (n : Int)) := Lib.hid fun y => by rw [hl]; exact mem_outE
          have HLd : Hid l.Nodup := Lib.hid (by rw [hl]; exact HLn.out.filter _)
          have hll : l.length ≤ L.length := by rw [hl]; exact outE_len _ _
          have HLK8 := Lib.hid (HLK7.out.row HC.out HD.out hf8 her)
          obtain ⟨ea, ecap, rfl, _, _, _⟩ := EdsV.facts her
          obtain ⟨E, hE⟩ : ∃ E, E = Iv w7.heap.size w8.heap.size := ⟨_, rfl⟩
          rw [← hE] at HLK8
          have HKL8 : Hid (KL L N (ord ++ [n]) Q (dn ++ l.take 0) fW fF fR) := Lib.hid (by rw [List.take_zero, List.append_nil]; exact HKL6.out)
          have HDn : Hid (∀ y ∈ dn, y.f.toNat ∈ ord) := Lib.hid fun y hy => (HKL.out.ki.dnS y hy).2
          clear hf8 ho8 hrow her hl hE HLK7 HKL6 HKL
          go_wp2
          go_loopw [59] (fun i ws => ∃ (q : Nat) (F : Nat → Prop) (Q : List Nat) (fW fR fF : Nat → Int), i = .int .i64 q ∧ q ≤ l.length ∧ LK LV w0 ws D F0 F gb N L Q wb rb fb fW fR fF ov' (ord ++ [n]) E (.slice ea l.length ecap) l ∧ KL L N (ord ++ [n]) Q (dn ++ l.take q) fW fF fR) (fun i _ => l.length - (intOf i).toNat)
          case atStart => exact ⟨0, _, _, _, _, _, rfl, by omega, HLK8.out, HKL8.out⟩
          case round =>
            clear HLK8 HKL8
            obtain ⟨q, F, Q, fW, fR, fF, rfl, hq, hlk, hkl⟩ := hrel
            have HLK := Lib.hid hlk
            have HKL := Lib.hid hkl
            clear hlk hkl
            by_cases hqm : q < l.length
            · obtain ⟨_, _, hea, _, _, hrd⟩ := EdsV.facts HLK.out.ev
              obtain ⟨b3, o3, hea2, hb3, p0, p1, p2⟩ := hrd q hqm
              obtain ⟨rfl, _⟩ : ea = some ⟨b3, o3, none⟩ ∧ True := by
                injection hea with h1 h2 h3
                exact ⟨h1.trans hea2, trivial⟩
              obtain ⟨x, hx⟩ : ∃ x, x = gt l q := ⟨_, rfl⟩
              rw [← hx] at p0 p1 p2
              have hxl : x ∈ l := by rw [hx]; exact gt_mem hqm
              obtain ⟨hxL, hxn⟩ := (HLm.out x).1 hxl
              have hx2 : l[q]? = some x := by rw [hx]; simp [gt, hqm]
              have hfr := fresh_at (dn := dn) HLd.out (fun y hy => (HLm.out y).1 hy) HDn.out HNo.out hqm hx2
              obtain ⟨_, hxt0, hxt1⟩ := HNd.out x hxL
              obtain ⟨t, ht⟩ := Int.eq_ofNat_of_zero_le hxt0
              have hmo : n ∈ ord ++ [n] := by simp
              obtain ⟨_, htN, hnt, ⟨hto, htq⟩, ⟨wl, hw1, hw2, hw3⟩, f0, f1, f2, f3⟩ := HKL.out.at_ HNd.out hxL hfr hxn ht hmo
              have hdl := HKL.out.len
              have HTk : Hid (dn ++ l.take (q + 1) = (dn ++ l.take q) ++ [x]) := Lib.hid (by rw [take_gt hqm, ← hx, List.append_assoc])
              have HXL := Lib.hid hxL
              have HFr := Lib.hid hfr
              have HXn := Lib.hid hxn
              have HXt := Lib.hid ht
              have HW2 := Lib.hid hw2
              have hb3s := (HLK.out.ed b3 hb3).2.2
              have q0 : (0 : Int) ≤ (q : Int) := by omega
              have q1 : (q : Int) < (l.length : Int) := by omega
              rw [ht] at p1
              obtain ⟨xf, xt, xl⟩ := x
              simp only at p0 p2
              clear hea hrd hea2 hx hxl hxL hxn hx2 hfr hxt0 hxt1 ht hw2 hb3 hmo hto
              go_upto_region 18 with fail
              refine wp_hold (fun W => LK LV w0 W D F0 F gb N L Q wb rb fb fW fR fF ov' (ord ++ [n]) E (.slice (some ⟨b3, o3, none⟩) l.length ecap) l ∧ W.cell? ⟨wr.heap.size, 1, none⟩ = some (.int .i64 (t : Int))) ⟨HLK.out.no HC.out HD.out ((Fx.refl No wr).alloc _), by go_simp⟩ ?_
              obtain ⟨eb, heb⟩ : ∃ eb, eb = wr.heap.size := ⟨_, rfl⟩
              have hhi := HLK.out.hi
              have hlo := HLK.out.fx.size
              have HeF : Hid (¬ F eb) := Lib.hid fun e => by have := HC.out.lt _ _ _ HLK.out.lv _ e; omega
              have hew : ¬ eb = wb := by omega
              have her : ¬ eb = rb := by omega
              have hef : ¬ eb = fb := by omega
              have hwe : ¬ wb = eb := by omega
              have hre : ¬ rb = eb := by omega
              have hfe : ¬ fb = eb := by omega
              rw [← heb]
              rintro w9 ⟨hlk9, e9⟩
              have HLK9 := Lib.hid hlk9
              have hne := hlk9.ne
              obtain ⟨p0, z0⟩ := hlk9.wB t htN
              obtain ⟨m, hm⟩ : ∃ m, m = fW t := ⟨_, rfl⟩
              rw [← hm] at p0 hw1
              have hmw : IntKind.i64.wrap (m - 1) = m - 1 := by rw [IntKind.wrap_i64]; omega
              have HMw : Hid (m - 1 = 0 ↔ wtD L (dn ++ l.take q) t = 1) := Lib.hid (by have := HW2.out; omega)
              have HM := Lib.hid hm
              have HE9 := Lib.hid e9
              have t0 : (0 : Int) ≤ (t : Int) := by omega
              have t1 : (t : Int) < (N : Int) := by omega
              clear hlk9 hhi heb p1 p2 hw1 hm
              go_upto_region 19 with fail
              refine wp_hold (fun W => LK LV w0 W D F0 F gb N L Q wb rb fb (fun j => if j = t then fW t - 1 else fW j) fR fF ov' (ord ++ [n]) E (.slice (some ⟨b3, o3, none⟩) l.length ecap) l ∧ W.cell? ⟨eb, 1, none⟩ = some (.int .i64 (t : Int))) ⟨by rw [← HM.out]; exact HLK9.out.setW HC.out HD.out htN _, by rw [World.cell?_setCell_other _ _ _ _ (by simp [hew, hwe])]; exact HE9.out⟩ ?_
              rintro w10 ⟨hlk10, e10⟩
              have HLK10 := Lib.hid hlk10
              have HE10 := Lib.hid e10
              obtain ⟨p3, z3⟩ := hlk10.fB t htN
              obtain ⟨p4, z4⟩ := hlk10.fB n hnN
              obtain ⟨fa, hfa⟩ : ∃ a, a = fF t := ⟨_, rfl⟩
              obtain ⟨fn, hfn⟩ : ∃ a, a = fF n := ⟨_, rfl⟩
              have hdq : (dn ++ l.take q).length ≤ 1000000 := by omega
              rw [← hfa] at p3 f2 f3
              rw [← hfn] at p4 f0 f1
              have hfw : IntKind.i64.wrap (fn + 1) = fn + 1 := by rw [IntKind.wrap_i64]; omega
              have HFa := Lib.hid hfa
              have HFn := Lib.hid hfn
              clear hlk10 HLK9 p0 z0 hmw hfa hfn e9
              go_wp2_with fail
              go_region
              refine q_hold (fun W => LK LV w0 W D F0 F gb N L Q wb rb fb (fun j => if j = t then fW t - 1 else fW j) fR (fun j => if j = t then max (fF t) (fF n + 1) else fF j) ov' (ord ++ [n]) E (.slice (some ⟨b3, o3, none⟩) l.length ecap) l ∧ W.cell? ⟨eb, 1, none⟩ = some (.int .i64 (t : Int))) ⟨by
                have h1 := HLK10.out.setF HC.out HD.out htN (max fa (fn + 1))
                rw [← HFa.out, ← HFn.out]
                exact h1.no HC.out HD.out (Fx.refl No _).drew, by
                have h1 := HE10.out
                rw [World.cell?_drew, World.cell?_setCell_other _ _ _ _ (by simp [hef, hfe])]; exact h1⟩ ?_
              rintro w11 ⟨hlk11, e11⟩
              have HLK11 := Lib.hid hlk11
              have HE11 := Lib.hid e11
              obtain ⟨p5, z5⟩ := hlk11.wB t htN
              obtain ⟨p6, z6⟩ := hlk11.fB t htN
              obtain ⟨p7, z7⟩ := hlk11.rB t htN
              simp only [if_true] at p5 p6
              rw [← HM.out] at p5
              obtain ⟨mx, hmx⟩ : ∃ mx, mx = max (fF t) (fF n + 1) := ⟨_, rfl⟩
              rw [← hmx] at p6
              have HMx := Lib.hid hmx
              have hqn : Q.length ≤ 100000 := by have := nd_len HKL.out.ki.ndQ fun x hx => HKL.out.ki.lt x (.inr hx); omega
              clear hlk11 p3 z3 p4 z4 f0 f1 f2 f3 hfw hdq e10 HLK10 hmx
              by_cases hw : wtD L (dn ++ l.take q) t = 1
              · have dw : (m - 1 == 0) = true := by rw [HMw.out.2 hw]; rfl
                have HWt := Lib.hid hw
                clear hw
                go_wp2_with fail
                go_region
                refine q_hold (fun W => LK LV w0 W D F0 F gb N L Q wb rb fb (fun j => if j = t then fW t - 1 else fW j) (fun j => if j = t then max (fF t) (fF n + 1) else fR j) (fun j => if j = t then max (fF t) (fF n + 1) else fF j) ov' (ord ++ [n]) E (.slice (some ⟨b3, o3, none⟩) l.length ecap) l ∧ W.cell? ⟨eb, 1, none⟩ = some (.int .i64 (t : Int))) ⟨by
                  have h1 := HLK11.out.setR HC.out HD.out htN mx
                  rw [HMx.out] at h1 ⊢
                  exact h1.no HC.out HD.out (Fx.refl No _).drew, by
                  have h1 := HE11.out
                  rw [World.cell?_drew, World.cell?_setCell_other _ _ _ _ (by simp [her, hre])]; exact h1⟩ ?_
                rintro w12 ⟨hlk12, e12⟩
                have HLK12 := Lib.hid hlk12
                have HPu := Lib.hid (HC.out.push _ _ _ t hlk12.lv hqn (by omega) htq)
                have HFDD := Lib.hid (hlk12.FD HD.out HFD.out)
                clear hlk12 p5 z5 p6 z6 p7 z7 HLK11 dw e11
                go_wp2_with fail
                refine HPu.out.mono ?_
                rintro e w13 ⟨rfl, hf13, F13, hv13, hF13⟩
                have HLK13 := Lib.hid (HLK12.out.line HFDD.out hf13 hv13 hF13)
                clear hf13 hv13 hF13 e12
                go_wp2
                go_roundw
                case rel => exact ⟨q + 1, F13, ins t Q, _, _, _, by go_num, by omega, HLK13.out, by rw [HTk.out]; exact HKL.out.yes HLn.out HNd.out HXL.out HFr.out HXn.out HXt.out (by simp) HWt.out (fun v => HC.out.mem t Q v) (HC.out.nd t Q HKL.out.ki.ndQ htq)⟩
                case measure => simp [intOf]; omega
              · have dw : (m - 1 == 0) = false := by
                  have h1 : ¬ (m - 1 = 0) := fun e => hw (HMw.out.1 e)
                  simpa using h1
                have HWt := Lib.hid hw
                clear hw
                go_wp2
                go_roundw
                case rel => exact ⟨q + 1, F, Q, _, _, _, by go_num, by omega, HLK11.out, by rw [HTk.out]; exact HKL.out.not HLn.out HNd.out HXL.out HFr.out HXn.out HXt.out (by simp) HWt.out⟩
                case measure => simp [intOf]; omega
            · have hqe : q = l.length := by omega
              have q1 : ¬ (q : Int) < (l.length : Int) := by omega
              have HKL9 : Hid (KL L N (ord ++ [n]) Q (dn ++ l) fW fF fR) := Lib.hid (by have h1 := HKL.out; rw [hqe, List.take_length] at h1; exact h1)
              have HLK9 : Hid (LK LV w0 wr D F0 F gb N L Q wb rb fb fW fR fF ov' (ord ++ [n]) No (.slice none 0 0) []) := Lib.hid { HLK.out with od := fun y hy => ⟨⟨(HLK.out.od y hy).1.1, (HLK.out.od y hy).1.2.1, (HLK.out.od y hy).1.2.2.1, (HLK.out.od y hy).1.2.2.2.1, fun e => e⟩, (HLK.out.od y hy).2⟩, ev := RowV.nil _ _, ed := fun y hy => hy.elim }
              have HFull2 : Hid (∀ x ∈ L, x.f.toNat ∈ ord ++ [n] → x ∈ dn ++ l) := Lib.hid fun x hx h => by
                rcases List.mem_append.1 h with e | e
                · exact List.mem_append_left _ (HFull.out x hx e)
                · rw [List.mem_singleton] at e
                  have := (HNd.out x hx).1
                  exact List.mem_append_right _ ((HLm.out x).2 ⟨hx, by omega⟩)
              have hso2 := slLen_own HLK9.out.own
              rw [List.length_append, List.length_singleton] at hso2
              clear hqe hq HKL HLK hqm
              go_wp2
              go_roundw
              case rel => exact ⟨F, Q, fW, fR, fF, ord ++ [n], dn ++ l, HLK9.out, HKL9.out, HFull2.out, HJn.out⟩
              case measure => omega
end
#print axioms taken_first
end Go.Proofs.Yteafkafkbipcmaa
