/- The law GraphPlays. -/
import Derived.Test.YtcfajeldkioomaaRgJ
import Derived.Test.YtcfajeldkioomaaGW
namespace Go.Proofs.Ytcfajeldkioomaa
open Go.RowKit
set_option linter.unusedVariables false

/-- behind the copy -/
structure CpG (wx ws : World) (N : Nat) (L : List Ed) (rv : Value) (cb qb : Nat) : Prop where
  fx : Fx No wx ws
  c : ∃ C, GraphV ws C cb N L ∧ ∀ j, C j → wx.heap.size ≤ j
  q0 : ws.cell? ⟨qb, 0, none⟩ = some (.int .i64 (N : Nat))
  q1 : ws.cell? ⟨qb, 1, none⟩ = some rv
  ql : wx.heap.size ≤ qb
/-- the reference's answer in a box of its own -/
structure AfG (w2 ws : World) (R : Nat → Prop) (N : Nat) (L2 : List Ed) (v : Value) (sb : Nat) : Prop where
  fx : Fx No w2 ws
  q0 : ws.cell? ⟨sb, 0, none⟩ = some (.int .i64 (N : Nat))
  q1 : ws.cell? ⟨sb, 1, none⟩ = some v
  row : EdsV ws (fun k => (R k ∨ w2.heap.size ≤ k) ∧ k < ws.heap.size) v L2
theorem afg_mk {w2 cur : World} {R T : Nat → Prop} {N : Nat} {L2 : List Ed} {v x y : Value} {sb : Nat} (hS : Fx No w2 cur) (hb : cur.cell? ⟨sb, 0, none⟩ = some x ∧ cur.frozen? ⟨sb, 0, none⟩ = false ∧ cur.cell? ⟨sb, 1, none⟩ = some y ∧ cur.frozen? ⟨sb, 1, none⟩ = false)
    (hr : EdsV cur T v L2) (hT : ∀ k, T k → (R k ∨ w2.heap.size ≤ k) ∧ k < cur.heap.size ∧ k ≠ sb) (hl : w2.heap.size ≤ sb) : AfG w2 ((cur.setCell ⟨sb, 0, none⟩ (.int .i64 (N : Nat))).setCell ⟨sb, 1, none⟩ v) R N L2 v sb := by
  obtain ⟨g1, g2, g3, g4⟩ := put_two cur (qb := sb) (.int .i64 (N : Nat)) v hb.1 hb.2.2.1
  exact ⟨(hS.setCell (.inl hl) _).setCell (.inl hl) _, g1, g2, (hr.keep g3 fun k hk => (hT k hk).2.2).mono fun k hk => ⟨(hT k hk).1, by rw [g4]; exact (hT k hk).2.1⟩⟩
/-- an edge in a box -/
structure BoxE (w ws : World) (xb : Nat) (x : Ed) : Prop where
  fx : Fx No w ws
  c0 : ws.cell? ⟨xb, 0, none⟩ = some (.int .i64 x.f)
  c1 : ws.cell? ⟨xb, 1, none⟩ = some (.int .i64 x.t)
  c2 : ws.cell? ⟨xb, 2, none⟩ = some (.int .i64 x.l)
  lo : w.heap.size ≤ xb
theorem Fx.setCells3 {S : Nat → Prop} {w w1 : World} {b : Nat} (h : Fx S w w1) (x y z : Value) (hb : w.heap.size ≤ b) : Fx S w (((w1.setCell ⟨b, 0, none⟩ x).setCell ⟨b, 1, none⟩ y).setCell ⟨b, 2, none⟩ z) :=
  ((h.setCell (.inl hb) _).setCell (.inl hb) _).setCell (.inl hb) _
theorem put_three (W : World) {qb : Nat} {a b c : Value} (x y z : Value) (q0 : W.cell? ⟨qb, 0, none⟩ = some a) (q1 : W.cell? ⟨qb, 1, none⟩ = some b) (q2 : W.cell? ⟨qb, 2, none⟩ = some c) :
    (((W.setCell ⟨qb, 0, none⟩ x).setCell ⟨qb, 1, none⟩ y).setCell ⟨qb, 2, none⟩ z).cell? ⟨qb, 0, none⟩ = some x ∧ (((W.setCell ⟨qb, 0, none⟩ x).setCell ⟨qb, 1, none⟩ y).setCell ⟨qb, 2, none⟩ z).cell? ⟨qb, 1, none⟩ = some y ∧
    (((W.setCell ⟨qb, 0, none⟩ x).setCell ⟨qb, 1, none⟩ y).setCell ⟨qb, 2, none⟩ z).cell? ⟨qb, 2, none⟩ = some z := by
  have ne : ∀ i j : Nat, i ≠ j → (⟨qb, i, none⟩ : Addr) ≠ ⟨qb, j, none⟩ := fun i j h e => by injection e; omega
  obtain ⟨g1, g2, _, _⟩ := put_two W x y q0 q1
  refine ⟨?_, ?_, ?_⟩
  · rw [World.cell?_setCell_other _ _ _ _ (ne 2 0 (by omega))]; exact g1
  · rw [World.cell?_setCell_other _ _ _ _ (ne 2 1 (by omega))]; exact g2
  · refine World.cell?_setCell_same _ _ _ (?_ : _ = some c)
    rw [World.cell?_setCell_other _ _ _ _ (ne 1 2 (by omega)), World.cell?_setCell_other _ _ _ _ (ne 0 2 (by omega))]; exact q2
def hdE (xs : List Ed) : Ed := xs.headD ⟨0, 0, 0⟩
theorem hdE_ok {xs : List Ed} (h : ∀ x ∈ xs, x.ok) : (hdE xs).ok := by
  cases xs with
  | nil => exact ⟨by unfold Ok64 hdE; simp, by unfold Ok64 hdE; simp, by unfold Ok64 hdE; simp⟩
  | cons x xs => exact h x (by simp)
theorem hdE_gt {xs : List Ed} (h : 0 < xs.length) : hdE xs = gt xs 0 := by
  cases xs with
  | nil => simp at h
  | cons x xs => simp [hdE, gt]
section
variable {w : World} {E : Nat → Prop} {v : Value} {l : List ActG}
set_option maxRecDepth 100000 in
set_option maxHeartbeats 8000000 in
theorem plays_any (size : Int) (h : ActsG w E v l) (nn mm : Int) : Calls Try.prog 4 #[.int .i64 size, v, .int .i64 nn, .int .i64 mm] w fun e w' => e = .returned (.bool true) ∧ Fx No w w' := by
  have HA := Lib.hid h
  obtain ⟨ao, cap, rfl, hlen, hc⟩ := id h
  have HC := Lib.hid hc
  clear h hc
  by_cases hs1 : 40 < size ∧ size ≤ 65536
  · have d1 : decide ((40 : Int) < size) = true := decide_eq_true hs1.1
    have d2 : decide (size ≤ 65536) = true := decide_eq_true hs1.2
    clear hs1
    go_enter Try.func4, Try.ntmps4
    go_wp2_with fail
    refine (works_any _).mono ?_
    rintro e w1 ⟨rfl, hf⟩
    have HF := Lib.hid hf
    clear hf
    go_wp2
    go_ret
    exact ⟨rfl, HF.out⟩
  · have hs2 : size ≤ 40 ∨ 65536 < size := by omega
    clear hs1
    by_cases hs3 : 65536 < size
    · have d1 : decide ((40 : Int) < size) = true := decide_eq_true (by omega)
      have d2 : decide (size ≤ 65536) = false := decide_eq_false (by omega)
      go_enter Try.func4, Try.ntmps4
      go_wp2_with fail
      refine (few_any HA.out).mono ?_
      rintro e w1 ⟨⟨z, rfl, hz⟩, rfl⟩
      have HZ := Lib.hid hz
      clear hz
      cases z
      · go_wp2_with fail
        refine (works_any _).mono ?_
        rintro e w1 ⟨rfl, hf⟩
        have HF := Lib.hid hf
        clear hf
        go_wp2
        go_ret
        exact ⟨rfl, HF.out⟩
      · obtain ⟨hl20, h12⟩ := HZ.out rfl
        have H12 := Lib.hid h12
        clear h12 HZ
        go_wp2_with fail
        refine (gNew_no size w (.inr hs3)).mono ?_
        rintro e w1 ⟨rfl, rfl⟩
        go_wp2_with fail
        refine (refNew_no size w (.inr hs3)).mono ?_
        rintro e w2 ⟨rfl, hf⟩
        have HF2 := Lib.hid hf
        clear hf
        go_wp2_with fail
        refine (works_any _).mono ?_
        rintro e w3 ⟨rfl, hf⟩
        have HF := Lib.hid hf
        clear hf
        go_wp2
        go_ret
        exact ⟨rfl, ((HF2.out).alloc _).trans HF.out⟩
    · by_cases hs4 : size < 0
      · have d1 : decide ((40 : Int) < size) = false := decide_eq_false (by omega)
        go_enter Try.func4, Try.ntmps4
        go_wp2_with fail
        refine (few_any HA.out).mono ?_
        rintro e w1 ⟨⟨z, rfl, hz⟩, rfl⟩
        have HZ := Lib.hid hz
        clear hz
        cases z
        · go_wp2_with fail
          refine (works_any _).mono ?_
          rintro e w1 ⟨rfl, hf⟩
          have HF := Lib.hid hf
          clear hf
          go_wp2
          go_ret
          exact ⟨rfl, HF.out⟩
        · obtain ⟨hl20, h12⟩ := HZ.out rfl
          have H12 := Lib.hid h12
          clear h12 HZ
          go_wp2_with fail
          refine (gNew_no size w (.inl hs4)).mono ?_
          rintro e w1 ⟨rfl, rfl⟩
          go_wp2_with fail
          refine (refNew_no size w (.inl hs4)).mono ?_
          rintro e w2 ⟨rfl, hf⟩
          have HF2 := Lib.hid hf
          clear hf
          go_wp2_with fail
          refine (works_any _).mono ?_
          rintro e w3 ⟨rfl, hf⟩
          have HF := Lib.hid hf
          clear hf
          go_wp2
          go_ret
          exact ⟨rfl, ((HF2.out).alloc _).trans HF.out⟩
      · obtain ⟨N, rfl⟩ := Int.eq_ofNat_of_zero_le (by omega : 0 ≤ size)
        have hN : N ≤ 40 := by omega
        have d1 : decide ((40 : Int) < (N : Int)) = false := decide_eq_false (by omega)
        clear hs2 hs3 hs4
        go_enter Try.func4, Try.ntmps4
        go_wp2_with fail
        refine (few_any HA.out).mono ?_
        rintro e w1 ⟨⟨z, rfl, hz⟩, rfl⟩
        have HZ := Lib.hid hz
        clear hz
        cases z
        · go_wp2_with fail
          refine (works_any _).mono ?_
          rintro e w1 ⟨rfl, hf⟩
          have HF := Lib.hid hf
          clear hf
          go_wp2
          go_ret
          exact ⟨rfl, HF.out⟩
        · obtain ⟨hl20, h12⟩ := HZ.out rfl
          have H12 := Lib.hid h12
          clear h12 HZ
          go_wp2_with fail
          refine (gNew_any N w (by omega)).mono ?_
          rintro e w1 ⟨b, rfl, hf, hg⟩
          have HF1 := Lib.hid hf
          have HG1 := Lib.hid hg
          clear hf hg
          go_wp2_with fail
          refine (refNew_any N w1 (by omega)).mono ?_
          rintro e w2 ⟨rfl, hf⟩
          have HF2 := Lib.hid hf
          clear hf
          go_wp2_with fail
          refine wp_hold (fun W => PG w W b w2.heap.size N [] (.slice none 0 0) (Iv w.heap.size w1.heap.size) No) ?_ ?_
          · have z1 := HF1.out.size
            have z2 := HF2.out.size
            refine ⟨(HF1.out.trans HF2.out).alloc _, (HG1.out.no HF2.out).no ((Fx.refl No _).alloc _), fun j hj => hj.1, ⟨by simp, by simp⟩, ⟨by simp, by simp⟩, RowV.nil _ _, fun j hj => hj.elim, fun j hj => hj.elim, ⟨fun hj => ?_, by omega⟩⟩
            have := hj.2
            omega
          rintro W0 hP
          obtain ⟨rb, hrb⟩ : ∃ r, r = w2.heap.size := ⟨_, rfl⟩
          rw [← hrb] at hP ⊢
          have HP0 := Lib.hid hP
          clear hP hrb
          go_loopw [13, 14, 15, 16, 17, 18, 19, 20, 21, 22, 23, 24, 25, 26] (fun i _ _ _ _ _ _ _ _ _ _ _ _ _ ws => ∃ (I : Nat) (L : List Ed) (rv : Value) (D R : Nat → Prop), i = .int .i64 I ∧ I ≤ l.length ∧ L.length ≤ 12 * I ∧ PG w ws b rb N L rv D R) (fun i _ _ _ _ _ _ _ _ _ _ _ _ _ _ => l.length - (intOf i).toNat)
          case atStart => exact ⟨0, [], _, _, _, rfl, Nat.zero_le _, by simp, HP0.out⟩
          case round =>
            obtain ⟨I, L, rv, D, R, rfl, hI, hL, hP⟩ := hrel
            have HP := Lib.hid hP
            obtain ⟨ro, rc, rfl, _⟩ := EdsV.facts hP.row
            obtain ⟨r0, r0f⟩ := hP.r0
            obtain ⟨r1, r1f⟩ := hP.r1
            have hsm : L.length ≤ 240 := by omega
            obtain ⟨wa, hwa⟩ : ∃ x, x = wr := ⟨_, rfl⟩
            subst hwa
            clear hP
            by_cases hIl : I < l.length
            · have hIn : (I : Int) < (l.length : Int) := by omega
              have hI0 : (0 : Int) ≤ (I : Int) := by omega
              obtain ⟨bl, ol, lv, rfl, p1, p2, hv, hok⟩ := HC.out I hIl
              have hbl := World.block_lt_of_cell? w _ p1
              obtain ⟨ad, had⟩ : ∃ x, x = (gt l I).d := ⟨_, rfl⟩
              obtain ⟨xs, hxs⟩ : ∃ x, x = (gt l I).l := ⟨_, rfl⟩
              have hx12 : xs.length ≤ 12 := by rw [hxs]; exact H12.out I hIl
              rw [← hxs] at hv hok
              rw [← had] at p1
              have HV := Lib.hid hv
              have HOK := Lib.hid hok
              obtain ⟨lo, lc, rfl, _, _, _⟩ := EdsV.facts hv
              have p1 := HP.out.fx.cell' p1 (fun h => h)
              have p2 := HP.out.fx.cell' p2 (fun h => h)
              clear hv hok had hxs
              go_upto_region 13 with fail
              refine wp_hold (fun W => Fx No wa W ∧ wa.heap.size < W.heap.size ∧ W.cell? ⟨wa.heap.size, 0, none⟩ = some (.int .i64 ad) ∧ W.cell? ⟨wa.heap.size, 1, none⟩ = some (.slice lo xs.length lc))
                ⟨(Fx.refl No _).alloc _, by simp, by go_simp, by go_simp⟩ ?_
              rintro wx ⟨hfx, hab, a0, a1⟩
              obtain ⟨ab, hab'⟩ : ∃ x, x = wa.heap.size := ⟨_, rfl⟩
              rw [← hab'] at a0 a1 hab ⊢
              have HX := Lib.hid hfx
              have HPx := Lib.hid (HP.out.no hfx)
              have HA0 := Lib.hid a0
              have HA1 := Lib.hid a1
              have HVx : Hid (EdsV wx E (.slice lo xs.length lc) xs) := Lib.hid ((HV.out.no HP.out.fx).no hfx)
              have HEl : Hid (∀ k, D k → k < ab) := Lib.hid fun k hk => by rw [hab']; exact HP.out.g.lt k hk
              have HRl : Hid (rb < ab) := Lib.hid (by rw [hab']; exact World.block_lt_of_cell? wa _ r0)
              have HAl : Hid (ab < wx.heap.size) := Lib.hid hab
              clear hfx hab a0 a1 hab' r0 r1 r0f r1f p1 p2 hbl
              have CC : Hid (∀ W, Fx No wx W → Calls Try.prog 23 #[.pointer (some ⟨b, 0, none⟩)] W fun e w' => ∃ b', e = .returned (.pointer (some ⟨b', 0, none⟩)) ∧ Fx No W w' ∧ GraphV w' (Iv W.heap.size w'.heap.size) b' N L) := Lib.hid fun W h => gCopy_any (HPx.out.g.no h)
              have g0 : ∀ W, Fx No wx W → W.cell? ⟨rb, 0, none⟩ = some (.int .i64 (N : Nat)) := fun W h => h.cell' HPx.out.r0.1 (fun h => h)
              have g1 : ∀ W, Fx No wx W → W.cell? ⟨rb, 1, none⟩ = some (.slice ro L.length rc) := fun W h => h.cell' HPx.out.r1.1 (fun h => h)
              go_cut [15, 16] from 62 to 167 (fun c q ws => ∃ cb qb : Nat, c = .pointer (some ⟨cb, 0, none⟩) ∧ q = .pointer (some ⟨qb, 0, none⟩) ∧ CpG wx ws N L (.slice ro L.length rc) cb qb)
              case first =>
                refine wp_region_H (fun W => Fx No wx W) (by kernel_rfl) ((Fx.refl _ _).drew) ?_
                intro hS
                refine wpAnyH_hold (fun W' => Fx No wx W') hS ?_
                clear hS
                rintro y0 hS
                refine wpAnyH_take (i := 0) (v := ?_) rfl (by kernel_rfl) (by kernel_rfl) (by kernel_rfl) (fun _ _ _ h => h) (Or.inl ⟨by rfl, ?_⟩) hS ?_
                rotate_left
                · (intro W hs; go_simp; first | done | with_reducible rfl)
                try simp only [Act.put, List.getElem_toArray, List.getElem_cons_zero, List.getElem_cons_succ, List.setIfInBounds_toArray, List.set_cons_zero, List.set_cons_succ]
                refine wpAnyH_take (i := 2) (v := ?_) rfl (by kernel_rfl) (by kernel_rfl) (by kernel_rfl) (fun _ _ _ h => h) (Or.inl ⟨by rfl, ?_⟩) hS ?_
                rotate_left
                · (intro W hs; go_simp; first | done | with_reducible rfl)
                try simp only [Act.put, List.getElem_toArray, List.getElem_cons_zero, List.getElem_cons_succ, List.setIfInBounds_toArray, List.set_cons_zero, List.set_cons_succ]
                refine wpH_two (i := 1) (j := 3) (by kernel_rfl) rfl rfl (fun K hK => ?_) (fun K hK => ?_)
                · go_simp
                  refine (CC.out _ hS).mono ?_
                  rintro e y1 ⟨cb, rfl, hfi, hc⟩
                  have HCg := Lib.hid hc
                  have HCl : Hid (wx.heap.size ≤ y0.heap.size) := Lib.hid hS.size
                  have HZy1 : Hid (y0.heap.size ≤ y1.heap.size) := Lib.hid hfi.size
                  have HSy1 : Hid (Fx No y0 y1) := Lib.hid hfi
                  refine hK.out _ _ (hS.trans hfi) (fun hS' => ?_)
                  clear hK K hS hfi hc
                  have hS := hS'
                  clear hS'
                  try simp only [Act.put, List.getElem_toArray, List.getElem_cons_zero, List.getElem_cons_succ, List.setIfInBounds_toArray, List.set_cons_zero, List.set_cons_succ]
                  refine wpH_one (i := 3) (by kernel_rfl) rfl (fun K hK => ?_)
                  go_simp
                  have HB0 := Lib.hid hS.size
                  have hfi : Fx No y1 (y1.alloc (.cells #[.int .i64 0, .slice none 0 0] 30)) := (Fx.refl No _).alloc _
                  refine hK.out _ _ (hS.trans hfi) (fun hS' => ?_)
                  clear hK K hS
                  have hS := hS'
                  clear hS'
                  try simp only [Act.put, List.getElem_toArray, List.getElem_cons_zero, List.getElem_cons_succ, List.setIfInBounds_toArray, List.set_cons_zero, List.set_cons_succ]
                  refine wpAnyH_hold (fun W' => Fx No y1 W' ∧ Fx No wx W' ∧ y1.heap.size < W'.heap.size ∧ W'.cell? ⟨y1.heap.size, 0, none⟩ = some (.int .i64 0) ∧ W'.frozen? ⟨y1.heap.size, 0, none⟩ = false ∧ W'.cell? ⟨y1.heap.size, 1, none⟩ = some (.slice none 0 0) ∧ W'.frozen? ⟨y1.heap.size, 1, none⟩ = false) ⟨hfi, hS, by simp, by simp, by simp, by simp, by simp⟩ ?_
                  clear hfi hS
                  rintro y2 ⟨hfi, hS, hlt, hbx⟩
                  obtain ⟨qb, hqb⟩ : ∃ q, q = y1.heap.size := ⟨_, rfl⟩
                  rw [← hqb] at hbx hlt ⊢
                  have HCg := Lib.hid (HCg.out.no hfi)
                  have Hqb := Lib.hid hbx
                  have HLqb : Hid (qb < y2.heap.size) := Lib.hid hlt
                  have HEqb : Hid (qb = y1.heap.size) := Lib.hid hqb
                  have HZy2 : Hid (y1.heap.size ≤ y2.heap.size) := Lib.hid hfi.size
                  have HQl : Hid (wx.heap.size ≤ qb) := Lib.hid (by have h1 := hqb; have h2 := HB0.out; omega)
                  clear hbx hlt hqb hfi HB0
                  refine wpAnyH_take (i := 4) (v := ?_) rfl (by kernel_rfl) (by kernel_rfl) (by kernel_rfl) (fun _ _ _ h => h) (Or.inl ⟨by rfl, ?_⟩) hS ?_
                  rotate_left
                  · (intro W hs; go_simp; first | done | with_reducible rfl)
                  try simp only [Act.put, List.getElem_toArray, List.getElem_cons_zero, List.getElem_cons_succ, List.setIfInBounds_toArray, List.set_cons_zero, List.set_cons_succ]
                  refine wpH_one (i := 5) (by kernel_rfl) rfl (fun K hK => ?_)
                  obtain ⟨b0, b1, b2, b3⟩ := Hqb.out
                  have hql : wx.heap.size ≤ qb := HQl.out
                  have hS0 := hS
                  go_simp
                  refine hK.out _ _ ((hS.setCell (.inl hql) _).setCell (.inl hql) _) (fun hS' => ?_)
                  clear hK K hS
                  have hS := hS'
                  clear hS'
                  try simp only [Act.put, List.getElem_toArray, List.getElem_cons_zero, List.getElem_cons_succ, List.setIfInBounds_toArray, List.set_cons_zero, List.set_cons_succ]
                  clear b0 b1 b2 b3
                  refine wpAnyH_done (by kernel_rfl) ?_ _
                  obtain ⟨k1, k2, k3, k4⟩ := put_two y2 (qb := qb) (.int .i64 (N : Nat)) (.slice ro L.length rc) Hqb.out.1 Hqb.out.2.2.1
                  have HK1 := Lib.hid k1
                  have HK2 := Lib.hid k2
                  have HK3 := Lib.hid k3
                  have HSx := Lib.hid hS
                  have HGo : Hid (∃ C, GraphV y2 C cb N L ∧ (∀ j, C j → wx.heap.size ≤ j) ∧ ∀ j, C j → ¬ j = qb) := Lib.hid ⟨_, HCg.out, fun j hj => Nat.le_trans HCl.out hj.1, fun j hj => by
                    have h1 := hj.1
                    have h2 := hj.2
                    have h3 := HEqb.out
                    omega⟩
                  clear k1 k2 k3 k4 hS hS0 g0 g1 CC HCg HCl hql
                  go_wp2_with fail
                  go_meet
                  obtain ⟨C, h1, h2, h3⟩ := HGo.out
                  exact ⟨_, _, rfl, rfl, HSx.out, ⟨C, h1.keep HK3.out h3, h2⟩, HK1.out, HK2.out, HQl.out⟩
                · go_simp
                  have HB0 := Lib.hid hS.size
                  have hfi : Fx No y0 (y0.alloc (.cells #[.int .i64 0, .slice none 0 0] 30)) := (Fx.refl No _).alloc _
                  refine hK.out _ _ (hS.trans hfi) (fun hS' => ?_)
                  clear hK K hS
                  have hS := hS'
                  clear hS'
                  try simp only [Act.put, List.getElem_toArray, List.getElem_cons_zero, List.getElem_cons_succ, List.setIfInBounds_toArray, List.set_cons_zero, List.set_cons_succ]
                  refine wpAnyH_hold (fun W' => Fx No y0 W' ∧ Fx No wx W' ∧ y0.heap.size < W'.heap.size ∧ W'.cell? ⟨y0.heap.size, 0, none⟩ = some (.int .i64 0) ∧ W'.frozen? ⟨y0.heap.size, 0, none⟩ = false ∧ W'.cell? ⟨y0.heap.size, 1, none⟩ = some (.slice none 0 0) ∧ W'.frozen? ⟨y0.heap.size, 1, none⟩ = false) ⟨hfi, hS, by simp, by simp, by simp, by simp, by simp⟩ ?_
                  clear hfi hS
                  rintro y4 ⟨hfi, hS, hlt, hbx⟩
                  obtain ⟨qb, hqb⟩ : ∃ q, q = y0.heap.size := ⟨_, rfl⟩
                  rw [← hqb] at hbx hlt ⊢
                  have Hqb := Lib.hid hbx
                  have HLqb : Hid (qb < y4.heap.size) := Lib.hid hlt
                  have HEqb : Hid (qb = y0.heap.size) := Lib.hid hqb
                  have HZy4 : Hid (y0.heap.size ≤ y4.heap.size) := Lib.hid hfi.size
                  have HQl : Hid (wx.heap.size ≤ qb) := Lib.hid (by have h1 := hqb; have h2 := HB0.out; omega)
                  clear hbx hlt hqb hfi HB0
                  refine wpH_one (i := 1) (by kernel_rfl) rfl (fun K hK => ?_)
                  go_simp
                  refine (CC.out _ hS).mono ?_
                  rintro e y5 ⟨cb, rfl, hfi, hc⟩
                  have Hqb := Lib.hid (And.intro (hfi.cell' Hqb.out.1 (fun h => h)) (And.intro ((hfi.cellF Hqb.out.1 Hqb.out.2.1 (fun h => h)).2) (And.intro (hfi.cell' Hqb.out.2.2.1 (fun h => h)) ((hfi.cellF Hqb.out.2.2.1 Hqb.out.2.2.2 (fun h => h)).2))))
                  have HCg := Lib.hid hc
                  have HCl : Hid (wx.heap.size ≤ y4.heap.size) := Lib.hid hS.size
                  have HZy5 : Hid (y4.heap.size ≤ y5.heap.size) := Lib.hid hfi.size
                  have HSy5 : Hid (Fx No y4 y5) := Lib.hid hfi
                  refine hK.out _ _ (hS.trans hfi) (fun hS' => ?_)
                  clear hK K hS hfi hc
                  have hS := hS'
                  clear hS'
                  try simp only [Act.put, List.getElem_toArray, List.getElem_cons_zero, List.getElem_cons_succ, List.setIfInBounds_toArray, List.set_cons_zero, List.set_cons_succ]
                  refine wpAnyH_take (i := 4) (v := ?_) rfl (by kernel_rfl) (by kernel_rfl) (by kernel_rfl) (fun _ _ _ h => h) (Or.inl ⟨by rfl, ?_⟩) hS ?_
                  rotate_left
                  · (intro W hs; go_simp; first | done | with_reducible rfl)
                  try simp only [Act.put, List.getElem_toArray, List.getElem_cons_zero, List.getElem_cons_succ, List.setIfInBounds_toArray, List.set_cons_zero, List.set_cons_succ]
                  refine wpH_one (i := 5) (by kernel_rfl) rfl (fun K hK => ?_)
                  obtain ⟨b0, b1, b2, b3⟩ := Hqb.out
                  have hql : wx.heap.size ≤ qb := HQl.out
                  have hS0 := hS
                  go_simp
                  refine hK.out _ _ ((hS.setCell (.inl hql) _).setCell (.inl hql) _) (fun hS' => ?_)
                  clear hK K hS
                  have hS := hS'
                  clear hS'
                  try simp only [Act.put, List.getElem_toArray, List.getElem_cons_zero, List.getElem_cons_succ, List.setIfInBounds_toArray, List.set_cons_zero, List.set_cons_succ]
                  clear b0 b1 b2 b3
                  refine wpAnyH_done (by kernel_rfl) ?_ _
                  obtain ⟨k1, k2, k3, k4⟩ := put_two y5 (qb := qb) (.int .i64 (N : Nat)) (.slice ro L.length rc) Hqb.out.1 Hqb.out.2.2.1
                  have HK1 := Lib.hid k1
                  have HK2 := Lib.hid k2
                  have HK3 := Lib.hid k3
                  have HSx := Lib.hid hS
                  have HGo : Hid (∃ C, GraphV y5 C cb N L ∧ (∀ j, C j → wx.heap.size ≤ j) ∧ ∀ j, C j → ¬ j = qb) := Lib.hid ⟨_, HCg.out, fun j hj => Nat.le_trans HCl.out hj.1, fun j hj => by
                    have h1 := hj.1
                    have h2 := hj.2
                    have h3 := HEqb.out
                    have h4 := HLqb.out
                    omega⟩
                  clear k1 k2 k3 k4 hS hS0 g0 g1 CC HCg HCl hql
                  go_wp2_with fail
                  go_meet
                  obtain ⟨C, h1, h2, h3⟩ := HGo.out
                  exact ⟨_, _, rfl, rfl, HSx.out, ⟨C, h1.keep HK3.out h3, h2⟩, HK1.out, HK2.out, HQl.out⟩
              case rest =>
                obtain ⟨cb, qb, rfl, rfl, hcp⟩ := hcut
                obtain ⟨wy, hwy⟩ : ∃ x, x = wc := ⟨_, rfl⟩
                subst hwy
                have HCp := Lib.hid hcp
                have HPy := Lib.hid (HPx.out.no hcp.fx)
                have HVy := Lib.hid (HVx.out.no hcp.fx)
                have HA0y := Lib.hid (hcp.fx.cell' HA0.out (fun h => h))
                have HA1y := Lib.hid (hcp.fx.cell' HA1.out (fun h => h))
                have hzy := hcp.fx.size
                have HZy : Hid (ab < wy.heap.size) := Lib.hid (by have := HAl.out; omega)
                clear hcp hzy g0 g1 CC HVx HA0 HA1
                have a0 := HA0y.out
                have a1 := HA1y.out
                have hza := HZy.out
                go_upto_if 78 with fail
                refine wp_hold (fun W => Fx No wy W ∧ W.cell? ⟨wy.heap.size, 0, none⟩ = some (.int .i64 0) ∧ W.cell? ⟨wy.heap.size, 1, none⟩ = some (.int .i64 0) ∧ W.cell? ⟨wy.heap.size, 2, none⟩ = some (.int .i64 0) ∧ W.frozen? ⟨wy.heap.size, 0, none⟩ = false ∧ W.frozen? ⟨wy.heap.size, 1, none⟩ = false ∧ W.frozen? ⟨wy.heap.size, 2, none⟩ = false)
                  ⟨(Fx.refl No _).alloc (.cells #[.int .i64 0, .int .i64 0, .int .i64 0] 25), by go_simp, by go_simp, by go_simp, by go_simp, by go_simp, by go_simp⟩ ?_
                rintro wv ⟨hfv, x0, x1, x2, z0, z1, z2⟩
                obtain ⟨xb, hxb⟩ : ∃ x, x = wy.heap.size := ⟨_, rfl⟩
                rw [← hxb] at x0 x1 x2 z0 z1 z2 ⊢
                have HFv := Lib.hid hfv
                have HXb := Lib.hid hxb
                have a0 := hfv.cell' HA0y.out (fun h => h)
                have a1 := hfv.cell' HA1y.out (fun h => h)
                clear hfv hxb
                go_cut [17] from 62 to 167 (fun p ws => p = .pointer (some ⟨xb, 0, none⟩) ∧ BoxE wy ws xb (hdE xs))
                case first =>
                  rcases Nat.eq_zero_or_pos xs.length with h0 | h0
                  · have dl : decide ((0 : Int) < (xs.length : Int)) = false := decide_eq_false (by omega)
                    have HN : Hid (hdE xs = ⟨0, 0, 0⟩) := Lib.hid (by rw [List.eq_nil_of_length_eq_zero h0]; rfl)
                    go_wp2_with fail
                    go_meet
                    rw [HN.out]
                    exact ⟨rfl, HFv.out, x0, x1, x2, Nat.le_of_eq HXb.out.symm⟩
                  · have dl : decide ((0 : Int) < (xs.length : Int)) = true := decide_eq_true (by omega)
                    have HN := Lib.hid (hdE_gt h0)
                    obtain ⟨_, _, he, _, _, hx⟩ := EdsV.facts (HVy.out.no HFv.out)
                    simp only [Value.slice.injEq] at he
                    obtain ⟨rfl, _, rfl⟩ := he
                    obtain ⟨xl, xo, rfl, _, y0, y1, y2⟩ := hx 0 h0
                    rw [Nat.zero_mul, Nat.add_zero] at y0 y1 y2
                    clear hx
                    go_wp2_with fail
                    go_meet
                    rw [HN.out]
                    obtain ⟨k0, k1, k2⟩ := put_three wv (.int .i64 (gt xs 0).f) (.int .i64 (gt xs 0).t) (.int .i64 (gt xs 0).l) x0 x1 x2
                    exact ⟨rfl, HFv.out.setCells3 _ _ _ (Nat.le_of_eq HXb.out.symm), k0, k1, k2, Nat.le_of_eq HXb.out.symm⟩
                case rest =>
                  obtain ⟨rfl, hbx⟩ := hcut
                  obtain ⟨wz, hwz⟩ : ∃ x, x = wc := ⟨_, rfl⟩
                  subst hwz
                  have HPz := Lib.hid (HPy.out.no hbx.fx)
                  have HVz := Lib.hid (HVy.out.no hbx.fx)
                  have a0 := hbx.fx.cell' HA0y.out (fun h => h)
                  have a1 := hbx.fx.cell' HA1y.out (fun h => h)
                  have HA1z := Lib.hid a1
                  obtain ⟨x, hx⟩ : ∃ x, x = hdE xs := ⟨_, rfl⟩
                  have HXok : Hid x.ok := Lib.hid (by rw [hx]; exact hdE_ok HOK.out)
                  rw [← hx] at hbx
                  have HBx := Lib.hid hbx
                  have HZz : Hid (wy.heap.size ≤ wz.heap.size) := Lib.hid hbx.fx.size
                  obtain ⟨xf, xt, xl⟩ := x
                  clear hza hbx hx HVy HA0y HA1y x0 x1 x2 z0 z1 z2
                  go_upto_if 86 with fail
                  refine (pick_any ad 4 (by omega) (by omega) _).mono ?_
                  rintro e wp ⟨pc, hpc, rfl, hwp⟩
                  subst hwp
                  go_upto_if 86 with fail
                  go_cut [18, 19, 20, 21, 22, 23, 24, 25, 26] from 62 to 167 (fun _ _ _ _ _ _ _ _ _ ws => ∃ (L2 : List Ed) (rv2 : Value) (D2 R2 : Nat → Prop), PG w ws b rb N L2 rv2 D2 R2 ∧ Fx (fun j => j = rb ∨ D j) wz ws ∧ L2.length ≤ L.length + 12)
                  case first =>
                    rcases Nat.lt_or_ge pc 3 with hp3 | hp3
                    · have dp : decide ((pc : Int) < 3) = true := decide_eq_true (by omega)
                      obtain ⟨ii, hi, hzr, hs, hb⟩ := info_edge'
                      go_wp2_with (at_builtin; refine wpList_append_sl rfl _ _ 22 rfl wz.heap.size 25 Try.underlying22 hi hzr hs hb rfl (by decide) rfl (World.ownsRow_nil _ _ _ _) rfl HVz.out (icells_one _) (by unfold maxLen; omega) (by omega) (by simp) ?_)
                      intro vo w2 ho hf hiff
                      have ho : OwnT 25 e3 3 w2 wz.heap.size vo xs := by unfold OwnT; exact ho
                      have hfn : Fx No wz w2 := hf.mono fun k _ hk => by cases hk
                      obtain ⟨oo, oc, rfl, _, _, _⟩ := EdsV.facts (OwnT.row ho)
                      have HOw := Lib.hid ho
                      have HF2 := Lib.hid hfn
                      have HPw := Lib.hid (HPz.out.no hfn)
                      have HVw := Lib.hid (HVz.out.no hfn)
                      have HRb : Hid (∀ k, R k → k < w2.heap.size) := Lib.hid HPw.out.eb
                      have hzw := hfn.size
                      have HZw := Lib.hid hzw
                      clear dp hp3 hpc ho hf hiff hfn a0 a1 hi hzr hs hb
                      obtain ⟨L2, hL2⟩ : ∃ x, x = addG N L xs := ⟨_, rfl⟩
                      obtain ⟨cnt, hcnt⟩ : ∃ x, x = cntG N L xs := ⟨_, rfl⟩
                      obtain ⟨code, hcode⟩ : ∃ x, x = codeG N xs := ⟨_, rfl⟩
                      have HLn : Hid (L2.length ≤ L.length + 12) := Lib.hid (by have := addG_len N L xs; rw [hL2]; omega)
                      have CA : Hid (∀ W (u : Value) (E' : Nat → Prop), Fx No w2 W → EdsV W E' u xs → Calls Try.prog 25 #[.agg #[.int .i64 (N : Nat), .slice ro L.length rc], u] W fun e w' => ∃ so sc, e = .returned (.tuple #[.agg #[.int .i64 (N : Nat), .slice so L2.length sc], .int .i64 (cnt : Nat), .int .i64 code]) ∧ Fx No W w' ∧ EdsV w' (fun k => (R k ∨ W.heap.size ≤ k) ∧ k < w'.heap.size) (.slice so L2.length sc) L2) := Lib.hid fun W u E' h hu => (refAdd_both (HPw.out.row.no h) HPw.out.g.asc hu N (by omega)).mono fun e w' ⟨v', h1, h2, h3⟩ => by
                        rw [← hL2] at h3
                        obtain ⟨so, sc, rfl, _⟩ := EdsV.facts h3
                        exact ⟨so, sc, by rw [h1, ← hcnt, ← hcode], h2, h3⟩
                      have CG : Hid (∀ W, GraphV W D b N L → EdsV W (Iv wz.heap.size w2.heap.size) (.slice oo xs.length oc) xs → Calls Try.prog 19 #[.pointer (some ⟨b, 0, none⟩), .slice oo xs.length oc] W fun r w' => r = .returned (.tuple #[.int .i64 (cnt : Nat), .int .i64 code]) ∧ Fx D W w' ∧ GraphV w' (DU D W w') b N L2) := Lib.hid fun W hg hx => by
                        rw [hL2, hcnt, hcode]
                        exact gAdd_both hg hx (fun k hk hd => by have := HPz.out.g.lt k hd; have := hk.1; omega) HOK.out (by omega)
                      clear hL2 hcnt hcode
                      have g0 : ∀ W, Fx No w2 W → W.cell? ⟨rb, 0, none⟩ = some (.int .i64 (N : Nat)) := fun W h => h.cell' HPw.out.r0.1 (fun h => h)
                      have g1 : ∀ W, Fx No w2 W → W.cell? ⟨rb, 1, none⟩ = some (.slice ro L.length rc) := fun W h => h.cell' HPw.out.r1.1 (fun h => h)
                      have f1 : ∀ W, Fx No w2 W → W.cell? ⟨ab, 1, none⟩ = some (.slice lo xs.length lc) := fun W h => h.cell' (HF2.out.cell' HA1z.out (fun h => h)) (fun h => h)
                      go_upto_region 20 with fail
                      go_cut [19, 20, 21] from 62 to 167 (fun s a c ws => ∃ (sb : Nat) (so : Option Addr) (sc : Nat), s = .pointer (some ⟨sb, 0, none⟩) ∧ a = .int .i64 (cnt : Nat) ∧ c = .int .i64 code ∧ AfG w2 ws R N L2 (.slice so L2.length sc) sb)
                      case first =>
                        refine wp_region_H (fun W => Fx No w2 W) (by kernel_rfl) ((Fx.refl _ _).drew) ?_
                        intro hS
                        refine wpAnyH_hold (fun W' => Fx No w2 W') hS ?_
                        clear hS
                        rintro y0 hS
                        have hS0 := hS
                        refine wpAnyH_take (i := 0) (v := ?_) rfl (by kernel_rfl) (by kernel_rfl) (by kernel_rfl) (fun _ _ _ h => h) (Or.inl ⟨by rfl, ?_⟩) hS ?_
                        rotate_left
                        · (intro W hs; go_simp; first | done | with_reducible rfl)
                        try simp only [Act.put, List.getElem_toArray, List.getElem_cons_zero, List.getElem_cons_succ, List.setIfInBounds_toArray, List.set_cons_zero, List.set_cons_succ]
                        refine wpAnyH_take (i := 1) (v := ?_) rfl (by kernel_rfl) (by kernel_rfl) (by kernel_rfl) (fun _ _ _ h => h) (Or.inl ⟨by rfl, ?_⟩) hS ?_
                        rotate_left
                        · (intro W hs; go_simp; first | done | with_reducible rfl)
                        try simp only [Act.put, List.getElem_toArray, List.getElem_cons_zero, List.getElem_cons_succ, List.setIfInBounds_toArray, List.set_cons_zero, List.set_cons_succ]
                        refine wpAnyH_take (i := 2) (v := ?_) rfl (by kernel_rfl) (by kernel_rfl) (by kernel_rfl) (fun _ _ _ h => h) (Or.inl ⟨by rfl, ?_⟩) hS ?_
                        rotate_left
                        · (intro W hs; go_simp; first | done | with_reducible rfl)
                        try simp only [Act.put, List.getElem_toArray, List.getElem_cons_zero, List.getElem_cons_succ, List.setIfInBounds_toArray, List.set_cons_zero, List.set_cons_succ]
                        refine wpH_two (i := 3) (j := 9) (by kernel_rfl) rfl rfl (fun K hK => ?_) (fun K hK => ?_)
                        · go_simp
                          refine (docEdges_any (HVw.out.no hS) (by omega)).mono ?_
                          rintro e y1 ⟨u1, rfl, hfi, ho⟩
                          have HV1 := Lib.hid ho
                          have HZy1 : Hid (y0.heap.size ≤ y1.heap.size) := Lib.hid hfi.size
                          have HSy1 : Hid (Fx No y0 y1) := Lib.hid hfi
                          refine hK.out _ _ (hS.trans hfi) (fun hS' => ?_)
                          clear hK K hS hfi ho
                          have hS := hS'
                          clear hS'
                          try simp only [Act.put, List.getElem_toArray, List.getElem_cons_zero, List.getElem_cons_succ, List.setIfInBounds_toArray, List.set_cons_zero, List.set_cons_succ]
                          refine wpH_two (i := 4) (j := 9) (by kernel_rfl) rfl rfl (fun K hK => ?_) (fun K hK => ?_)
                          · go_simp
                            refine (CA.out _ _ _ hS (OwnT.row HV1.out)).mono ?_
                            rintro e y2 ⟨so, sc, rfl, hfi, hr⟩
                            have HV1 := Lib.hid (OwnT.no HV1.out hfi)
                            have HR1 := Lib.hid hr
                            have HZy2 : Hid (y1.heap.size ≤ y2.heap.size) := Lib.hid hfi.size
                            have HSy2 : Hid (Fx No y1 y2) := Lib.hid hfi
                            refine hK.out _ _ (hS.trans hfi) (fun hS' => ?_)
                            clear hK K hS hfi hr
                            have hS := hS'
                            clear hS'
                            try simp only [Act.put, List.getElem_toArray, List.getElem_cons_zero, List.getElem_cons_succ, List.setIfInBounds_toArray, List.set_cons_zero, List.set_cons_succ]
                            refine wpAnyH_take (i := 5) (v := ?_) rfl (by kernel_rfl) (by kernel_rfl) (by kernel_rfl) (fun _ _ _ h => h) (Or.inl ⟨by rfl, ?_⟩) hS ?_
                            rotate_left
                            · (intro W hs; go_simp; first | done | with_reducible rfl)
                            try simp only [Act.put, List.getElem_toArray, List.getElem_cons_zero, List.getElem_cons_succ, List.setIfInBounds_toArray, List.set_cons_zero, List.set_cons_succ]
                            refine wpAnyH_take (i := 6) (v := ?_) rfl (by kernel_rfl) (by kernel_rfl) (by kernel_rfl) (fun _ _ _ h => h) (Or.inl ⟨by rfl, ?_⟩) hS ?_
                            rotate_left
                            · (intro W hs; go_simp; first | done | with_reducible rfl)
                            try simp only [Act.put, List.getElem_toArray, List.getElem_cons_zero, List.getElem_cons_succ, List.setIfInBounds_toArray, List.set_cons_zero, List.set_cons_succ]
                            refine wpAnyH_take (i := 7) (v := ?_) rfl (by kernel_rfl) (by kernel_rfl) (by kernel_rfl) (fun _ _ _ h => h) (Or.inl ⟨by rfl, ?_⟩) hS ?_
                            rotate_left
                            · (intro W hs; go_simp; first | done | with_reducible rfl)
                            try simp only [Act.put, List.getElem_toArray, List.getElem_cons_zero, List.getElem_cons_succ, List.setIfInBounds_toArray, List.set_cons_zero, List.set_cons_succ]
                            refine wpAnyH_take (i := 8) (v := ?_) rfl (by kernel_rfl) (by kernel_rfl) (by kernel_rfl) (fun _ _ _ h => h) (Or.inl ⟨by rfl, ?_⟩) hS ?_
                            rotate_left
                            · (intro W hs; go_simp; first | done | with_reducible rfl)
                            try simp only [Act.put, List.getElem_toArray, List.getElem_cons_zero, List.getElem_cons_succ, List.setIfInBounds_toArray, List.set_cons_zero, List.set_cons_succ]
                            refine wpH_one (i := 9) (by kernel_rfl) rfl (fun K hK => ?_)
                            go_simp
                            have HB0 := Lib.hid hS.size
                            have hfi : Fx No y2 (y2.alloc (.cells #[.int .i64 0, .slice none 0 0] 30)) := (Fx.refl No _).alloc _
                            refine hK.out _ _ (hS.trans hfi) (fun hS' => ?_)
                            clear hK K hS
                            have hS := hS'
                            clear hS'
                            try simp only [Act.put, List.getElem_toArray, List.getElem_cons_zero, List.getElem_cons_succ, List.setIfInBounds_toArray, List.set_cons_zero, List.set_cons_succ]
                            refine wpAnyH_hold (fun W' => Fx No y2 W' ∧ Fx No w2 W' ∧ y2.heap.size < W'.heap.size ∧ W'.cell? ⟨y2.heap.size, 0, none⟩ = some (.int .i64 0) ∧ W'.frozen? ⟨y2.heap.size, 0, none⟩ = false ∧ W'.cell? ⟨y2.heap.size, 1, none⟩ = some (.slice none 0 0) ∧ W'.frozen? ⟨y2.heap.size, 1, none⟩ = false) ⟨hfi, hS, by simp, by simp, by simp, by simp, by simp⟩ ?_
                            clear hfi hS
                            rintro y3 ⟨hfi, hS, hlt, hbx⟩
                            obtain ⟨sb, hsb⟩ : ∃ q, q = y2.heap.size := ⟨_, rfl⟩
                            rw [← hsb] at hbx hlt ⊢
                            have HV1 := Lib.hid (OwnT.no HV1.out hfi)
                            have HR1 := Lib.hid (RowV.no HR1.out hfi)
                            have Hsb := Lib.hid hbx
                            have HLsb : Hid (sb < y3.heap.size) := Lib.hid hlt
                            have HEsb : Hid (sb = y2.heap.size) := Lib.hid hsb
                            have HZy3 : Hid (y2.heap.size ≤ y3.heap.size) := Lib.hid hfi.size
                            have HSl : Hid (w2.heap.size ≤ sb) := Lib.hid (by have h1 := hsb; have h2 := HB0.out; omega)
                            clear hbx hlt hsb hfi HB0
                            refine wpH_one (i := 10) (by kernel_rfl) rfl (fun K hK => ?_)
                            obtain ⟨b0, b1, b2, b3⟩ := Hsb.out
                            have hsl : w2.heap.size ≤ sb := HSl.out
                            have HSc := Lib.hid hS
                            go_simp
                            refine hK.out _ _ ((hS.setCell (.inl hsl) _).setCell (.inl hsl) _) (fun hS' => ?_)
                            clear hK K hS
                            have hS := hS'
                            clear hS'
                            try simp only [Act.put, List.getElem_toArray, List.getElem_cons_zero, List.getElem_cons_succ, List.setIfInBounds_toArray, List.set_cons_zero, List.set_cons_succ]
                            clear b0 b1 b2 b3 hsl
                            refine wpAnyH_take (i := 11) (v := ?_) rfl (by kernel_rfl) (by kernel_rfl) (by kernel_rfl) (fun _ _ _ h => h) (Or.inl ⟨by rfl, ?_⟩) hS ?_
                            rotate_left
                            · (intro W hs; go_simp; first | done | with_reducible rfl)
                            try simp only [Act.put, List.getElem_toArray, List.getElem_cons_zero, List.getElem_cons_succ, List.setIfInBounds_toArray, List.set_cons_zero, List.set_cons_succ]
                            refine wpAnyH_take (i := 12) (v := ?_) rfl (by kernel_rfl) (by kernel_rfl) (by kernel_rfl) (fun _ _ _ h => h) (Or.inl ⟨by rfl, ?_⟩) hS ?_
                            rotate_left
                            · (intro W hs; go_simp; first | done | with_reducible rfl)
                            try simp only [Act.put, List.getElem_toArray, List.getElem_cons_zero, List.getElem_cons_succ, List.setIfInBounds_toArray, List.set_cons_zero, List.set_cons_succ]
                            refine wpAnyH_done (by kernel_rfl) ?_ _
                            have HAf : Hid (AfG w2 _ R N L2 (.slice so L2.length sc) sb) := Lib.hid (afg_mk (cur := y3) HSc.out Hsb.out HR1.out (by
                              intro k hk
                              have h0 := HLsb.out
                              have h1 := HEsb.out
                              have h2 := HSc.out.size
                              have h3 := hS0.size
                              have zy1 := HZy1.out
                              have zy2 := HZy2.out
                              have zy3 := HZy3.out
                              obtain ⟨h4, h5⟩ := hk
                              refine ⟨?_, by omega, ?_⟩
                              · rcases h4 with h4 | h4
                                · exact .inl h4
                                · exact .inr (by omega)
                              · rcases h4 with h4 | h4
                                · have h6 := HRb.out k h4
                                  omega
                                · omega) (by
                              have h1 := HEsb.out
                              have h3 := hS0.size
                              have zy1 := HZy1.out
                              have zy2 := HZy2.out
                              have zy3 := HZy3.out
                              omega))
                            clear hS hS0 g0 g1
                            go_wp2_with fail
                            go_meet
                            exact ⟨_, _, _, rfl, rfl, rfl, HAf.out⟩
                          · go_simp
                            have HB0 := Lib.hid hS.size
                            have hfi : Fx No y1 (y1.alloc (.cells #[.int .i64 0, .slice none 0 0] 30)) := (Fx.refl No _).alloc _
                            refine hK.out _ _ (hS.trans hfi) (fun hS' => ?_)
                            clear hK K hS
                            have hS := hS'
                            clear hS'
                            try simp only [Act.put, List.getElem_toArray, List.getElem_cons_zero, List.getElem_cons_succ, List.setIfInBounds_toArray, List.set_cons_zero, List.set_cons_succ]
                            refine wpAnyH_hold (fun W' => Fx No y1 W' ∧ Fx No w2 W' ∧ y1.heap.size < W'.heap.size ∧ W'.cell? ⟨y1.heap.size, 0, none⟩ = some (.int .i64 0) ∧ W'.frozen? ⟨y1.heap.size, 0, none⟩ = false ∧ W'.cell? ⟨y1.heap.size, 1, none⟩ = some (.slice none 0 0) ∧ W'.frozen? ⟨y1.heap.size, 1, none⟩ = false) ⟨hfi, hS, by simp, by simp, by simp, by simp, by simp⟩ ?_
                            clear hfi hS
                            rintro y5 ⟨hfi, hS, hlt, hbx⟩
                            obtain ⟨sb, hsb⟩ : ∃ q, q = y1.heap.size := ⟨_, rfl⟩
                            rw [← hsb] at hbx hlt ⊢
                            have HV1 := Lib.hid (OwnT.no HV1.out hfi)
                            have Hsb := Lib.hid hbx
                            have HLsb : Hid (sb < y5.heap.size) := Lib.hid hlt
                            have HEsb : Hid (sb = y1.heap.size) := Lib.hid hsb
                            have HZy5 : Hid (y1.heap.size ≤ y5.heap.size) := Lib.hid hfi.size
                            have HSl : Hid (w2.heap.size ≤ sb) := Lib.hid (by have h1 := hsb; have h2 := HB0.out; omega)
                            clear hbx hlt hsb hfi HB0
                            refine wpH_one (i := 4) (by kernel_rfl) rfl (fun K hK => ?_)
                            go_simp
                            refine (CA.out _ _ _ hS (OwnT.row HV1.out)).mono ?_
                            rintro e y6 ⟨so, sc, rfl, hfi, hr⟩
                            have HV1 := Lib.hid (OwnT.no HV1.out hfi)
                            have Hsb := Lib.hid (And.intro (hfi.cell' Hsb.out.1 (fun h => h)) (And.intro ((hfi.cellF Hsb.out.1 Hsb.out.2.1 (fun h => h)).2) (And.intro (hfi.cell' Hsb.out.2.2.1 (fun h => h)) ((hfi.cellF Hsb.out.2.2.1 Hsb.out.2.2.2 (fun h => h)).2))))
                            have HR1 := Lib.hid hr
                            have HZy6 : Hid (y5.heap.size ≤ y6.heap.size) := Lib.hid hfi.size
                            have HSy6 : Hid (Fx No y5 y6) := Lib.hid hfi
                            refine hK.out _ _ (hS.trans hfi) (fun hS' => ?_)
                            clear hK K hS hfi hr
                            have hS := hS'
                            clear hS'
                            try simp only [Act.put, List.getElem_toArray, List.getElem_cons_zero, List.getElem_cons_succ, List.setIfInBounds_toArray, List.set_cons_zero, List.set_cons_succ]
                            refine wpAnyH_take (i := 5) (v := ?_) rfl (by kernel_rfl) (by kernel_rfl) (by kernel_rfl) (fun _ _ _ h => h) (Or.inl ⟨by rfl, ?_⟩) hS ?_
                            rotate_left
                            · (intro W hs; go_simp; first | done | with_reducible rfl)
                            try simp only [Act.put, List.getElem_toArray, List.getElem_cons_zero, List.getElem_cons_succ, List.setIfInBounds_toArray, List.set_cons_zero, List.set_cons_succ]
                            refine wpAnyH_take (i := 6) (v := ?_) rfl (by kernel_rfl) (by kernel_rfl) (by kernel_rfl) (fun _ _ _ h => h) (Or.inl ⟨by rfl, ?_⟩) hS ?_
                            rotate_left
                            · (intro W hs; go_simp; first | done | with_reducible rfl)
                            try simp only [Act.put, List.getElem_toArray, List.getElem_cons_zero, List.getElem_cons_succ, List.setIfInBounds_toArray, List.set_cons_zero, List.set_cons_succ]
                            refine wpAnyH_take (i := 7) (v := ?_) rfl (by kernel_rfl) (by kernel_rfl) (by kernel_rfl) (fun _ _ _ h => h) (Or.inl ⟨by rfl, ?_⟩) hS ?_
                            rotate_left
                            · (intro W hs; go_simp; first | done | with_reducible rfl)
                            try simp only [Act.put, List.getElem_toArray, List.getElem_cons_zero, List.getElem_cons_succ, List.setIfInBounds_toArray, List.set_cons_zero, List.set_cons_succ]
                            refine wpAnyH_take (i := 8) (v := ?_) rfl (by kernel_rfl) (by kernel_rfl) (by kernel_rfl) (fun _ _ _ h => h) (Or.inl ⟨by rfl, ?_⟩) hS ?_
                            rotate_left
                            · (intro W hs; go_simp; first | done | with_reducible rfl)
                            try simp only [Act.put, List.getElem_toArray, List.getElem_cons_zero, List.getElem_cons_succ, List.setIfInBounds_toArray, List.set_cons_zero, List.set_cons_succ]
                            refine wpH_one (i := 10) (by kernel_rfl) rfl (fun K hK => ?_)
                            obtain ⟨b0, b1, b2, b3⟩ := Hsb.out
                            have hsl : w2.heap.size ≤ sb := HSl.out
                            have HSc := Lib.hid hS
                            go_simp
                            refine hK.out _ _ ((hS.setCell (.inl hsl) _).setCell (.inl hsl) _) (fun hS' => ?_)
                            clear hK K hS
                            have hS := hS'
                            clear hS'
                            try simp only [Act.put, List.getElem_toArray, List.getElem_cons_zero, List.getElem_cons_succ, List.setIfInBounds_toArray, List.set_cons_zero, List.set_cons_succ]
                            clear b0 b1 b2 b3 hsl
                            refine wpAnyH_take (i := 11) (v := ?_) rfl (by kernel_rfl) (by kernel_rfl) (by kernel_rfl) (fun _ _ _ h => h) (Or.inl ⟨by rfl, ?_⟩) hS ?_
                            rotate_left
                            · (intro W hs; go_simp; first | done | with_reducible rfl)
                            try simp only [Act.put, List.getElem_toArray, List.getElem_cons_zero, List.getElem_cons_succ, List.setIfInBounds_toArray, List.set_cons_zero, List.set_cons_succ]
                            refine wpAnyH_take (i := 12) (v := ?_) rfl (by kernel_rfl) (by kernel_rfl) (by kernel_rfl) (fun _ _ _ h => h) (Or.inl ⟨by rfl, ?_⟩) hS ?_
                            rotate_left
                            · (intro W hs; go_simp; first | done | with_reducible rfl)
                            try simp only [Act.put, List.getElem_toArray, List.getElem_cons_zero, List.getElem_cons_succ, List.setIfInBounds_toArray, List.set_cons_zero, List.set_cons_succ]
                            refine wpAnyH_done (by kernel_rfl) ?_ _
                            have HAf : Hid (AfG w2 _ R N L2 (.slice so L2.length sc) sb) := Lib.hid (afg_mk (cur := y6) HSc.out Hsb.out HR1.out (by
                              intro k hk
                              have h0 := HLsb.out
                              have h1 := HEsb.out
                              have h2 := HSc.out.size
                              have h3 := hS0.size
                              have zy1 := HZy1.out
                              have zy5 := HZy5.out
                              have zy6 := HZy6.out
                              obtain ⟨h4, h5⟩ := hk
                              refine ⟨?_, by omega, ?_⟩
                              · rcases h4 with h4 | h4
                                · exact .inl h4
                                · exact .inr (by omega)
                              · rcases h4 with h4 | h4
                                · have h6 := HRb.out k h4
                                  omega
                                · omega) (by
                              have h1 := HEsb.out
                              have h3 := hS0.size
                              have zy1 := HZy1.out
                              have zy5 := HZy5.out
                              have zy6 := HZy6.out
                              omega))
                            clear hS hS0 g0 g1
                            go_wp2_with fail
                            go_meet
                            exact ⟨_, _, _, rfl, rfl, rfl, HAf.out⟩
                        · go_simp
                          have HB0 := Lib.hid hS.size
                          have hfi : Fx No y0 (y0.alloc (.cells #[.int .i64 0, .slice none 0 0] 30)) := (Fx.refl No _).alloc _
                          refine hK.out _ _ (hS.trans hfi) (fun hS' => ?_)
                          clear hK K hS
                          have hS := hS'
                          clear hS'
                          try simp only [Act.put, List.getElem_toArray, List.getElem_cons_zero, List.getElem_cons_succ, List.setIfInBounds_toArray, List.set_cons_zero, List.set_cons_succ]
                          refine wpAnyH_hold (fun W' => Fx No y0 W' ∧ Fx No w2 W' ∧ y0.heap.size < W'.heap.size ∧ W'.cell? ⟨y0.heap.size, 0, none⟩ = some (.int .i64 0) ∧ W'.frozen? ⟨y0.heap.size, 0, none⟩ = false ∧ W'.cell? ⟨y0.heap.size, 1, none⟩ = some (.slice none 0 0) ∧ W'.frozen? ⟨y0.heap.size, 1, none⟩ = false) ⟨hfi, hS, by simp, by simp, by simp, by simp, by simp⟩ ?_
                          clear hfi hS
                          rintro y8 ⟨hfi, hS, hlt, hbx⟩
                          obtain ⟨sb, hsb⟩ : ∃ q, q = y0.heap.size := ⟨_, rfl⟩
                          rw [← hsb] at hbx hlt ⊢
                          have Hsb := Lib.hid hbx
                          have HLsb : Hid (sb < y8.heap.size) := Lib.hid hlt
                          have HEsb : Hid (sb = y0.heap.size) := Lib.hid hsb
                          have HZy8 : Hid (y0.heap.size ≤ y8.heap.size) := Lib.hid hfi.size
                          have HSl : Hid (w2.heap.size ≤ sb) := Lib.hid (by have h1 := hsb; have h2 := HB0.out; omega)
                          clear hbx hlt hsb hfi HB0
                          refine wpH_one (i := 3) (by kernel_rfl) rfl (fun K hK => ?_)
                          go_simp
                          refine (docEdges_any (HVw.out.no hS) (by omega)).mono ?_
                          rintro e y9 ⟨u1, rfl, hfi, ho⟩
                          have Hsb := Lib.hid (And.intro (hfi.cell' Hsb.out.1 (fun h => h)) (And.intro ((hfi.cellF Hsb.out.1 Hsb.out.2.1 (fun h => h)).2) (And.intro (hfi.cell' Hsb.out.2.2.1 (fun h => h)) ((hfi.cellF Hsb.out.2.2.1 Hsb.out.2.2.2 (fun h => h)).2))))
                          have HV1 := Lib.hid ho
                          have HZy9 : Hid (y8.heap.size ≤ y9.heap.size) := Lib.hid hfi.size
                          have HSy9 : Hid (Fx No y8 y9) := Lib.hid hfi
                          refine hK.out _ _ (hS.trans hfi) (fun hS' => ?_)
                          clear hK K hS hfi ho
                          have hS := hS'
                          clear hS'
                          try simp only [Act.put, List.getElem_toArray, List.getElem_cons_zero, List.getElem_cons_succ, List.setIfInBounds_toArray, List.set_cons_zero, List.set_cons_succ]
                          refine wpH_one (i := 4) (by kernel_rfl) rfl (fun K hK => ?_)
                          go_simp
                          refine (CA.out _ _ _ hS (OwnT.row HV1.out)).mono ?_
                          rintro e y10 ⟨so, sc, rfl, hfi, hr⟩
                          have Hsb := Lib.hid (And.intro (hfi.cell' Hsb.out.1 (fun h => h)) (And.intro ((hfi.cellF Hsb.out.1 Hsb.out.2.1 (fun h => h)).2) (And.intro (hfi.cell' Hsb.out.2.2.1 (fun h => h)) ((hfi.cellF Hsb.out.2.2.1 Hsb.out.2.2.2 (fun h => h)).2))))
                          have HV1 := Lib.hid (OwnT.no HV1.out hfi)
                          have HR1 := Lib.hid hr
                          have HZy10 : Hid (y9.heap.size ≤ y10.heap.size) := Lib.hid hfi.size
                          have HSy10 : Hid (Fx No y9 y10) := Lib.hid hfi
                          refine hK.out _ _ (hS.trans hfi) (fun hS' => ?_)
                          clear hK K hS hfi hr
                          have hS := hS'
                          clear hS'
                          try simp only [Act.put, List.getElem_toArray, List.getElem_cons_zero, List.getElem_cons_succ, List.setIfInBounds_toArray, List.set_cons_zero, List.set_cons_succ]
                          refine wpAnyH_take (i := 5) (v := ?_) rfl (by kernel_rfl) (by kernel_rfl) (by kernel_rfl) (fun _ _ _ h => h) (Or.inl ⟨by rfl, ?_⟩) hS ?_
                          rotate_left
                          · (intro W hs; go_simp; first | done | with_reducible rfl)
                          try simp only [Act.put, List.getElem_toArray, List.getElem_cons_zero, List.getElem_cons_succ, List.setIfInBounds_toArray, List.set_cons_zero, List.set_cons_succ]
                          refine wpAnyH_take (i := 6) (v := ?_) rfl (by kernel_rfl) (by kernel_rfl) (by kernel_rfl) (fun _ _ _ h => h) (Or.inl ⟨by rfl, ?_⟩) hS ?_
                          rotate_left
                          · (intro W hs; go_simp; first | done | with_reducible rfl)
                          try simp only [Act.put, List.getElem_toArray, List.getElem_cons_zero, List.getElem_cons_succ, List.setIfInBounds_toArray, List.set_cons_zero, List.set_cons_succ]
                          refine wpAnyH_take (i := 7) (v := ?_) rfl (by kernel_rfl) (by kernel_rfl) (by kernel_rfl) (fun _ _ _ h => h) (Or.inl ⟨by rfl, ?_⟩) hS ?_
                          rotate_left
                          · (intro W hs; go_simp; first | done | with_reducible rfl)
                          try simp only [Act.put, List.getElem_toArray, List.getElem_cons_zero, List.getElem_cons_succ, List.setIfInBounds_toArray, List.set_cons_zero, List.set_cons_succ]
                          refine wpAnyH_take (i := 8) (v := ?_) rfl (by kernel_rfl) (by kernel_rfl) (by kernel_rfl) (fun _ _ _ h => h) (Or.inl ⟨by rfl, ?_⟩) hS ?_
                          rotate_left
                          · (intro W hs; go_simp; first | done | with_reducible rfl)
                          try simp only [Act.put, List.getElem_toArray, List.getElem_cons_zero, List.getElem_cons_succ, List.setIfInBounds_toArray, List.set_cons_zero, List.set_cons_succ]
                          refine wpH_one (i := 10) (by kernel_rfl) rfl (fun K hK => ?_)
                          obtain ⟨b0, b1, b2, b3⟩ := Hsb.out
                          have hsl : w2.heap.size ≤ sb := HSl.out
                          have HSc := Lib.hid hS
                          go_simp
                          refine hK.out _ _ ((hS.setCell (.inl hsl) _).setCell (.inl hsl) _) (fun hS' => ?_)
                          clear hK K hS
                          have hS := hS'
                          clear hS'
                          try simp only [Act.put, List.getElem_toArray, List.getElem_cons_zero, List.getElem_cons_succ, List.setIfInBounds_toArray, List.set_cons_zero, List.set_cons_succ]
                          clear b0 b1 b2 b3 hsl
                          refine wpAnyH_take (i := 11) (v := ?_) rfl (by kernel_rfl) (by kernel_rfl) (by kernel_rfl) (fun _ _ _ h => h) (Or.inl ⟨by rfl, ?_⟩) hS ?_
                          rotate_left
                          · (intro W hs; go_simp; first | done | with_reducible rfl)
                          try simp only [Act.put, List.getElem_toArray, List.getElem_cons_zero, List.getElem_cons_succ, List.setIfInBounds_toArray, List.set_cons_zero, List.set_cons_succ]
                          refine wpAnyH_take (i := 12) (v := ?_) rfl (by kernel_rfl) (by kernel_rfl) (by kernel_rfl) (fun _ _ _ h => h) (Or.inl ⟨by rfl, ?_⟩) hS ?_
                          rotate_left
                          · (intro W hs; go_simp; first | done | with_reducible rfl)
                          try simp only [Act.put, List.getElem_toArray, List.getElem_cons_zero, List.getElem_cons_succ, List.setIfInBounds_toArray, List.set_cons_zero, List.set_cons_succ]
                          refine wpAnyH_done (by kernel_rfl) ?_ _
                          have HAf : Hid (AfG w2 _ R N L2 (.slice so L2.length sc) sb) := Lib.hid (afg_mk (cur := y10) HSc.out Hsb.out HR1.out (by
                            intro k hk
                            have h0 := HLsb.out
                            have h1 := HEsb.out
                            have h2 := HSc.out.size
                            have h3 := hS0.size
                            have zy8 := HZy8.out
                            have zy9 := HZy9.out
                            have zy10 := HZy10.out
                            obtain ⟨h4, h5⟩ := hk
                            refine ⟨?_, by omega, ?_⟩
                            · rcases h4 with h4 | h4
                              · exact .inl h4
                              · exact .inr (by omega)
                            · rcases h4 with h4 | h4
                              · have h6 := HRb.out k h4
                                omega
                              · omega) (by
                            have h1 := HEsb.out
                            have h3 := hS0.size
                            have zy8 := HZy8.out
                            have zy9 := HZy9.out
                            have zy10 := HZy10.out
                            omega))
                          clear hS hS0 g0 g1
                          go_wp2_with fail
                          go_meet
                          exact ⟨_, _, _, rfl, rfl, rfl, HAf.out⟩
                      case rest =>
                        obtain ⟨sb, so, sc, rfl, rfl, rfl, haf⟩ := hcut
                        obtain ⟨w3, hw3⟩ : ∃ x, x = wc := ⟨_, rfl⟩
                        subst hw3
                        have HAf := Lib.hid haf
                        have q0 := haf.q0
                        have q1 := haf.q1
                        obtain ⟨r0, r0f⟩ := (HPw.out.no haf.fx).r0
                        obtain ⟨r1, r1f⟩ := (HPw.out.no haf.fx).r1
                        have HT := Lib.hid (put_two w3 (qb := rb) (.int .i64 (N : Nat)) (.slice so L2.length sc) r0 r1)
                        have HGy : Hid (GraphV ((w3.setCell ⟨rb, 0, none⟩ (.int .i64 (N : Nat))).setCell ⟨rb, 1, none⟩ (.slice so L2.length sc)) D b N L) := Lib.hid ((HPw.out.g.no haf.fx).keep HT.out.2.2.1 fun j hj e => HPw.out.rD.1 (e ▸ hj))
                        have HOy : Hid (EdsV ((w3.setCell ⟨rb, 0, none⟩ (.int .i64 (N : Nat))).setCell ⟨rb, 1, none⟩ (.slice so L2.length sc)) (Iv wz.heap.size w2.heap.size) (.slice oo xs.length oc) xs) := Lib.hid (((OwnT.row HOw.out).no haf.fx).keep HT.out.2.2.1 fun j hj e => by have h1 := hj.1; have h2 : j = rb := e; have h3 := HRl.out; have h4 := HZy.out; have h5 := HZz.out; omega)
                        clear haf g0 g1 f1
                        go_wp2_with fail
                        refine (CG.out _ HGy.out HOy.out).mono ?_
                        rintro e w4 ⟨rfl, hfD, hg4⟩
                        have HFD := Lib.hid hfD
                        have HP4 := Lib.hid (HPw.out.step (L' := L2) HAf.out.fx HAf.out.row (by
                            intro j hj
                            obtain ⟨h1, h2⟩ := hj
                            rcases h1 with h1 | h1
                            · exact HPw.out.ap j h1
                            · have h3 := HRl.out
                              have h4 := HZy.out
                              have h5 := HZz.out
                              have h6 := HZw.out
                              exact ⟨fun hd => by have := HPw.out.g.lt j hd; omega, by omega⟩) (fun j hj => hj.2) rfl hfD hg4)
                        have HF4 : Hid (Fx (fun j => j = rb ∨ D j) wz w4) := Lib.hid ((((HF2.out.trans HAf.out.fx).no (S := fun j => j = rb ∨ D j)).trans (HT.out.2.2.1.mono fun j _ h => .inl h)).trans (hfD.mono fun j _ h => .inr h))
                        have HPo : Hid (0 < xs.length → ∃ ga, oo = some ⟨ga, 0, none⟩) := Lib.hid fun h0 => by
                          obtain ⟨g, c, e, _⟩ := ownsRow_pos HOw.out h0
                          simp only [Value.slice.injEq] at e
                          exact ⟨g, e.1⟩
                        have HSo : Hid (∀ g, (Value.slice oo xs.length oc).ownBlock = some g → wz.heap.size ≤ g ∧ g < w2.heap.size) := Lib.hid fun g e => World.ownsRow.lt HOw.out g e
                        have HCz : Hid (CellsZ w4 (.slice oo xs.length oc) (xs.length * 3)) := Lib.hid (by
                          have h1 : CellsZ w2 (.slice oo xs.length oc) (xs.flatMap e3).length := CellsZ.of (by have := HOw.out; unfold OwnT at this; rw [icells_ints] at this; exact this)
                          rw [show (xs.flatMap e3).length = xs.length * 3 by have := icells_length e3_len xs; rw [icells_ints] at this; simpa [ints] using this] at h1
                          have hne : ∀ g, (Value.slice oo xs.length oc).ownBlock = some g → g ≠ rb ∧ ¬ D g := fun g e => by
                            have h1 := HSo.out g e
                            have h3 := HRl.out
                            have h4 := HZy.out
                            have h5 := HZz.out
                            exact ⟨by omega, fun hd => by have := HPz.out.g.lt g hd; omega⟩
                          exact ((h1.fx HAf.out.fx (fun _ _ h => h)).fx HT.out.2.2.1 fun g e => (hne g e).1).fx hfD fun g e => (hne g e).2)
                        clear hfD hg4 HGy HOy HT q0 q1 r0 r0f r1 r1f CG CA
                        go_wp2
                        go_loopw [24] (fun i ws => ∃ q : Nat, i = .int .i64 q ∧ q ≤ xs.length ∧ Fx (fun x => (Value.slice oo xs.length oc).ownBlock = some x) w4 ws ∧ CellsZ ws (.slice oo xs.length oc) (xs.length * 3)) (fun i _ => xs.length - (intOf i).toNat)
                        case atStart => exact ⟨0, rfl, Nat.zero_le _, Fx.refl _ _, HCz.out⟩
                        case round =>
                          obtain ⟨q, rfl, hq, hf, hw⟩ := hrel
                          have HFq := Lib.hid hf
                          have HWq := Lib.hid hw
                          clear hf hw
                          by_cases hql : q < xs.length
                          · have hq1 : (q : Int) < (xs.length : Int) := by omega
                            have hq0 : (0 : Int) ≤ (q : Int) := by omega
                            obtain ⟨ga, rfl⟩ := HPo.out (by omega)
                            obtain ⟨u, c1, c2⟩ := HWq.out ga (q * 3 + 2) rfl (by omega)
                            go_wp2
                            go_roundw
                            case rel => exact ⟨q + 1, by go_num, by omega, HFq.out.setCell (a := ⟨ga, q * 3 + 2, none⟩) (.inr rfl) _, HWq.out.put rfl _⟩
                            case measure => simp [intOf]; omega
                          · have hdF : decide ((q : Int) < (xs.length : Int)) = false := decide_eq_false (by omega)
                            have hdF2 : decide (q < xs.length) = false := decide_eq_false hql
                            clear hql
                            go_wp2_with fail
                            go_meet
                            have hso : ∀ j, (Value.slice oo xs.length oc).ownBlock = some j → wz.heap.size ≤ j ∧ j < w2.heap.size := HSo.out
                            have h3 := HRl.out
                            have h4 := HZy.out
                            have h5 := HZz.out
                            refine ⟨L2, _, _, _, HP4.out.fxS HFq.out fun j hj => ?_, HF4.out.trans' HFq.out fun j hj hl => by have := hso j hj; omega, HLn.out⟩
                            obtain ⟨h1, h2⟩ := hso j hj
                            have h6 := HPz.out.fx.size
                            have h7 := HAf.out.fx.size
                            refine ⟨by omega, ?_, ?_, by omega⟩
                            · rintro (hd | hd)
                              · have := HPz.out.g.lt j hd; omega
                              · have := hd.1; simp only [World.setCell] at this; simp at this; omega
                            · rintro ⟨hd | hd, _⟩
                              · have := HPz.out.eb j hd; omega
                              · omega
                    · have dp : decide ((pc : Int) < 3) = false := decide_eq_false (by omega)
                      have HPw := HPz
                      have HRb : Hid (∀ k, R k → k < wz.heap.size) := Lib.hid HPw.out.eb
                      go_upto_region 29 with fail
                      clear dp hp3 hpc a0 a1
                      obtain ⟨t, ht⟩ : ∃ t, t = decide ((⟨xf, xt, xl⟩ : Ed) ∈ L) := ⟨_, rfl⟩
                      obtain ⟨L2, hL2⟩ : ∃ x, x = delE ⟨xf, xt, xl⟩ L := ⟨_, rfl⟩
                      have HLn : Hid (L2.length ≤ L.length + 12) := Lib.hid (by have := delE_len ⟨xf, xt, xl⟩ L; rw [hL2]; omega)
                      have CA : Hid (∀ W, Fx No wz W → Calls Try.prog 26 #[.agg #[.int .i64 (N : Nat), .slice ro L.length rc], .agg #[.int .i64 xf, .int .i64 xt, .int .i64 xl]] W fun e w' => ∃ so sc, e = .returned (.tuple #[.agg #[.int .i64 (N : Nat), .slice so L2.length sc], .bool t]) ∧ Fx No W w' ∧ EdsV w' (fun k => (R k ∨ W.heap.size ≤ k) ∧ k < w'.heap.size) (.slice so L2.length sc) L2) := Lib.hid fun W h => (refRemove_any (HPw.out.row.no h) (N : Int) xf xt xl (by omega)).mono fun e w' ⟨v', h1, h2, h3⟩ => by
                        rw [← hL2] at h3
                        obtain ⟨so, sc, rfl, _⟩ := EdsV.facts h3
                        exact ⟨so, sc, by rw [h1, ← ht], h2, h3⟩
                      have CG : Hid (∀ W, GraphV W D b N L → Calls Try.prog 27 #[.pointer (some ⟨b, 0, none⟩), .agg #[.int .i64 xf, .int .i64 xt, .int .i64 xl]] W fun r w' => r = .returned (.bool t) ∧ Fx D W w' ∧ GraphV w' (DU D W w') b N L2) := Lib.hid fun W hg => by
                        rw [hL2, ht]
                        exact gRemove_any hg ⟨xf, xt, xl⟩ HXok.out
                      have CD : Hid (∀ W (v : Value) (E' : Nat → Prop), EdsV W E' v [⟨xf, xt, xl⟩] → Calls Try.prog 10 #[v] W fun e w' => ∃ dg dc, e = .returned (.slice (some ⟨dg, 0, none⟩) 1 dc) ∧ Fx No W w' ∧ w'.cell? ⟨dg, 0, none⟩ = some (.int .i64 xf) ∧ w'.cell? ⟨dg, 1, none⟩ = some (.int .i64 xt) ∧ w'.cell? ⟨dg, 2, none⟩ = some (.int .i64 xl)) := Lib.hid fun W v E' h => (docEdges_any h (by simp)).mono fun e w' ⟨v', h1, h2, h3⟩ => by
                        obtain ⟨dg, dc, rfl, _, _⟩ := ownsRow_pos h3 (by simp)
                        refine ⟨dg, dc, h1, h2, ?_, ?_, ?_⟩
                        · have := h3.cells (g := dg) rfl 0 (.int .i64 xf) rfl; simpa [Addr.add_lit] using this
                        · have := h3.cells (g := dg) rfl 1 (.int .i64 xt) rfl; simpa [Addr.add_lit] using this
                        · have := h3.cells (g := dg) rfl 2 (.int .i64 xl) rfl; simpa [Addr.add_lit] using this
                      clear hL2 ht
                      have g0 : ∀ W, Fx No wz W → W.cell? ⟨rb, 0, none⟩ = some (.int .i64 (N : Nat)) := fun W h => h.cell' HPw.out.r0.1 (fun h => h)
                      have g1 : ∀ W, Fx No wz W → W.cell? ⟨rb, 1, none⟩ = some (.slice ro L.length rc) := fun W h => h.cell' HPw.out.r1.1 (fun h => h)
                      have f0 : ∀ W, Fx No wz W → W.cell? ⟨xb, 0, none⟩ = some (.int .i64 xf) := fun W h => h.cell' HBx.out.c0 (fun h => h)
                      have f1 : ∀ W, Fx No wz W → W.cell? ⟨xb, 1, none⟩ = some (.int .i64 xt) := fun W h => h.cell' HBx.out.c1 (fun h => h)
                      have f2 : ∀ W, Fx No wz W → W.cell? ⟨xb, 2, none⟩ = some (.int .i64 xl) := fun W h => h.cell' HBx.out.c2 (fun h => h)
                      go_cut [25, 26] from 62 to 167 (fun s c ws => ∃ (sb : Nat) (so : Option Addr) (sc : Nat), s = .pointer (some ⟨sb, 0, none⟩) ∧ c = .bool t ∧ AfG wz ws R N L2 (.slice so L2.length sc) sb)
                      case first =>
                        refine wp_region_H (fun W => Fx No wz W) (by kernel_rfl) ((Fx.refl _ _).drew) ?_
                        intro hS
                        refine wpAnyH_hold (fun W' => Fx No wz W') hS ?_
                        clear hS
                        rintro y0 hS
                        have hS0 := hS
                        refine wpAnyH_take (i := 0) (v := ?_) rfl (by kernel_rfl) (by kernel_rfl) (by kernel_rfl) (fun _ _ _ h => h) (Or.inl ⟨by rfl, ?_⟩) hS ?_
                        rotate_left
                        · (intro W hs; go_simp; first | done | with_reducible rfl)
                        try simp only [Act.put, List.getElem_toArray, List.getElem_cons_zero, List.getElem_cons_succ, List.setIfInBounds_toArray, List.set_cons_zero, List.set_cons_succ]
                        refine wpAnyH_take (i := 1) (v := ?_) rfl (by kernel_rfl) (by kernel_rfl) (by kernel_rfl) (fun _ _ _ h => h) (Or.inl ⟨by rfl, ?_⟩) hS ?_
                        rotate_left
                        · (intro W hs; go_simp; first | done | with_reducible rfl)
                        try simp only [Act.put, List.getElem_toArray, List.getElem_cons_zero, List.getElem_cons_succ, List.setIfInBounds_toArray, List.set_cons_zero, List.set_cons_succ]
                        refine wpH_two (i := 2) (j := 10) (by kernel_rfl) rfl rfl (fun K hK => ?_) (fun K hK => ?_)
                        · go_simp
                          have hfi : Fx No y0 (y0.alloc (.cells #[.int .i64 xf, .int .i64 xt, .int .i64 xl] 25)) := (Fx.refl No _).alloc _
                          refine hK.out _ _ (hS.trans hfi) (fun hS' => ?_)
                          clear hK K hS
                          have hS := hS'
                          clear hS'
                          try simp only [Act.put, List.getElem_toArray, List.getElem_cons_zero, List.getElem_cons_succ, List.setIfInBounds_toArray, List.set_cons_zero, List.set_cons_succ]
                          refine wpAnyH_hold (fun W' => Fx No y0 W' ∧ Fx No wz W' ∧ y0.heap.size < W'.heap.size ∧ EdsV W' (fun _ => True) (.slice (some ⟨y0.heap.size, 0, none⟩) 1 1) [⟨xf, xt, xl⟩]) ⟨hfi, hS, by simp, SlV.lit y0 25 #[.int .i64 xf, .int .i64 xt, .int .i64 xl] 3 1 rfl (by unfold maxLen; omega)⟩ ?_
                          clear hfi hS
                          rintro y1 ⟨hfi, hS, hlt, hHLb⟩
                          obtain ⟨lb, hlb⟩ : ∃ q, q = y0.heap.size := ⟨_, rfl⟩
                          rw [← hlb] at hHLb hlt ⊢
                          have HLb := Lib.hid hHLb
                          have HLlb : Hid (lb < y1.heap.size) := Lib.hid hlt
                          have HElb : Hid (lb = y0.heap.size) := Lib.hid hlb
                          have HZy1 : Hid (y0.heap.size ≤ y1.heap.size) := Lib.hid hfi.size
                          clear hHLb hlt hlb hfi
                          refine wpH_two (i := 3) (j := 10) (by kernel_rfl) rfl rfl (fun K hK => ?_) (fun K hK => ?_)
                          · go_simp
                            refine (CD.out _ _ _ HLb.out).mono ?_
                            rintro e y2 ⟨dg, dc, rfl, hfi, hd⟩
                            have HLb := Lib.hid (RowV.no HLb.out hfi)
                            have HD1 := Lib.hid hd
                            have HZy2 : Hid (y1.heap.size ≤ y2.heap.size) := Lib.hid hfi.size
                            have HSy2 : Hid (Fx No y1 y2) := Lib.hid hfi
                            refine hK.out _ _ (hS.trans hfi) (fun hS' => ?_)
                            clear hK K hS hfi hd
                            have hS := hS'
                            clear hS'
                            try simp only [Act.put, List.getElem_toArray, List.getElem_cons_zero, List.getElem_cons_succ, List.setIfInBounds_toArray, List.set_cons_zero, List.set_cons_succ]
                            refine wpAnyH_take (i := 4) (v := ?_) rfl (by kernel_rfl) (by kernel_rfl) (by kernel_rfl) (fun _ _ _ h => h) (Or.inl ⟨by rfl, ?_⟩) hS ?_
                            rotate_left
                            · (intro W hs; go_simp; first | done | with_reducible rfl)
                            try simp only [Act.put, List.getElem_toArray, List.getElem_cons_zero, List.getElem_cons_succ, List.setIfInBounds_toArray, List.set_cons_zero, List.set_cons_succ]
                            refine wpH_two (i := 5) (j := 10) (by kernel_rfl) rfl rfl (fun K hK => ?_) (fun K hK => ?_)
                            · obtain ⟨d0, d1, d2⟩ := HD1.out
                              go_simp
                              refine hK.out _ _ hS (fun hS' => ?_)
                              clear hK K hS
                              have hS := hS'
                              clear hS'
                              clear d0 d1 d2
                              try simp only [Act.put, List.getElem_toArray, List.getElem_cons_zero, List.getElem_cons_succ, List.setIfInBounds_toArray, List.set_cons_zero, List.set_cons_succ]
                              refine wpH_two (i := 6) (j := 10) (by kernel_rfl) rfl rfl (fun K hK => ?_) (fun K hK => ?_)
                              · go_simp
                                refine (CA.out _ hS).mono ?_
                                rintro e y4 ⟨so, sc, rfl, hfi, hr⟩
                                have HLb := Lib.hid (RowV.no HLb.out hfi)
                                have HD1 := Lib.hid (And.intro (hfi.cell' HD1.out.1 (fun h => h)) (And.intro (hfi.cell' HD1.out.2.1 (fun h => h)) (hfi.cell' HD1.out.2.2 (fun h => h))))
                                have HR1 := Lib.hid hr
                                have HZy4 : Hid (y2.heap.size ≤ y4.heap.size) := Lib.hid hfi.size
                                have HSy4 : Hid (Fx No y2 y4) := Lib.hid hfi
                                refine hK.out _ _ (hS.trans hfi) (fun hS' => ?_)
                                clear hK K hS hfi hr
                                have hS := hS'
                                clear hS'
                                try simp only [Act.put, List.getElem_toArray, List.getElem_cons_zero, List.getElem_cons_succ, List.setIfInBounds_toArray, List.set_cons_zero, List.set_cons_succ]
                                refine wpAnyH_take (i := 7) (v := ?_) rfl (by kernel_rfl) (by kernel_rfl) (by kernel_rfl) (fun _ _ _ h => h) (Or.inl ⟨by rfl, ?_⟩) hS ?_
                                rotate_left
                                · (intro W hs; go_simp; first | done | with_reducible rfl)
                                try simp only [Act.put, List.getElem_toArray, List.getElem_cons_zero, List.getElem_cons_succ, List.setIfInBounds_toArray, List.set_cons_zero, List.set_cons_succ]
                                refine wpAnyH_take (i := 8) (v := ?_) rfl (by kernel_rfl) (by kernel_rfl) (by kernel_rfl) (fun _ _ _ h => h) (Or.inl ⟨by rfl, ?_⟩) hS ?_
                                rotate_left
                                · (intro W hs; go_simp; first | done | with_reducible rfl)
                                try simp only [Act.put, List.getElem_toArray, List.getElem_cons_zero, List.getElem_cons_succ, List.setIfInBounds_toArray, List.set_cons_zero, List.set_cons_succ]
                                refine wpAnyH_take (i := 9) (v := ?_) rfl (by kernel_rfl) (by kernel_rfl) (by kernel_rfl) (fun _ _ _ h => h) (Or.inl ⟨by rfl, ?_⟩) hS ?_
                                rotate_left
                                · (intro W hs; go_simp; first | done | with_reducible rfl)
                                try simp only [Act.put, List.getElem_toArray, List.getElem_cons_zero, List.getElem_cons_succ, List.setIfInBounds_toArray, List.set_cons_zero, List.set_cons_succ]
                                refine wpH_one (i := 10) (by kernel_rfl) rfl (fun K hK => ?_)
                                go_simp
                                have HB0 := Lib.hid hS.size
                                have hfi : Fx No y4 (y4.alloc (.cells #[.int .i64 0, .slice none 0 0] 30)) := (Fx.refl No _).alloc _
                                refine hK.out _ _ (hS.trans hfi) (fun hS' => ?_)
                                clear hK K hS
                                have hS := hS'
                                clear hS'
                                try simp only [Act.put, List.getElem_toArray, List.getElem_cons_zero, List.getElem_cons_succ, List.setIfInBounds_toArray, List.set_cons_zero, List.set_cons_succ]
                                refine wpAnyH_hold (fun W' => Fx No y4 W' ∧ Fx No wz W' ∧ y4.heap.size < W'.heap.size ∧ W'.cell? ⟨y4.heap.size, 0, none⟩ = some (.int .i64 0) ∧ W'.frozen? ⟨y4.heap.size, 0, none⟩ = false ∧ W'.cell? ⟨y4.heap.size, 1, none⟩ = some (.slice none 0 0) ∧ W'.frozen? ⟨y4.heap.size, 1, none⟩ = false) ⟨hfi, hS, by simp, by simp, by simp, by simp, by simp⟩ ?_
                                clear hfi hS
                                rintro y5 ⟨hfi, hS, hlt, hbx⟩
                                obtain ⟨sb, hsb⟩ : ∃ q, q = y4.heap.size := ⟨_, rfl⟩
                                rw [← hsb] at hbx hlt ⊢
                                have HLb := Lib.hid (RowV.no HLb.out hfi)
                                have HD1 := Lib.hid (And.intro (hfi.cell' HD1.out.1 (fun h => h)) (And.intro (hfi.cell' HD1.out.2.1 (fun h => h)) (hfi.cell' HD1.out.2.2 (fun h => h))))
                                have HR1 := Lib.hid (RowV.no HR1.out hfi)
                                have Hsb := Lib.hid hbx
                                have HLsb : Hid (sb < y5.heap.size) := Lib.hid hlt
                                have HEsb : Hid (sb = y4.heap.size) := Lib.hid hsb
                                have HZy5 : Hid (y4.heap.size ≤ y5.heap.size) := Lib.hid hfi.size
                                have HSl : Hid (wz.heap.size ≤ sb) := Lib.hid (by have h1 := hsb; have h2 := HB0.out; omega)
                                clear hbx hlt hsb hfi HB0
                                refine wpH_one (i := 11) (by kernel_rfl) rfl (fun K hK => ?_)
                                obtain ⟨b0, b1, b2, b3⟩ := Hsb.out
                                have hsl : wz.heap.size ≤ sb := HSl.out
                                have HSc := Lib.hid hS
                                go_simp
                                refine hK.out _ _ ((hS.setCell (.inl hsl) _).setCell (.inl hsl) _) (fun hS' => ?_)
                                clear hK K hS
                                have hS := hS'
                                clear hS'
                                try simp only [Act.put, List.getElem_toArray, List.getElem_cons_zero, List.getElem_cons_succ, List.setIfInBounds_toArray, List.set_cons_zero, List.set_cons_succ]
                                clear b0 b1 b2 b3 hsl
                                refine wpAnyH_take (i := 12) (v := ?_) rfl (by kernel_rfl) (by kernel_rfl) (by kernel_rfl) (fun _ _ _ h => h) (Or.inl ⟨by rfl, ?_⟩) hS ?_
                                rotate_left
                                · (intro W hs; go_simp; first | done | with_reducible rfl)
                                try simp only [Act.put, List.getElem_toArray, List.getElem_cons_zero, List.getElem_cons_succ, List.setIfInBounds_toArray, List.set_cons_zero, List.set_cons_succ]
                                refine wpAnyH_done (by kernel_rfl) ?_ _
                                have HAf : Hid (AfG wz _ R N L2 (.slice so L2.length sc) sb) := Lib.hid (afg_mk (cur := y5) HSc.out Hsb.out HR1.out (by
                                  intro k hk
                                  have h0 := HLsb.out
                                  have h1 := HEsb.out
                                  have h2 := HSc.out.size
                                  have h3 := hS0.size
                                  have zy1 := HZy1.out
                                  have zy2 := HZy2.out
                                  have zy4 := HZy4.out
                                  have zy5 := HZy5.out
                                  obtain ⟨h4, h5⟩ := hk
                                  refine ⟨?_, by omega, ?_⟩
                                  · rcases h4 with h4 | h4
                                    · exact .inl h4
                                    · exact .inr (by omega)
                                  · rcases h4 with h4 | h4
                                    · have h6 := HRb.out k h4
                                      omega
                                    · omega) (by
                                  have h1 := HEsb.out
                                  have h3 := hS0.size
                                  have zy1 := HZy1.out
                                  have zy2 := HZy2.out
                                  have zy4 := HZy4.out
                                  have zy5 := HZy5.out
                                  omega))
                                clear hS hS0 g0 g1
                                go_wp2_with fail
                                go_meet
                                exact ⟨_, _, _, rfl, rfl, HAf.out⟩
                              · go_simp
                                have HB0 := Lib.hid hS.size
                                have hfi : Fx No y2 (y2.alloc (.cells #[.int .i64 0, .slice none 0 0] 30)) := (Fx.refl No _).alloc _
                                refine hK.out _ _ (hS.trans hfi) (fun hS' => ?_)
                                clear hK K hS
                                have hS := hS'
                                clear hS'
                                try simp only [Act.put, List.getElem_toArray, List.getElem_cons_zero, List.getElem_cons_succ, List.setIfInBounds_toArray, List.set_cons_zero, List.set_cons_succ]
                                refine wpAnyH_hold (fun W' => Fx No y2 W' ∧ Fx No wz W' ∧ y2.heap.size < W'.heap.size ∧ W'.cell? ⟨y2.heap.size, 0, none⟩ = some (.int .i64 0) ∧ W'.frozen? ⟨y2.heap.size, 0, none⟩ = false ∧ W'.cell? ⟨y2.heap.size, 1, none⟩ = some (.slice none 0 0) ∧ W'.frozen? ⟨y2.heap.size, 1, none⟩ = false) ⟨hfi, hS, by simp, by simp, by simp, by simp, by simp⟩ ?_
                                clear hfi hS
                                rintro y7 ⟨hfi, hS, hlt, hbx⟩
                                obtain ⟨sb, hsb⟩ : ∃ q, q = y2.heap.size := ⟨_, rfl⟩
                                rw [← hsb] at hbx hlt ⊢
                                have HLb := Lib.hid (RowV.no HLb.out hfi)
                                have HD1 := Lib.hid (And.intro (hfi.cell' HD1.out.1 (fun h => h)) (And.intro (hfi.cell' HD1.out.2.1 (fun h => h)) (hfi.cell' HD1.out.2.2 (fun h => h))))
                                have Hsb := Lib.hid hbx
                                have HLsb : Hid (sb < y7.heap.size) := Lib.hid hlt
                                have HEsb : Hid (sb = y2.heap.size) := Lib.hid hsb
                                have HZy7 : Hid (y2.heap.size ≤ y7.heap.size) := Lib.hid hfi.size
                                have HSl : Hid (wz.heap.size ≤ sb) := Lib.hid (by have h1 := hsb; have h2 := HB0.out; omega)
                                clear hbx hlt hsb hfi HB0
                                refine wpH_one (i := 6) (by kernel_rfl) rfl (fun K hK => ?_)
                                go_simp
                                refine (CA.out _ hS).mono ?_
                                rintro e y8 ⟨so, sc, rfl, hfi, hr⟩
                                have HLb := Lib.hid (RowV.no HLb.out hfi)
                                have HD1 := Lib.hid (And.intro (hfi.cell' HD1.out.1 (fun h => h)) (And.intro (hfi.cell' HD1.out.2.1 (fun h => h)) (hfi.cell' HD1.out.2.2 (fun h => h))))
                                have Hsb := Lib.hid (And.intro (hfi.cell' Hsb.out.1 (fun h => h)) (And.intro ((hfi.cellF Hsb.out.1 Hsb.out.2.1 (fun h => h)).2) (And.intro (hfi.cell' Hsb.out.2.2.1 (fun h => h)) ((hfi.cellF Hsb.out.2.2.1 Hsb.out.2.2.2 (fun h => h)).2))))
                                have HR1 := Lib.hid hr
                                have HZy8 : Hid (y7.heap.size ≤ y8.heap.size) := Lib.hid hfi.size
                                have HSy8 : Hid (Fx No y7 y8) := Lib.hid hfi
                                refine hK.out _ _ (hS.trans hfi) (fun hS' => ?_)
                                clear hK K hS hfi hr
                                have hS := hS'
                                clear hS'
                                try simp only [Act.put, List.getElem_toArray, List.getElem_cons_zero, List.getElem_cons_succ, List.setIfInBounds_toArray, List.set_cons_zero, List.set_cons_succ]
                                refine wpAnyH_take (i := 7) (v := ?_) rfl (by kernel_rfl) (by kernel_rfl) (by kernel_rfl) (fun _ _ _ h => h) (Or.inl ⟨by rfl, ?_⟩) hS ?_
                                rotate_left
                                · (intro W hs; go_simp; first | done | with_reducible rfl)
                                try simp only [Act.put, List.getElem_toArray, List.getElem_cons_zero, List.getElem_cons_succ, List.setIfInBounds_toArray, List.set_cons_zero, List.set_cons_succ]
                                refine wpAnyH_take (i := 8) (v := ?_) rfl (by kernel_rfl) (by kernel_rfl) (by kernel_rfl) (fun _ _ _ h => h) (Or.inl ⟨by rfl, ?_⟩) hS ?_
                                rotate_left
                                · (intro W hs; go_simp; first | done | with_reducible rfl)
                                try simp only [Act.put, List.getElem_toArray, List.getElem_cons_zero, List.getElem_cons_succ, List.setIfInBounds_toArray, List.set_cons_zero, List.set_cons_succ]
                                refine wpAnyH_take (i := 9) (v := ?_) rfl (by kernel_rfl) (by kernel_rfl) (by kernel_rfl) (fun _ _ _ h => h) (Or.inl ⟨by rfl, ?_⟩) hS ?_
                                rotate_left
                                · (intro W hs; go_simp; first | done | with_reducible rfl)
                                try simp only [Act.put, List.getElem_toArray, List.getElem_cons_zero, List.getElem_cons_succ, List.setIfInBounds_toArray, List.set_cons_zero, List.set_cons_succ]
                                refine wpH_one (i := 11) (by kernel_rfl) rfl (fun K hK => ?_)
                                obtain ⟨b0, b1, b2, b3⟩ := Hsb.out
                                have hsl : wz.heap.size ≤ sb := HSl.out
                                have HSc := Lib.hid hS
                                go_simp
                                refine hK.out _ _ ((hS.setCell (.inl hsl) _).setCell (.inl hsl) _) (fun hS' => ?_)
                                clear hK K hS
                                have hS := hS'
                                clear hS'
                                try simp only [Act.put, List.getElem_toArray, List.getElem_cons_zero, List.getElem_cons_succ, List.setIfInBounds_toArray, List.set_cons_zero, List.set_cons_succ]
                                clear b0 b1 b2 b3 hsl
                                refine wpAnyH_take (i := 12) (v := ?_) rfl (by kernel_rfl) (by kernel_rfl) (by kernel_rfl) (fun _ _ _ h => h) (Or.inl ⟨by rfl, ?_⟩) hS ?_
                                rotate_left
                                · (intro W hs; go_simp; first | done | with_reducible rfl)
                                try simp only [Act.put, List.getElem_toArray, List.getElem_cons_zero, List.getElem_cons_succ, List.setIfInBounds_toArray, List.set_cons_zero, List.set_cons_succ]
                                refine wpAnyH_done (by kernel_rfl) ?_ _
                                have HAf : Hid (AfG wz _ R N L2 (.slice so L2.length sc) sb) := Lib.hid (afg_mk (cur := y8) HSc.out Hsb.out HR1.out (by
                                  intro k hk
                                  have h0 := HLsb.out
                                  have h1 := HEsb.out
                                  have h2 := HSc.out.size
                                  have h3 := hS0.size
                                  have zy1 := HZy1.out
                                  have zy2 := HZy2.out
                                  have zy7 := HZy7.out
                                  have zy8 := HZy8.out
                                  obtain ⟨h4, h5⟩ := hk
                                  refine ⟨?_, by omega, ?_⟩
                                  · rcases h4 with h4 | h4
                                    · exact .inl h4
                                    · exact .inr (by omega)
                                  · rcases h4 with h4 | h4
                                    · have h6 := HRb.out k h4
                                      omega
                                    · omega) (by
                                  have h1 := HEsb.out
                                  have h3 := hS0.size
                                  have zy1 := HZy1.out
                                  have zy2 := HZy2.out
                                  have zy7 := HZy7.out
                                  have zy8 := HZy8.out
                                  omega))
                                clear hS hS0 g0 g1
                                go_wp2_with fail
                                go_meet
                                exact ⟨_, _, _, rfl, rfl, HAf.out⟩
                            · go_simp
                              have HB0 := Lib.hid hS.size
                              have hfi : Fx No y2 (y2.alloc (.cells #[.int .i64 0, .slice none 0 0] 30)) := (Fx.refl No _).alloc _
                              refine hK.out _ _ (hS.trans hfi) (fun hS' => ?_)
                              clear hK K hS
                              have hS := hS'
                              clear hS'
                              try simp only [Act.put, List.getElem_toArray, List.getElem_cons_zero, List.getElem_cons_succ, List.setIfInBounds_toArray, List.set_cons_zero, List.set_cons_succ]
                              refine wpAnyH_hold (fun W' => Fx No y2 W' ∧ Fx No wz W' ∧ y2.heap.size < W'.heap.size ∧ W'.cell? ⟨y2.heap.size, 0, none⟩ = some (.int .i64 0) ∧ W'.frozen? ⟨y2.heap.size, 0, none⟩ = false ∧ W'.cell? ⟨y2.heap.size, 1, none⟩ = some (.slice none 0 0) ∧ W'.frozen? ⟨y2.heap.size, 1, none⟩ = false) ⟨hfi, hS, by simp, by simp, by simp, by simp, by simp⟩ ?_
                              clear hfi hS
                              rintro y10 ⟨hfi, hS, hlt, hbx⟩
                              obtain ⟨sb, hsb⟩ : ∃ q, q = y2.heap.size := ⟨_, rfl⟩
                              rw [← hsb] at hbx hlt ⊢
                              have HLb := Lib.hid (RowV.no HLb.out hfi)
                              have HD1 := Lib.hid (And.intro (hfi.cell' HD1.out.1 (fun h => h)) (And.intro (hfi.cell' HD1.out.2.1 (fun h => h)) (hfi.cell' HD1.out.2.2 (fun h => h))))
                              have Hsb := Lib.hid hbx
                              have HLsb : Hid (sb < y10.heap.size) := Lib.hid hlt
                              have HEsb : Hid (sb = y2.heap.size) := Lib.hid hsb
                              have HZy10 : Hid (y2.heap.size ≤ y10.heap.size) := Lib.hid hfi.size
                              have HSl : Hid (wz.heap.size ≤ sb) := Lib.hid (by have h1 := hsb; have h2 := HB0.out; omega)
                              clear hbx hlt hsb hfi HB0
                              refine wpH_one (i := 5) (by kernel_rfl) rfl (fun K hK => ?_)
                              obtain ⟨d0, d1, d2⟩ := HD1.out
                              go_simp
                              refine hK.out _ _ hS (fun hS' => ?_)
                              clear hK K hS
                              have hS := hS'
                              clear hS'
                              clear d0 d1 d2
                              try simp only [Act.put, List.getElem_toArray, List.getElem_cons_zero, List.getElem_cons_succ, List.setIfInBounds_toArray, List.set_cons_zero, List.set_cons_succ]
                              refine wpH_one (i := 6) (by kernel_rfl) rfl (fun K hK => ?_)
                              go_simp
                              refine (CA.out _ hS).mono ?_
                              rintro e y12 ⟨so, sc, rfl, hfi, hr⟩
                              have HLb := Lib.hid (RowV.no HLb.out hfi)
                              have HD1 := Lib.hid (And.intro (hfi.cell' HD1.out.1 (fun h => h)) (And.intro (hfi.cell' HD1.out.2.1 (fun h => h)) (hfi.cell' HD1.out.2.2 (fun h => h))))
                              have Hsb := Lib.hid (And.intro (hfi.cell' Hsb.out.1 (fun h => h)) (And.intro ((hfi.cellF Hsb.out.1 Hsb.out.2.1 (fun h => h)).2) (And.intro (hfi.cell' Hsb.out.2.2.1 (fun h => h)) ((hfi.cellF Hsb.out.2.2.1 Hsb.out.2.2.2 (fun h => h)).2))))
                              have HR1 := Lib.hid hr
                              have HZy12 : Hid (y10.heap.size ≤ y12.heap.size) := Lib.hid hfi.size
                              have HSy12 : Hid (Fx No y10 y12) := Lib.hid hfi
                              refine hK.out _ _ (hS.trans hfi) (fun hS' => ?_)
                              clear hK K hS hfi hr
                              have hS := hS'
                              clear hS'
                              try simp only [Act.put, List.getElem_toArray, List.getElem_cons_zero, List.getElem_cons_succ, List.setIfInBounds_toArray, List.set_cons_zero, List.set_cons_succ]
                              refine wpAnyH_take (i := 7) (v := ?_) rfl (by kernel_rfl) (by kernel_rfl) (by kernel_rfl) (fun _ _ _ h => h) (Or.inl ⟨by rfl, ?_⟩) hS ?_
                              rotate_left
                              · (intro W hs; go_simp; first | done | with_reducible rfl)
                              try simp only [Act.put, List.getElem_toArray, List.getElem_cons_zero, List.getElem_cons_succ, List.setIfInBounds_toArray, List.set_cons_zero, List.set_cons_succ]
                              refine wpAnyH_take (i := 8) (v := ?_) rfl (by kernel_rfl) (by kernel_rfl) (by kernel_rfl) (fun _ _ _ h => h) (Or.inl ⟨by rfl, ?_⟩) hS ?_
                              rotate_left
                              · (intro W hs; go_simp; first | done | with_reducible rfl)
                              try simp only [Act.put, List.getElem_toArray, List.getElem_cons_zero, List.getElem_cons_succ, List.setIfInBounds_toArray, List.set_cons_zero, List.set_cons_succ]
                              refine wpAnyH_take (i := 9) (v := ?_) rfl (by kernel_rfl) (by kernel_rfl) (by kernel_rfl) (fun _ _ _ h => h) (Or.inl ⟨by rfl, ?_⟩) hS ?_
                              rotate_left
                              · (intro W hs; go_simp; first | done | with_reducible rfl)
                              try simp only [Act.put, List.getElem_toArray, List.getElem_cons_zero, List.getElem_cons_succ, List.setIfInBounds_toArray, List.set_cons_zero, List.set_cons_succ]
                              refine wpH_one (i := 11) (by kernel_rfl) rfl (fun K hK => ?_)
                              obtain ⟨b0, b1, b2, b3⟩ := Hsb.out
                              have hsl : wz.heap.size ≤ sb := HSl.out
                              have HSc := Lib.hid hS
                              go_simp
                              refine hK.out _ _ ((hS.setCell (.inl hsl) _).setCell (.inl hsl) _) (fun hS' => ?_)
                              clear hK K hS
                              have hS := hS'
                              clear hS'
                              try simp only [Act.put, List.getElem_toArray, List.getElem_cons_zero, List.getElem_cons_succ, List.setIfInBounds_toArray, List.set_cons_zero, List.set_cons_succ]
                              clear b0 b1 b2 b3 hsl
                              refine wpAnyH_take (i := 12) (v := ?_) rfl (by kernel_rfl) (by kernel_rfl) (by kernel_rfl) (fun _ _ _ h => h) (Or.inl ⟨by rfl, ?_⟩) hS ?_
                              rotate_left
                              · (intro W hs; go_simp; first | done | with_reducible rfl)
                              try simp only [Act.put, List.getElem_toArray, List.getElem_cons_zero, List.getElem_cons_succ, List.setIfInBounds_toArray, List.set_cons_zero, List.set_cons_succ]
                              refine wpAnyH_done (by kernel_rfl) ?_ _
                              have HAf : Hid (AfG wz _ R N L2 (.slice so L2.length sc) sb) := Lib.hid (afg_mk (cur := y12) HSc.out Hsb.out HR1.out (by
                                intro k hk
                                have h0 := HLsb.out
                                have h1 := HEsb.out
                                have h2 := HSc.out.size
                                have h3 := hS0.size
                                have zy1 := HZy1.out
                                have zy2 := HZy2.out
                                have zy10 := HZy10.out
                                have zy12 := HZy12.out
                                obtain ⟨h4, h5⟩ := hk
                                refine ⟨?_, by omega, ?_⟩
                                · rcases h4 with h4 | h4
                                  · exact .inl h4
                                  · exact .inr (by omega)
                                · rcases h4 with h4 | h4
                                  · have h6 := HRb.out k h4
                                    omega
                                  · omega) (by
                                have h1 := HEsb.out
                                have h3 := hS0.size
                                have zy1 := HZy1.out
                                have zy2 := HZy2.out
                                have zy10 := HZy10.out
                                have zy12 := HZy12.out
                                omega))
                              clear hS hS0 g0 g1
                              go_wp2_with fail
                              go_meet
                              exact ⟨_, _, _, rfl, rfl, HAf.out⟩
                          · go_simp
                            have HB0 := Lib.hid hS.size
                            have hfi : Fx No y1 (y1.alloc (.cells #[.int .i64 0, .slice none 0 0] 30)) := (Fx.refl No _).alloc _
                            refine hK.out _ _ (hS.trans hfi) (fun hS' => ?_)
                            clear hK K hS
                            have hS := hS'
                            clear hS'
                            try simp only [Act.put, List.getElem_toArray, List.getElem_cons_zero, List.getElem_cons_succ, List.setIfInBounds_toArray, List.set_cons_zero, List.set_cons_succ]
                            refine wpAnyH_hold (fun W' => Fx No y1 W' ∧ Fx No wz W' ∧ y1.heap.size < W'.heap.size ∧ W'.cell? ⟨y1.heap.size, 0, none⟩ = some (.int .i64 0) ∧ W'.frozen? ⟨y1.heap.size, 0, none⟩ = false ∧ W'.cell? ⟨y1.heap.size, 1, none⟩ = some (.slice none 0 0) ∧ W'.frozen? ⟨y1.heap.size, 1, none⟩ = false) ⟨hfi, hS, by simp, by simp, by simp, by simp, by simp⟩ ?_
                            clear hfi hS
                            rintro y14 ⟨hfi, hS, hlt, hbx⟩
                            obtain ⟨sb, hsb⟩ : ∃ q, q = y1.heap.size := ⟨_, rfl⟩
                            rw [← hsb] at hbx hlt ⊢
                            have HLb := Lib.hid (RowV.no HLb.out hfi)
                            have Hsb := Lib.hid hbx
                            have HLsb : Hid (sb < y14.heap.size) := Lib.hid hlt
                            have HEsb : Hid (sb = y1.heap.size) := Lib.hid hsb
                            have HZy14 : Hid (y1.heap.size ≤ y14.heap.size) := Lib.hid hfi.size
                            have HSl : Hid (wz.heap.size ≤ sb) := Lib.hid (by have h1 := hsb; have h2 := HB0.out; omega)
                            clear hbx hlt hsb hfi HB0
                            refine wpH_one (i := 3) (by kernel_rfl) rfl (fun K hK => ?_)
                            go_simp
                            refine (CD.out _ _ _ HLb.out).mono ?_
                            rintro e y15 ⟨dg, dc, rfl, hfi, hd⟩
                            have HLb := Lib.hid (RowV.no HLb.out hfi)
                            have Hsb := Lib.hid (And.intro (hfi.cell' Hsb.out.1 (fun h => h)) (And.intro ((hfi.cellF Hsb.out.1 Hsb.out.2.1 (fun h => h)).2) (And.intro (hfi.cell' Hsb.out.2.2.1 (fun h => h)) ((hfi.cellF Hsb.out.2.2.1 Hsb.out.2.2.2 (fun h => h)).2))))
                            have HD1 := Lib.hid hd
                            have HZy15 : Hid (y14.heap.size ≤ y15.heap.size) := Lib.hid hfi.size
                            have HSy15 : Hid (Fx No y14 y15) := Lib.hid hfi
                            refine hK.out _ _ (hS.trans hfi) (fun hS' => ?_)
                            clear hK K hS hfi hd
                            have hS := hS'
                            clear hS'
                            try simp only [Act.put, List.getElem_toArray, List.getElem_cons_zero, List.getElem_cons_succ, List.setIfInBounds_toArray, List.set_cons_zero, List.set_cons_succ]
                            refine wpAnyH_take (i := 4) (v := ?_) rfl (by kernel_rfl) (by kernel_rfl) (by kernel_rfl) (fun _ _ _ h => h) (Or.inl ⟨by rfl, ?_⟩) hS ?_
                            rotate_left
                            · (intro W hs; go_simp; first | done | with_reducible rfl)
                            try simp only [Act.put, List.getElem_toArray, List.getElem_cons_zero, List.getElem_cons_succ, List.setIfInBounds_toArray, List.set_cons_zero, List.set_cons_succ]
                            refine wpH_one (i := 5) (by kernel_rfl) rfl (fun K hK => ?_)
                            obtain ⟨d0, d1, d2⟩ := HD1.out
                            go_simp
                            refine hK.out _ _ hS (fun hS' => ?_)
                            clear hK K hS
                            have hS := hS'
                            clear hS'
                            clear d0 d1 d2
                            try simp only [Act.put, List.getElem_toArray, List.getElem_cons_zero, List.getElem_cons_succ, List.setIfInBounds_toArray, List.set_cons_zero, List.set_cons_succ]
                            refine wpH_one (i := 6) (by kernel_rfl) rfl (fun K hK => ?_)
                            go_simp
                            refine (CA.out _ hS).mono ?_
                            rintro e y17 ⟨so, sc, rfl, hfi, hr⟩
                            have HLb := Lib.hid (RowV.no HLb.out hfi)
                            have Hsb := Lib.hid (And.intro (hfi.cell' Hsb.out.1 (fun h => h)) (And.intro ((hfi.cellF Hsb.out.1 Hsb.out.2.1 (fun h => h)).2) (And.intro (hfi.cell' Hsb.out.2.2.1 (fun h => h)) ((hfi.cellF Hsb.out.2.2.1 Hsb.out.2.2.2 (fun h => h)).2))))
                            have HD1 := Lib.hid (And.intro (hfi.cell' HD1.out.1 (fun h => h)) (And.intro (hfi.cell' HD1.out.2.1 (fun h => h)) (hfi.cell' HD1.out.2.2 (fun h => h))))
                            have HR1 := Lib.hid hr
                            have HZy17 : Hid (y15.heap.size ≤ y17.heap.size) := Lib.hid hfi.size
                            have HSy17 : Hid (Fx No y15 y17) := Lib.hid hfi
                            refine hK.out _ _ (hS.trans hfi) (fun hS' => ?_)
                            clear hK K hS hfi hr
                            have hS := hS'
                            clear hS'
                            try simp only [Act.put, List.getElem_toArray, List.getElem_cons_zero, List.getElem_cons_succ, List.setIfInBounds_toArray, List.set_cons_zero, List.set_cons_succ]
                            refine wpAnyH_take (i := 7) (v := ?_) rfl (by kernel_rfl) (by kernel_rfl) (by kernel_rfl) (fun _ _ _ h => h) (Or.inl ⟨by rfl, ?_⟩) hS ?_
                            rotate_left
                            · (intro W hs; go_simp; first | done | with_reducible rfl)
                            try simp only [Act.put, List.getElem_toArray, List.getElem_cons_zero, List.getElem_cons_succ, List.setIfInBounds_toArray, List.set_cons_zero, List.set_cons_succ]
                            refine wpAnyH_take (i := 8) (v := ?_) rfl (by kernel_rfl) (by kernel_rfl) (by kernel_rfl) (fun _ _ _ h => h) (Or.inl ⟨by rfl, ?_⟩) hS ?_
                            rotate_left
                            · (intro W hs; go_simp; first | done | with_reducible rfl)
                            try simp only [Act.put, List.getElem_toArray, List.getElem_cons_zero, List.getElem_cons_succ, List.setIfInBounds_toArray, List.set_cons_zero, List.set_cons_succ]
                            refine wpAnyH_take (i := 9) (v := ?_) rfl (by kernel_rfl) (by kernel_rfl) (by kernel_rfl) (fun _ _ _ h => h) (Or.inl ⟨by rfl, ?_⟩) hS ?_
                            rotate_left
                            · (intro W hs; go_simp; first | done | with_reducible rfl)
                            try simp only [Act.put, List.getElem_toArray, List.getElem_cons_zero, List.getElem_cons_succ, List.setIfInBounds_toArray, List.set_cons_zero, List.set_cons_succ]
                            refine wpH_one (i := 11) (by kernel_rfl) rfl (fun K hK => ?_)
                            obtain ⟨b0, b1, b2, b3⟩ := Hsb.out
                            have hsl : wz.heap.size ≤ sb := HSl.out
                            have HSc := Lib.hid hS
                            go_simp
                            refine hK.out _ _ ((hS.setCell (.inl hsl) _).setCell (.inl hsl) _) (fun hS' => ?_)
                            clear hK K hS
                            have hS := hS'
                            clear hS'
                            try simp only [Act.put, List.getElem_toArray, List.getElem_cons_zero, List.getElem_cons_succ, List.setIfInBounds_toArray, List.set_cons_zero, List.set_cons_succ]
                            clear b0 b1 b2 b3 hsl
                            refine wpAnyH_take (i := 12) (v := ?_) rfl (by kernel_rfl) (by kernel_rfl) (by kernel_rfl) (fun _ _ _ h => h) (Or.inl ⟨by rfl, ?_⟩) hS ?_
                            rotate_left
                            · (intro W hs; go_simp; first | done | with_reducible rfl)
                            try simp only [Act.put, List.getElem_toArray, List.getElem_cons_zero, List.getElem_cons_succ, List.setIfInBounds_toArray, List.set_cons_zero, List.set_cons_succ]
                            refine wpAnyH_done (by kernel_rfl) ?_ _
                            have HAf : Hid (AfG wz _ R N L2 (.slice so L2.length sc) sb) := Lib.hid (afg_mk (cur := y17) HSc.out Hsb.out HR1.out (by
                              intro k hk
                              have h0 := HLsb.out
                              have h1 := HEsb.out
                              have h2 := HSc.out.size
                              have h3 := hS0.size
                              have zy1 := HZy1.out
                              have zy14 := HZy14.out
                              have zy15 := HZy15.out
                              have zy17 := HZy17.out
                              obtain ⟨h4, h5⟩ := hk
                              refine ⟨?_, by omega, ?_⟩
                              · rcases h4 with h4 | h4
                                · exact .inl h4
                                · exact .inr (by omega)
                              · rcases h4 with h4 | h4
                                · have h6 := HRb.out k h4
                                  omega
                                · omega) (by
                              have h1 := HEsb.out
                              have h3 := hS0.size
                              have zy1 := HZy1.out
                              have zy14 := HZy14.out
                              have zy15 := HZy15.out
                              have zy17 := HZy17.out
                              omega))
                            clear hS hS0 g0 g1
                            go_wp2_with fail
                            go_meet
                            exact ⟨_, _, _, rfl, rfl, HAf.out⟩
                        · go_simp
                          have HB0 := Lib.hid hS.size
                          have hfi : Fx No y0 (y0.alloc (.cells #[.int .i64 0, .slice none 0 0] 30)) := (Fx.refl No _).alloc _
                          refine hK.out _ _ (hS.trans hfi) (fun hS' => ?_)
                          clear hK K hS
                          have hS := hS'
                          clear hS'
                          try simp only [Act.put, List.getElem_toArray, List.getElem_cons_zero, List.getElem_cons_succ, List.setIfInBounds_toArray, List.set_cons_zero, List.set_cons_succ]
                          refine wpAnyH_hold (fun W' => Fx No y0 W' ∧ Fx No wz W' ∧ y0.heap.size < W'.heap.size ∧ W'.cell? ⟨y0.heap.size, 0, none⟩ = some (.int .i64 0) ∧ W'.frozen? ⟨y0.heap.size, 0, none⟩ = false ∧ W'.cell? ⟨y0.heap.size, 1, none⟩ = some (.slice none 0 0) ∧ W'.frozen? ⟨y0.heap.size, 1, none⟩ = false) ⟨hfi, hS, by simp, by simp, by simp, by simp, by simp⟩ ?_
                          clear hfi hS
                          rintro y19 ⟨hfi, hS, hlt, hbx⟩
                          obtain ⟨sb, hsb⟩ : ∃ q, q = y0.heap.size := ⟨_, rfl⟩
                          rw [← hsb] at hbx hlt ⊢
                          have Hsb := Lib.hid hbx
                          have HLsb : Hid (sb < y19.heap.size) := Lib.hid hlt
                          have HEsb : Hid (sb = y0.heap.size) := Lib.hid hsb
                          have HZy19 : Hid (y0.heap.size ≤ y19.heap.size) := Lib.hid hfi.size
                          have HSl : Hid (wz.heap.size ≤ sb) := Lib.hid (by have h1 := hsb; have h2 := HB0.out; omega)
                          clear hbx hlt hsb hfi HB0
                          refine wpH_one (i := 2) (by kernel_rfl) rfl (fun K hK => ?_)
                          go_simp
                          have hfi : Fx No y19 (y19.alloc (.cells #[.int .i64 xf, .int .i64 xt, .int .i64 xl] 25)) := (Fx.refl No _).alloc _
                          refine hK.out _ _ (hS.trans hfi) (fun hS' => ?_)
                          clear hK K hS
                          have hS := hS'
                          clear hS'
                          try simp only [Act.put, List.getElem_toArray, List.getElem_cons_zero, List.getElem_cons_succ, List.setIfInBounds_toArray, List.set_cons_zero, List.set_cons_succ]
                          refine wpAnyH_hold (fun W' => Fx No y19 W' ∧ Fx No wz W' ∧ y19.heap.size < W'.heap.size ∧ EdsV W' (fun _ => True) (.slice (some ⟨y19.heap.size, 0, none⟩) 1 1) [⟨xf, xt, xl⟩]) ⟨hfi, hS, by simp, SlV.lit y19 25 #[.int .i64 xf, .int .i64 xt, .int .i64 xl] 3 1 rfl (by unfold maxLen; omega)⟩ ?_
                          clear hfi hS
                          rintro y20 ⟨hfi, hS, hlt, hHLb⟩
                          obtain ⟨lb, hlb⟩ : ∃ q, q = y19.heap.size := ⟨_, rfl⟩
                          rw [← hlb] at hHLb hlt ⊢
                          have Hsb := Lib.hid (And.intro (hfi.cell' Hsb.out.1 (fun h => h)) (And.intro ((hfi.cellF Hsb.out.1 Hsb.out.2.1 (fun h => h)).2) (And.intro (hfi.cell' Hsb.out.2.2.1 (fun h => h)) ((hfi.cellF Hsb.out.2.2.1 Hsb.out.2.2.2 (fun h => h)).2))))
                          have HLb := Lib.hid hHLb
                          have HLlb : Hid (lb < y20.heap.size) := Lib.hid hlt
                          have HElb : Hid (lb = y19.heap.size) := Lib.hid hlb
                          have HZy20 : Hid (y19.heap.size ≤ y20.heap.size) := Lib.hid hfi.size
                          clear hHLb hlt hlb hfi
                          refine wpH_one (i := 3) (by kernel_rfl) rfl (fun K hK => ?_)
                          go_simp
                          refine (CD.out _ _ _ HLb.out).mono ?_
                          rintro e y21 ⟨dg, dc, rfl, hfi, hd⟩
                          have Hsb := Lib.hid (And.intro (hfi.cell' Hsb.out.1 (fun h => h)) (And.intro ((hfi.cellF Hsb.out.1 Hsb.out.2.1 (fun h => h)).2) (And.intro (hfi.cell' Hsb.out.2.2.1 (fun h => h)) ((hfi.cellF Hsb.out.2.2.1 Hsb.out.2.2.2 (fun h => h)).2))))
                          have HLb := Lib.hid (RowV.no HLb.out hfi)
                          have HD1 := Lib.hid hd
                          have HZy21 : Hid (y20.heap.size ≤ y21.heap.size) := Lib.hid hfi.size
                          have HSy21 : Hid (Fx No y20 y21) := Lib.hid hfi
                          refine hK.out _ _ (hS.trans hfi) (fun hS' => ?_)
                          clear hK K hS hfi hd
                          have hS := hS'
                          clear hS'
                          try simp only [Act.put, List.getElem_toArray, List.getElem_cons_zero, List.getElem_cons_succ, List.setIfInBounds_toArray, List.set_cons_zero, List.set_cons_succ]
                          refine wpAnyH_take (i := 4) (v := ?_) rfl (by kernel_rfl) (by kernel_rfl) (by kernel_rfl) (fun _ _ _ h => h) (Or.inl ⟨by rfl, ?_⟩) hS ?_
                          rotate_left
                          · (intro W hs; go_simp; first | done | with_reducible rfl)
                          try simp only [Act.put, List.getElem_toArray, List.getElem_cons_zero, List.getElem_cons_succ, List.setIfInBounds_toArray, List.set_cons_zero, List.set_cons_succ]
                          refine wpH_one (i := 5) (by kernel_rfl) rfl (fun K hK => ?_)
                          obtain ⟨d0, d1, d2⟩ := HD1.out
                          go_simp
                          refine hK.out _ _ hS (fun hS' => ?_)
                          clear hK K hS
                          have hS := hS'
                          clear hS'
                          clear d0 d1 d2
                          try simp only [Act.put, List.getElem_toArray, List.getElem_cons_zero, List.getElem_cons_succ, List.setIfInBounds_toArray, List.set_cons_zero, List.set_cons_succ]
                          refine wpH_one (i := 6) (by kernel_rfl) rfl (fun K hK => ?_)
                          go_simp
                          refine (CA.out _ hS).mono ?_
                          rintro e y23 ⟨so, sc, rfl, hfi, hr⟩
                          have Hsb := Lib.hid (And.intro (hfi.cell' Hsb.out.1 (fun h => h)) (And.intro ((hfi.cellF Hsb.out.1 Hsb.out.2.1 (fun h => h)).2) (And.intro (hfi.cell' Hsb.out.2.2.1 (fun h => h)) ((hfi.cellF Hsb.out.2.2.1 Hsb.out.2.2.2 (fun h => h)).2))))
                          have HLb := Lib.hid (RowV.no HLb.out hfi)
                          have HD1 := Lib.hid (And.intro (hfi.cell' HD1.out.1 (fun h => h)) (And.intro (hfi.cell' HD1.out.2.1 (fun h => h)) (hfi.cell' HD1.out.2.2 (fun h => h))))
                          have HR1 := Lib.hid hr
                          have HZy23 : Hid (y21.heap.size ≤ y23.heap.size) := Lib.hid hfi.size
                          have HSy23 : Hid (Fx No y21 y23) := Lib.hid hfi
                          refine hK.out _ _ (hS.trans hfi) (fun hS' => ?_)
                          clear hK K hS hfi hr
                          have hS := hS'
                          clear hS'
                          try simp only [Act.put, List.getElem_toArray, List.getElem_cons_zero, List.getElem_cons_succ, List.setIfInBounds_toArray, List.set_cons_zero, List.set_cons_succ]
                          refine wpAnyH_take (i := 7) (v := ?_) rfl (by kernel_rfl) (by kernel_rfl) (by kernel_rfl) (fun _ _ _ h => h) (Or.inl ⟨by rfl, ?_⟩) hS ?_
                          rotate_left
                          · (intro W hs; go_simp; first | done | with_reducible rfl)
                          try simp only [Act.put, List.getElem_toArray, List.getElem_cons_zero, List.getElem_cons_succ, List.setIfInBounds_toArray, List.set_cons_zero, List.set_cons_succ]
                          refine wpAnyH_take (i := 8) (v := ?_) rfl (by kernel_rfl) (by kernel_rfl) (by kernel_rfl) (fun _ _ _ h => h) (Or.inl ⟨by rfl, ?_⟩) hS ?_
                          rotate_left
                          · (intro W hs; go_simp; first | done | with_reducible rfl)
                          try simp only [Act.put, List.getElem_toArray, List.getElem_cons_zero, List.getElem_cons_succ, List.setIfInBounds_toArray, List.set_cons_zero, List.set_cons_succ]
                          refine wpAnyH_take (i := 9) (v := ?_) rfl (by kernel_rfl) (by kernel_rfl) (by kernel_rfl) (fun _ _ _ h => h) (Or.inl ⟨by rfl, ?_⟩) hS ?_
                          rotate_left
                          · (intro W hs; go_simp; first | done | with_reducible rfl)
                          try simp only [Act.put, List.getElem_toArray, List.getElem_cons_zero, List.getElem_cons_succ, List.setIfInBounds_toArray, List.set_cons_zero, List.set_cons_succ]
                          refine wpH_one (i := 11) (by kernel_rfl) rfl (fun K hK => ?_)
                          obtain ⟨b0, b1, b2, b3⟩ := Hsb.out
                          have hsl : wz.heap.size ≤ sb := HSl.out
                          have HSc := Lib.hid hS
                          go_simp
                          refine hK.out _ _ ((hS.setCell (.inl hsl) _).setCell (.inl hsl) _) (fun hS' => ?_)
                          clear hK K hS
                          have hS := hS'
                          clear hS'
                          try simp only [Act.put, List.getElem_toArray, List.getElem_cons_zero, List.getElem_cons_succ, List.setIfInBounds_toArray, List.set_cons_zero, List.set_cons_succ]
                          clear b0 b1 b2 b3 hsl
                          refine wpAnyH_take (i := 12) (v := ?_) rfl (by kernel_rfl) (by kernel_rfl) (by kernel_rfl) (fun _ _ _ h => h) (Or.inl ⟨by rfl, ?_⟩) hS ?_
                          rotate_left
                          · (intro W hs; go_simp; first | done | with_reducible rfl)
                          try simp only [Act.put, List.getElem_toArray, List.getElem_cons_zero, List.getElem_cons_succ, List.setIfInBounds_toArray, List.set_cons_zero, List.set_cons_succ]
                          refine wpAnyH_done (by kernel_rfl) ?_ _
                          have HAf : Hid (AfG wz _ R N L2 (.slice so L2.length sc) sb) := Lib.hid (afg_mk (cur := y23) HSc.out Hsb.out HR1.out (by
                            intro k hk
                            have h0 := HLsb.out
                            have h1 := HEsb.out
                            have h2 := HSc.out.size
                            have h3 := hS0.size
                            have zy19 := HZy19.out
                            have zy20 := HZy20.out
                            have zy21 := HZy21.out
                            have zy23 := HZy23.out
                            obtain ⟨h4, h5⟩ := hk
                            refine ⟨?_, by omega, ?_⟩
                            · rcases h4 with h4 | h4
                              · exact .inl h4
                              · exact .inr (by omega)
                            · rcases h4 with h4 | h4
                              · have h6 := HRb.out k h4
                                omega
                              · omega) (by
                            have h1 := HEsb.out
                            have h3 := hS0.size
                            have zy19 := HZy19.out
                            have zy20 := HZy20.out
                            have zy21 := HZy21.out
                            have zy23 := HZy23.out
                            omega))
                          clear hS hS0 g0 g1
                          go_wp2_with fail
                          go_meet
                          exact ⟨_, _, _, rfl, rfl, HAf.out⟩
                      case rest =>
                        obtain ⟨sb, so, sc, rfl, rfl, haf⟩ := hcut
                        obtain ⟨w3, hw3⟩ : ∃ x, x = wc := ⟨_, rfl⟩
                        subst hw3
                        have HAf := Lib.hid haf
                        have q0 := haf.q0
                        have q1 := haf.q1
                        obtain ⟨r0, r0f⟩ := (HPw.out.no haf.fx).r0
                        obtain ⟨r1, r1f⟩ := (HPw.out.no haf.fx).r1
                        have HT := Lib.hid (put_two w3 (qb := rb) (.int .i64 (N : Nat)) (.slice so L2.length sc) r0 r1)
                        have hxr : ¬ xb = rb := by have h1 := HBx.out.lo; have h3 := HRl.out; have h4 := HZy.out; omega
                        have s0 := HT.out.2.2.1.cell' (f0 _ haf.fx) hxr
                        have s1 := HT.out.2.2.1.cell' (f1 _ haf.fx) hxr
                        have s2 := HT.out.2.2.1.cell' (f2 _ haf.fx) hxr
                        have HGy : Hid (GraphV ((w3.setCell ⟨rb, 0, none⟩ (.int .i64 (N : Nat))).setCell ⟨rb, 1, none⟩ (.slice so L2.length sc)) D b N L) := Lib.hid ((HPw.out.g.no haf.fx).keep HT.out.2.2.1 fun j hj e => HPw.out.rD.1 (e ▸ hj))
                        clear haf g0 g1 f0 f1 f2 hxr
                        go_wp2_with fail
                        refine (CG.out _ HGy.out).mono ?_
                        rintro e w4 ⟨rfl, hfD, hg4⟩
                        have HP4 := Lib.hid (HPw.out.step (L' := L2) HAf.out.fx HAf.out.row (by
                            intro j hj
                            obtain ⟨h1, h2⟩ := hj
                            rcases h1 with h1 | h1
                            · exact HPw.out.ap j h1
                            · have h3 := HRl.out
                              have h4 := HZy.out
                              have h5 := HZz.out
                              exact ⟨fun hd => by have := HPw.out.g.lt j hd; omega, by omega⟩) (fun j hj => hj.2) rfl hfD hg4)
                        have HF4 : Hid (Fx (fun j => j = rb ∨ D j) wz w4) := Lib.hid (((HAf.out.fx.no (S := fun j => j = rb ∨ D j)).trans (HT.out.2.2.1.mono fun j _ h => .inl h)).trans (hfD.mono fun j _ h => .inr h))
                        clear hfD hg4 HGy HT q0 q1 r0 r0f r1 r1f CG CA s0 s1 s2
                        go_wp2_with fail
                        go_meet
                        exact ⟨L2, _, _, _, HP4.out, HF4.out, HLn.out⟩
                  case rest =>
                    obtain ⟨L2, rv2, D2, R2, hP2, hf2, hl2⟩ := hcut
                    obtain ⟨w5, hw5⟩ : ∃ x, x = wc := ⟨_, rfl⟩
                    subst hw5
                    have hne : ∀ j, wx.heap.size ≤ j → ¬ (j = rb ∨ D j) := fun j hj h => by
                      have h1 := HRl.out
                      have h2 := HAl.out
                      rcases h with h | h
                      · omega
                      · have := HEl.out j h; omega
                    obtain ⟨ro2, rc2, rfl, _⟩ := EdsV.facts hP2.row
                    have HP2 := Lib.hid hP2
                    have HL2 := Lib.hid hl2
                    have hs2 : L2.length ≤ 252 := by omega
                    have HC5 : Hid (∃ C, GraphV w5 C cb N L) := Lib.hid (by
                      obtain ⟨C, h1, h2⟩ := HCp.out.c
                      exact ⟨C, (h1.no HBx.out.fx).keep hf2 fun j hj => hne j (h2 j hj)⟩)
                    have hql := HCp.out.ql
                    have hzy := HCp.out.fx.size
                    have hxl := HBx.out.lo
                    have HQ0 := Lib.hid (hf2.cell' (HBx.out.fx.cell' HCp.out.q0 (fun h => h)) (hne qb hql))
                    have HQ1 := Lib.hid (hf2.cell' (HBx.out.fx.cell' HCp.out.q1 (fun h => h)) (hne qb hql))
                    have HX0 := Lib.hid (hf2.cell' HBx.out.c0 (hne xb (by omega)))
                    have HX1 := Lib.hid (hf2.cell' HBx.out.c1 (hne xb (by omega)))
                    have HX2 := Lib.hid (hf2.cell' HBx.out.c2 (hne xb (by omega)))
                    have HOl : Hid (EdsV w5 R (.slice ro L.length rc) L) := Lib.hid (HPz.out.row.keep hf2 fun j hj h => by
                      rcases h with h | h
                      · exact (HPz.out.ap j hj).2 h
                      · exact (HPz.out.ap j hj).1 h)
                    clear hP2 hf2 hl2 hne hql hzy hxl a0 a1 hpc
                    obtain ⟨tS, htS⟩ : ∃ t, t = decide (L2 = L) := ⟨_, rfl⟩
                    have CI : Hid (∀ W, Fx No w5 W → Calls Try.prog 28 #[.pointer (some ⟨b, 0, none⟩), .agg #[.int .i64 (N : Nat), .slice ro2 L2.length rc2], .int .i64 nn, .int .i64 mm, .agg #[.int .i64 xf, .int .i64 xt, .int .i64 xl]] W fun e w' => e = .returned (.bool true) ∧ Fx No W w') := Lib.hid fun W h => is_any (HP2.out.g.no h) (HP2.out.row.no h) nn mm ⟨xf, xt, xl⟩ HXok.out
                    have CD : Hid (∀ W, Fx No w5 W → Calls Try.prog 14 #[.pointer (some ⟨cb, 0, none⟩)] W fun e w' => ∃ v', e = .returned (.agg #[.int .i64 (N : Nat), v']) ∧ Fx No W w' ∧ EdsV w' (fun _ => True) v' L) := Lib.hid fun W h => by
                      obtain ⟨C, hC⟩ := HC5.out
                      exact (docGraph_any (hC.no h)).mono fun e w' ⟨v', h1, h2, h3⟩ => ⟨v', h1, h2, (OwnT.row h3).mono fun _ _ => trivial⟩
                    have CS1 : Hid (∀ W v', Fx No w5 W → EdsV W (fun _ => True) v' L → Calls Try.prog 13 #[.agg #[.int .i64 (N : Nat), v'], .agg #[.int .i64 (N : Nat), .slice ro L.length rc]] W fun e w' => e = .returned (.bool true) ∧ Fx No W w') := Lib.hid fun W v' h hv => (refSame_any hv (HOl.out.no h) (N : Int) (N : Int)).mono fun e w' ⟨h1, h2⟩ => ⟨by rw [h1, decide_eq_true ⟨rfl, rfl⟩], h2⟩
                    have CS2 : Hid (∀ W, Fx No w5 W → Calls Try.prog 13 #[.agg #[.int .i64 (N : Nat), .slice ro2 L2.length rc2], .agg #[.int .i64 (N : Nat), .slice ro L.length rc]] W fun e w' => e = .returned (.bool tS) ∧ Fx No W w') := Lib.hid fun W h => (refSame_any (HP2.out.row.no h) (HOl.out.no h) (N : Int) (N : Int)).mono fun e w' ⟨h1, h2⟩ => ⟨by rw [h1, htS]; simp, h2⟩
                    have CS3 : Hid (∀ W, Fx No w5 W → Calls Try.prog 29 #[.pointer (some ⟨b, 0, none⟩), .pointer (some ⟨cb, 0, none⟩)] W fun e w' => e = .returned (.bool tS) ∧ Fx No W w') := Lib.hid fun W h => by
                      obtain ⟨C, hC⟩ := HC5.out
                      exact (gSame_any (HP2.out.g.no h) (hC.no h)).mono fun e w' ⟨h1, h2⟩ => ⟨by rw [h1, htS]; simp, h2⟩
                    clear htS
                    have g0 : ∀ W, Fx No w5 W → W.cell? ⟨rb, 0, none⟩ = some (.int .i64 (N : Nat)) := fun W h => h.cell' HP2.out.r0.1 (fun h => h)
                    have g1 : ∀ W, Fx No w5 W → W.cell? ⟨rb, 1, none⟩ = some (.slice ro2 L2.length rc2) := fun W h => h.cell' HP2.out.r1.1 (fun h => h)
                    have f0 : ∀ W, Fx No w5 W → W.cell? ⟨xb, 0, none⟩ = some (.int .i64 xf) := fun W h => h.cell' HX0.out (fun h => h)
                    have f1 : ∀ W, Fx No w5 W → W.cell? ⟨xb, 1, none⟩ = some (.int .i64 xt) := fun W h => h.cell' HX1.out (fun h => h)
                    have f2 : ∀ W, Fx No w5 W → W.cell? ⟨xb, 2, none⟩ = some (.int .i64 xl) := fun W h => h.cell' HX2.out (fun h => h)
                    have q0 : ∀ W, Fx No w5 W → W.cell? ⟨qb, 0, none⟩ = some (.int .i64 (N : Nat)) := fun W h => h.cell' HQ0.out (fun h => h)
                    have q1 : ∀ W, Fx No w5 W → W.cell? ⟨qb, 1, none⟩ = some (.slice ro L.length rc) := fun W h => h.cell' HQ1.out (fun h => h)
                    go_upto_region 33 with fail
                    refine wp_region_H (fun W => Fx No w5 W) (by kernel_rfl) ((Fx.refl _ _).drew) ?_
                    intro hS
                    refine wpAnyH_hold (fun W' => Fx No w5 W') hS ?_
                    clear hS
                    rintro y0 hS
                    have hS0 := hS
                    refine wpAnyH_take (i := 0) (v := ?_) rfl (by kernel_rfl) (by kernel_rfl) (by kernel_rfl) (fun _ _ _ h => h) (Or.inl ⟨by rfl, ?_⟩) hS ?_
                    rotate_left
                    · (intro W hs; go_simp; first | done | with_reducible rfl)
                    try simp only [Act.put, List.getElem_toArray, List.getElem_cons_zero, List.getElem_cons_succ, List.setIfInBounds_toArray, List.set_cons_zero, List.set_cons_succ]
                    refine wpAnyH_take (i := 1) (v := ?_) rfl (by kernel_rfl) (by kernel_rfl) (by kernel_rfl) (fun _ _ _ h => h) (Or.inl ⟨by rfl, ?_⟩) hS ?_
                    rotate_left
                    · (intro W hs; go_simp; first | done | with_reducible rfl)
                    try simp only [Act.put, List.getElem_toArray, List.getElem_cons_zero, List.getElem_cons_succ, List.setIfInBounds_toArray, List.set_cons_zero, List.set_cons_succ]
                    refine wpAnyH_take (i := 2) (v := ?_) rfl (by kernel_rfl) (by kernel_rfl) (by kernel_rfl) (fun _ _ _ h => h) (Or.inl ⟨by rfl, ?_⟩) hS ?_
                    rotate_left
                    · (intro W hs; go_simp; first | done | with_reducible rfl)
                    try simp only [Act.put, List.getElem_toArray, List.getElem_cons_zero, List.getElem_cons_succ, List.setIfInBounds_toArray, List.set_cons_zero, List.set_cons_succ]
                    refine wpAnyH_take (i := 3) (v := ?_) rfl (by kernel_rfl) (by kernel_rfl) (by kernel_rfl) (fun _ _ _ h => h) (Or.inl ⟨by rfl, ?_⟩) hS ?_
                    rotate_left
                    · (intro W hs; go_simp; first | done | with_reducible rfl)
                    try simp only [Act.put, List.getElem_toArray, List.getElem_cons_zero, List.getElem_cons_succ, List.setIfInBounds_toArray, List.set_cons_zero, List.set_cons_succ]
                    refine wpAnyH_take (i := 4) (v := ?_) rfl (by kernel_rfl) (by kernel_rfl) (by kernel_rfl) (fun _ _ _ h => h) (Or.inl ⟨by rfl, ?_⟩) hS ?_
                    rotate_left
                    · (intro W hs; go_simp; first | done | with_reducible rfl)
                    try simp only [Act.put, List.getElem_toArray, List.getElem_cons_zero, List.getElem_cons_succ, List.setIfInBounds_toArray, List.set_cons_zero, List.set_cons_succ]
                    refine wpH_one (i := 5) (by kernel_rfl) rfl (fun K hK => ?_)
                    go_simp
                    refine (CI.out _ hS).mono ?_
                    rintro e y1 ⟨rfl, hfi⟩
                    have HZy1 : Hid (y0.heap.size ≤ y1.heap.size) := Lib.hid hfi.size
                    have HSy1 : Hid (Fx No y0 y1) := Lib.hid hfi
                    refine hK.out _ _ (hS.trans hfi) (fun hS' => ?_)
                    clear hK K hS hfi 
                    have hS := hS'
                    clear hS'
                    try simp only [Act.put, List.getElem_toArray, List.getElem_cons_zero, List.getElem_cons_succ, List.setIfInBounds_toArray, List.set_cons_zero, List.set_cons_succ]
                    refine wpAnyH_take (i := 6) (v := ?_) rfl (by kernel_rfl) (by kernel_rfl) (by kernel_rfl) (fun _ _ _ h => h) (Or.inl ⟨by rfl, ?_⟩) hS ?_
                    rotate_left
                    · (intro W hs; go_simp; first | done | with_reducible rfl)
                    try simp only [Act.put, List.getElem_toArray, List.getElem_cons_zero, List.getElem_cons_succ, List.setIfInBounds_toArray, List.set_cons_zero, List.set_cons_succ]
                    refine wpAnyH_take (i := 7) (v := ?_) rfl (by kernel_rfl) (by kernel_rfl) (by kernel_rfl) (fun _ _ _ h => h) (Or.inl ⟨by rfl, ?_⟩) hS ?_
                    rotate_left
                    · (intro W hs; go_simp; first | done | with_reducible rfl)
                    try simp only [Act.put, List.getElem_toArray, List.getElem_cons_zero, List.getElem_cons_succ, List.setIfInBounds_toArray, List.set_cons_zero, List.set_cons_succ]
                    refine wpAnyH_take (i := 8) (v := ?_) rfl (by kernel_rfl) (by kernel_rfl) (by kernel_rfl) (fun _ _ _ h => h) (Or.inl ⟨by rfl, ?_⟩) hS ?_
                    rotate_left
                    · (intro W hs; go_simp; first | done | with_reducible rfl)
                    try simp only [Act.put, List.getElem_toArray, List.getElem_cons_zero, List.getElem_cons_succ, List.setIfInBounds_toArray, List.set_cons_zero, List.set_cons_succ]
                    refine wpAnyH_take (i := 10) (v := ?_) rfl (by kernel_rfl) (by kernel_rfl) (by kernel_rfl) (fun _ _ _ h => h) (Or.inl ⟨by rfl, ?_⟩) hS ?_
                    rotate_left
                    · (intro W hs; go_simp; first | done | with_reducible rfl)
                    try simp only [Act.put, List.getElem_toArray, List.getElem_cons_zero, List.getElem_cons_succ, List.setIfInBounds_toArray, List.set_cons_zero, List.set_cons_succ]
                    refine wpH_one (i := 9) (by kernel_rfl) rfl (fun K hK => ?_)
                    go_simp
                    refine (CD.out _ hS).mono ?_
                    rintro e y2 ⟨v9, rfl, hfi, ho⟩
                    have HV9 := Lib.hid ho
                    have HZy2 : Hid (y1.heap.size ≤ y2.heap.size) := Lib.hid hfi.size
                    have HSy2 : Hid (Fx No y1 y2) := Lib.hid hfi
                    refine hK.out _ _ (hS.trans hfi) (fun hS' => ?_)
                    clear hK K hS hfi ho
                    have hS := hS'
                    clear hS'
                    try simp only [Act.put, List.getElem_toArray, List.getElem_cons_zero, List.getElem_cons_succ, List.setIfInBounds_toArray, List.set_cons_zero, List.set_cons_succ]
                    refine wpH_one (i := 11) (by kernel_rfl) rfl (fun K hK => ?_)
                    go_simp
                    refine (CS1.out _ _ hS HV9.out).mono ?_
                    rintro e y3 ⟨rfl, hfi⟩
                    have HV9 := Lib.hid (RowV.no HV9.out hfi)
                    have HZy3 : Hid (y2.heap.size ≤ y3.heap.size) := Lib.hid hfi.size
                    have HSy3 : Hid (Fx No y2 y3) := Lib.hid hfi
                    refine hK.out _ _ (hS.trans hfi) (fun hS' => ?_)
                    clear hK K hS hfi 
                    have hS := hS'
                    clear hS'
                    try simp only [Act.put, List.getElem_toArray, List.getElem_cons_zero, List.getElem_cons_succ, List.setIfInBounds_toArray, List.set_cons_zero, List.set_cons_succ]
                    refine wpAnyH_take (i := 12) (v := ?_) rfl (by kernel_rfl) (by kernel_rfl) (by kernel_rfl) (fun _ _ _ h => h) (Or.inl ⟨by rfl, ?_⟩) hS ?_
                    rotate_left
                    · (intro W hs; go_simp; first | done | with_reducible rfl)
                    try simp only [Act.put, List.getElem_toArray, List.getElem_cons_zero, List.getElem_cons_succ, List.setIfInBounds_toArray, List.set_cons_zero, List.set_cons_succ]
                    refine wpAnyH_take (i := 13) (v := ?_) rfl (by kernel_rfl) (by kernel_rfl) (by kernel_rfl) (fun _ _ _ h => h) (Or.inl ⟨by rfl, ?_⟩) hS ?_
                    rotate_left
                    · (intro W hs; go_simp; first | done | with_reducible rfl)
                    try simp only [Act.put, List.getElem_toArray, List.getElem_cons_zero, List.getElem_cons_succ, List.setIfInBounds_toArray, List.set_cons_zero, List.set_cons_succ]
                    refine wpAnyH_take (i := 14) (v := ?_) rfl (by kernel_rfl) (by kernel_rfl) (by kernel_rfl) (fun _ _ _ h => h) (Or.inl ⟨by rfl, ?_⟩) hS ?_
                    rotate_left
                    · (intro W hs; go_simp; first | done | with_reducible rfl)
                    try simp only [Act.put, List.getElem_toArray, List.getElem_cons_zero, List.getElem_cons_succ, List.setIfInBounds_toArray, List.set_cons_zero, List.set_cons_succ]
                    refine wpAnyH_take (i := 15) (v := ?_) rfl (by kernel_rfl) (by kernel_rfl) (by kernel_rfl) (fun _ _ _ h => h) (Or.inl ⟨by rfl, ?_⟩) hS ?_
                    rotate_left
                    · (intro W hs; go_simp; first | done | with_reducible rfl)
                    try simp only [Act.put, List.getElem_toArray, List.getElem_cons_zero, List.getElem_cons_succ, List.setIfInBounds_toArray, List.set_cons_zero, List.set_cons_succ]
                    refine wpAnyH_take (i := 16) (v := ?_) rfl (by kernel_rfl) (by kernel_rfl) (by kernel_rfl) (fun _ _ _ h => h) (Or.inl ⟨by rfl, ?_⟩) hS ?_
                    rotate_left
                    · (intro W hs; go_simp; first | done | with_reducible rfl)
                    try simp only [Act.put, List.getElem_toArray, List.getElem_cons_zero, List.getElem_cons_succ, List.setIfInBounds_toArray, List.set_cons_zero, List.set_cons_succ]
                    refine wpAnyH_take (i := 18) (v := ?_) rfl (by kernel_rfl) (by kernel_rfl) (by kernel_rfl) (fun _ _ _ h => h) (Or.inl ⟨by rfl, ?_⟩) hS ?_
                    rotate_left
                    · (intro W hs; go_simp; first | done | with_reducible rfl)
                    try simp only [Act.put, List.getElem_toArray, List.getElem_cons_zero, List.getElem_cons_succ, List.setIfInBounds_toArray, List.set_cons_zero, List.set_cons_succ]
                    refine wpAnyH_take (i := 19) (v := ?_) rfl (by kernel_rfl) (by kernel_rfl) (by kernel_rfl) (fun _ _ _ h => h) (Or.inl ⟨by rfl, ?_⟩) hS ?_
                    rotate_left
                    · (intro W hs; go_simp; first | done | with_reducible rfl)
                    try simp only [Act.put, List.getElem_toArray, List.getElem_cons_zero, List.getElem_cons_succ, List.setIfInBounds_toArray, List.set_cons_zero, List.set_cons_succ]
                    refine wpH_one (i := 17) (by kernel_rfl) rfl (fun K hK => ?_)
                    go_simp
                    refine (CS3.out _ hS).mono ?_
                    rintro e y4 ⟨rfl, hfi⟩
                    have HV9 := Lib.hid (RowV.no HV9.out hfi)
                    have HZy4 : Hid (y3.heap.size ≤ y4.heap.size) := Lib.hid hfi.size
                    have HSy4 : Hid (Fx No y3 y4) := Lib.hid hfi
                    refine hK.out _ _ (hS.trans hfi) (fun hS' => ?_)
                    clear hK K hS hfi 
                    have hS := hS'
                    clear hS'
                    try simp only [Act.put, List.getElem_toArray, List.getElem_cons_zero, List.getElem_cons_succ, List.setIfInBounds_toArray, List.set_cons_zero, List.set_cons_succ]
                    refine wpH_one (i := 20) (by kernel_rfl) rfl (fun K hK => ?_)
                    go_simp
                    refine (CS2.out _ hS).mono ?_
                    rintro e y5 ⟨rfl, hfi⟩
                    have HV9 := Lib.hid (RowV.no HV9.out hfi)
                    have HZy5 : Hid (y4.heap.size ≤ y5.heap.size) := Lib.hid hfi.size
                    have HSy5 : Hid (Fx No y4 y5) := Lib.hid hfi
                    refine hK.out _ _ (hS.trans hfi) (fun hS' => ?_)
                    clear hK K hS hfi 
                    have hS := hS'
                    clear hS'
                    try simp only [Act.put, List.getElem_toArray, List.getElem_cons_zero, List.getElem_cons_succ, List.setIfInBounds_toArray, List.set_cons_zero, List.set_cons_succ]
                    refine wpAnyH_take (i := 21) (v := ?_) rfl (by kernel_rfl) (by kernel_rfl) (by kernel_rfl) (fun _ _ _ h => h) (Or.inl ⟨by rfl, ?_⟩) hS ?_
                    rotate_left
                    · (intro W hs; go_simp; first | done | with_reducible rfl)
                    try simp only [Act.put, List.getElem_toArray, List.getElem_cons_zero, List.getElem_cons_succ, List.setIfInBounds_toArray, List.set_cons_zero, List.set_cons_succ]
                    refine wpAnyH_take (i := 22) (v := ?_) rfl (by kernel_rfl) (by kernel_rfl) (by kernel_rfl) (fun _ _ _ h => h) (Or.inl ⟨by rfl, ?_⟩) hS ?_
                    rotate_left
                    · (intro W hs; go_simp; first | done | with_reducible rfl)
                    try simp only [Act.put, List.getElem_toArray, List.getElem_cons_zero, List.getElem_cons_succ, List.setIfInBounds_toArray, List.set_cons_zero, List.set_cons_succ]
                    refine wpAnyH_done (by kernel_rfl) ?_ _
                    have HF := Lib.hid hS
                    clear hS hS0 g0 g1 f0 f1 f2 q0 q1 CI CD CS1 CS2 CS3 HV9
                    go_wp2_with fail
                    go_roundw
                    case rel => exact ⟨I + 1, L2, _, D2, R2, by go_num, by omega, by have := HL2.out; omega, HP2.out.no HF.out⟩
                    case measure => simp [intOf]; omega
            · obtain rfl : I = l.length := by omega
              clear hIl r0 r0f r1 r1f
              have HD : Hid (∀ W, Fx No wa W → Calls Try.prog 23 #[.pointer (some ⟨b, 0, none⟩)] W fun e w' => ∃ b', e = .returned (.pointer (some ⟨b', 0, none⟩)) ∧ Fx No W w' ∧ Hid (∃ C, GraphV w' C b' N L)) := Lib.hid fun W h => (gCopy_any (HP.out.g.no h)).mono fun e w' ⟨b', h1, h2, h3⟩ => ⟨b', h1, h2, Lib.hid ⟨_, h3⟩⟩
              go_wp2_with fail
              refine (HD.out _ (Fx.refl _ _)).mono ?_
              rintro e w1' ⟨b', rfl, hf, HC'⟩
              have HFa := Lib.hid hf
              have HSm : Hid (Calls Try.prog 29 #[.pointer (some ⟨b, 0, none⟩), .pointer (some ⟨b', 0, none⟩)] w1' fun e w' => e = .returned (.bool true) ∧ Fx No w1' w') := Lib.hid (by
                obtain ⟨C, hC⟩ := HC'.out
                exact (gSame_any (HP.out.g.no hf) hC).mono fun e w' ⟨h1, h2⟩ => ⟨by rw [h1, decide_eq_true ⟨rfl, rfl⟩], h2⟩)
              clear hf
              go_wp2_with fail
              refine HSm.out.mono ?_
              rintro e w2' ⟨rfl, hf⟩
              have HFb := Lib.hid (HFa.out.trans hf)
              clear hf
              go_wp2_with fail
              refine (works_any _).mono ?_
              rintro e w3' ⟨rfl, hf⟩
              have HFc := Lib.hid (HFb.out.trans hf)
              clear hf
              go_wp2
              go_ret
              exact ⟨rfl, HP.out.fx.trans HFc.out⟩
end
#print axioms plays_any
end Go.Proofs.Ytcfajeldkioomaa
