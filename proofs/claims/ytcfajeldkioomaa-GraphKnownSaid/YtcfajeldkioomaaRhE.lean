/- The law GraphTurns. -/
import Derived.Test.YtcfajeldkioomaaRhD
import Derived.Test.YtcfajeldkioomaaRhB
namespace Go.Proofs.Ytcfajeldkioomaa
open Go.RowKit
set_option linter.unusedVariables false

theorem Drw.no {w ws w' : World} {b N : Nat} {L : List Ed} {rv : Value} {D R : Nat → Prop} (h : Drw w ws b N L rv D R) (hf : Fx No ws w') : Drw w w' b N L rv D R :=
  ⟨h.fx.trans hf, h.g.no hf, h.row.no hf, h.lo, h.rlo, h.ap, fun j hj => Nat.lt_of_lt_of_le (h.rlt j hj) hf.size⟩
def Box3 (w : World) (q : Nat) : Prop := ∃ u0 u1 u2, w.cell? ⟨q, 0, none⟩ = some u0 ∧ w.cell? ⟨q, 1, none⟩ = some u1 ∧ w.cell? ⟨q, 2, none⟩ = some u2 ∧ w.frozen? ⟨q, 0, none⟩ = false ∧ w.frozen? ⟨q, 1, none⟩ = false ∧ w.frozen? ⟨q, 2, none⟩ = false
theorem Box3.lt {w : World} {q : Nat} (h : Box3 w q) : q < w.heap.size := by obtain ⟨_, _, _, h, _⟩ := h; exact World.block_lt_of_cell? w _ h
theorem Box3.fx {w w' : World} {S : Nat → Prop} {q : Nat} (h : Box3 w q) (hf : Fx S w w') (hn : ¬ S q) : Box3 w' q := by
  obtain ⟨u0, u1, u2, h1, h2, h3, z1, z2, z3⟩ := h
  exact ⟨u0, u1, u2, hf.cell' h1 hn, hf.cell' h2 hn, hf.cell' h3 hn, (hf.cellF h1 z1 hn).2, (hf.cellF h2 z2 hn).2, (hf.cellF h3 z3 hn).2⟩
theorem Box3.alloc (w : World) (t : TypeId) : Box3 (w.alloc (.cells #[.int .i64 0, .int .i64 0, .int .i64 0] t)) w.heap.size := ⟨_, _, _, by simp; rfl, by simp; rfl, by simp; rfl, by simp, by simp, by simp⟩
def Two3 (w : World) (q : Nat) (a b : Ed) : Prop := w.cell? ⟨q, 0, none⟩ = some (.int .i64 a.f) ∧ w.cell? ⟨q, 1, none⟩ = some (.int .i64 a.t) ∧ w.cell? ⟨q, 2, none⟩ = some (.int .i64 a.l) ∧ w.cell? ⟨q, 3, none⟩ = some (.int .i64 b.f) ∧ w.cell? ⟨q, 4, none⟩ = some (.int .i64 b.t) ∧ w.cell? ⟨q, 5, none⟩ = some (.int .i64 b.l)
theorem Two3.fx {w w' : World} {S : Nat → Prop} {q : Nat} {a b : Ed} (h : Two3 w q a b) (hf : Fx S w w') (hn : ¬ S q) : Two3 w' q a b := ⟨hf.cell' h.1 hn, hf.cell' h.2.1 hn, hf.cell' h.2.2.1 hn, hf.cell' h.2.2.2.1 hn, hf.cell' h.2.2.2.2.1 hn, hf.cell' h.2.2.2.2.2 hn⟩
theorem Two3.lt {w : World} {q : Nat} {a b : Ed} (h : Two3 w q a b) : q < w.heap.size := World.block_lt_of_cell? w _ h.1
structure T4I (w0 : World) (a b : Ed) (L : Nat → Bool) (x : Nat → Value) (w : World) : Prop where
  base : Fx No w0 w
  f0 : L 0 = true → (x 0 = .agg #[.int .i64 a.f, .int .i64 a.t, .int .i64 a.l])
  f1 : L 1 = true → (x 1 = .agg #[.int .i64 b.f, .int .i64 b.t, .int .i64 b.l])
  f2 : L 2 = true → L 3 = false → (∃ q : Nat, x 2 = .slice (some ⟨q, 0, none⟩) 2 2 ∧ EdsV w (fun _ => True) (.slice (some ⟨q, 0, none⟩) 2 2) [a, b])
  f3 : L 3 = true → L 14 = false → (∃ dg dc : Nat, x 3 = .slice (some ⟨dg, 0, none⟩) 2 dc ∧ Two3 w dg a b)
  f4 : L 4 = true → (∃ dg dc : Nat, x 3 = .slice (some ⟨dg, 0, none⟩) 2 dc ∧ x 4 = .pointer (some ⟨dg, 0, none⟩))
  f5 : L 5 = true → (x 5 = .agg #[.int .i64 a.f, .int .i64 a.t, .int .i64 a.l])
  f6 : L 6 = true → (x 6 = .agg #[.int .i64 a.f, .int .i64 a.t, .int .i64 a.l])
  f7 : L 7 = true → (x 7 = .agg #[.int .i64 b.f, .int .i64 b.t, .int .i64 b.l])
  f8 : L 8 = true → L 9 = false → (∃ q : Nat, x 8 = .slice (some ⟨q, 0, none⟩) 2 2 ∧ EdsV w (fun _ => True) (.slice (some ⟨q, 0, none⟩) 2 2) [a, b])
  f9 : L 9 = true → L 15 = false → (∃ dg dc : Nat, x 9 = .slice (some ⟨dg, 0, none⟩) 2 dc ∧ Two3 w dg a b)
  f10 : L 10 = true → (∃ dg dc : Nat, x 9 = .slice (some ⟨dg, 0, none⟩) 2 dc ∧ x 10 = .pointer (some ⟨dg, 3, none⟩))
  f11 : L 11 = true → (x 11 = .agg #[.int .i64 b.f, .int .i64 b.t, .int .i64 b.l])
  f12 : L 12 = true → L 14 = false → (∃ q : Nat, x 12 = .pointer (some ⟨q, 0, none⟩) ∧ w0.heap.size ≤ q ∧ Box3 w q)
  f13 : L 13 = true → L 15 = false → (∃ q : Nat, x 13 = .pointer (some ⟨q, 0, none⟩) ∧ w0.heap.size ≤ q ∧ Box3 w q)
  n1 : L 12 = true → L 13 = true → (∀ p q : Nat, x 12 = .pointer (some ⟨p, 0, none⟩) → x 13 = .pointer (some ⟨q, 0, none⟩) → p ≠ q)
  n2 : L 9 = true → L 12 = true → (∀ dg dc q : Nat, x 9 = .slice (some ⟨dg, 0, none⟩) 2 dc → x 12 = .pointer (some ⟨q, 0, none⟩) → dg ≠ q)
  f14 : L 14 = true → (∃ q : Nat, x 12 = .pointer (some ⟨q, 0, none⟩) ∧ w0.heap.size ≤ q ∧ (w.cell? ⟨q, 0, none⟩ = some (.int .i64 a.f) ∧ w.cell? ⟨q, 1, none⟩ = some (.int .i64 a.t) ∧ w.cell? ⟨q, 2, none⟩ = some (.int .i64 a.l)))
  f15 : L 15 = true → (∃ q : Nat, x 13 = .pointer (some ⟨q, 0, none⟩) ∧ w0.heap.size ≤ q ∧ (w.cell? ⟨q, 0, none⟩ = some (.int .i64 b.f) ∧ w.cell? ⟨q, 1, none⟩ = some (.int .i64 b.t) ∧ w.cell? ⟨q, 2, none⟩ = some (.int .i64 b.l)))
section
variable {w : World} {E E2 : Nat → Prop} {v u : Value} {l : List Ed} {zs : List Int}
set_option maxRecDepth 100000 in
set_option maxHeartbeats 8000000 in
theorem turns_any (n : Int) (h : EdsV w E v l) (hok : ∀ x ∈ l, x.ok) (hz : IntsV w E2 u zs) (hzok : ∀ x ∈ zs, Ok64 x) (a b : Ed) (ha : a.ok) (hb : b.ok) : Calls Try.prog 3 #[.int .i64 n, v, u, evE a, evE b] w fun e w' => e = .returned (.bool true) ∧ Fx No w w' := by
  have HE := Lib.hid h
  have HOk := Lib.hid hok
  have HZ := Lib.hid hz
  have HZk := Lib.hid hzok
  have HAo := Lib.hid ha
  have HBo := Lib.hid hb
  obtain ⟨ao, cap, rfl, hcl, hcm, _⟩ := EdsV.facts h
  obtain ⟨zo, zcap, rfl, hzl, _⟩ := IntsV.facts hz
  clear h hok hz hzok ha hb
  unfold evE
  by_cases h1 : 60 < l.length
  · have d1 : decide ((60 : Int) < (l.length : Int)) = true := decide_eq_true (by omega)
    go_enter Try.func3, Try.ntmps3
    go_wp2_with fail
    refine (works_any _).mono ?_
    rintro e w1 ⟨rfl, hf⟩
    have HF : Hid (Fx No w w1) := Lib.hid ((((Fx.refl No w).alloc _).alloc _).trans hf)
    clear hf
    go_wp2
    go_ret
    exact ⟨rfl, HF.out⟩
  · have d1 : decide ((60 : Int) < (l.length : Int)) = false := decide_eq_false (by omega)
    by_cases h2 : 60 < zs.length
    · have d2 : decide ((60 : Int) < (zs.length : Int)) = true := decide_eq_true (by omega)
      clear h1
      go_enter Try.func3, Try.ntmps3
      go_wp2_with fail
      refine (works_any _).mono ?_
      rintro e w1 ⟨rfl, hf⟩
      have HF : Hid (Fx No w w1) := Lib.hid ((((Fx.refl No w).alloc _).alloc _).trans hf)
      clear hf
      go_wp2
      go_ret
      exact ⟨rfl, HF.out⟩
    · have d2 : decide ((60 : Int) < (zs.length : Int)) = false := decide_eq_false (by omega)
      have hl60 : l.length ≤ 60 := by omega
      have hz60 : zs.length ≤ 60 := by omega
      clear h1 h2
      go_enter Try.func3, Try.ntmps3
      go_wp2_with fail
      refine calls_hold (fun W => Fx No w W ∧ W.heap.size = w.heap.size + 2 ∧ (W.cell? ⟨w.heap.size, 0, none⟩ = some (.int .i64 a.f) ∧ W.cell? ⟨w.heap.size, 1, none⟩ = some (.int .i64 a.t) ∧ W.cell? ⟨w.heap.size, 2, none⟩ = some (.int .i64 a.l)) ∧ (W.cell? ⟨w.heap.size + 1, 0, none⟩ = some (.int .i64 b.f) ∧ W.cell? ⟨w.heap.size + 1, 1, none⟩ = some (.int .i64 b.t) ∧ W.cell? ⟨w.heap.size + 1, 2, none⟩ = some (.int .i64 b.l))) ⟨((Fx.refl No _).alloc (.cells #[.int .i64 a.f, .int .i64 a.t, .int .i64 a.l] 25)).alloc (.cells #[.int .i64 b.f, .int .i64 b.t, .int .i64 b.l] 25), by simp, ⟨by go_simp, by go_simp, by go_simp⟩, ⟨by go_simp, by go_simp, by go_simp⟩⟩ ?_
      rintro wq ⟨hfq, hzq, hca, hcb⟩
      obtain ⟨ba, hba⟩ : ∃ q, q = w.heap.size := ⟨_, rfl⟩
      rw [← hba] at hca hcb ⊢
      obtain ⟨bb, hbb⟩ : ∃ q, q = ba + 1 := ⟨_, rfl⟩
      rw [← hbb] at hcb ⊢
      have HFq := Lib.hid hfq
      have HCa := Lib.hid hca
      have HCb := Lib.hid hcb
      clear hba hbb hzq hca hcb
      refine (drawn_any (HE.out.no hfq) HOk.out (by omega) n 20 (by omega)).mono ?_
      rintro e w1 ⟨gb, N, L, rv, D, R, rfl, hD, hN, hL⟩
      obtain ⟨ro, rc, rfl, _⟩ := EdsV.facts hD.row
      have HD1 := Lib.hid hD
      have hL60 : L.length ≤ 60 := by omega
      clear hfq hD
      go_wp2_with fail
      refine wp_hold (fun W => Fx No w1 W ∧ W.cell? ⟨w1.heap.size, 0, none⟩ = some (.int .i64 (N : Nat)) ∧ W.cell? ⟨w1.heap.size, 1, none⟩ = some (.slice ro L.length rc)) ⟨(Fx.refl No _).alloc _, by go_simp, by go_simp⟩ ?_
      rintro wx ⟨hfx, r0, r1⟩
      obtain ⟨rb, hrb⟩ : ∃ q, q = w1.heap.size := ⟨_, rfl⟩
      rw [← hrb] at r0 r1 ⊢
      have HD := Lib.hid (HD1.out.no hfx)
      have HR0 := Lib.hid r0
      have HR1 := Lib.hid r1
      have HRb : Hid (∀ j, D j → j < rb) := Lib.hid fun j hj => by rw [hrb]; exact HD1.out.g.lt j hj
      have hqx : Fx No wq wx := HD1.out.fx.trans hfx
      have HQx := Lib.hid hqx
      have ga0 : ∀ W, Fx No wx W → W.cell? ⟨ba, 0, none⟩ = some (.int .i64 a.f) := fun W h => (HQx.out.trans h).cell' HCa.out.1 (fun h => h)
      have ga1 : ∀ W, Fx No wx W → W.cell? ⟨ba, 1, none⟩ = some (.int .i64 a.t) := fun W h => (HQx.out.trans h).cell' HCa.out.2.1 (fun h => h)
      have ga2 : ∀ W, Fx No wx W → W.cell? ⟨ba, 2, none⟩ = some (.int .i64 a.l) := fun W h => (HQx.out.trans h).cell' HCa.out.2.2 (fun h => h)
      have gb0 : ∀ W, Fx No wx W → W.cell? ⟨bb, 0, none⟩ = some (.int .i64 b.f) := fun W h => (HQx.out.trans h).cell' HCb.out.1 (fun h => h)
      have gb1 : ∀ W, Fx No wx W → W.cell? ⟨bb, 1, none⟩ = some (.int .i64 b.t) := fun W h => (HQx.out.trans h).cell' HCb.out.2.1 (fun h => h)
      have gb2 : ∀ W, Fx No wx W → W.cell? ⟨bb, 2, none⟩ = some (.int .i64 b.l) := fun W h => (HQx.out.trans h).cell' HCb.out.2.2 (fun h => h)
      have CD : Hid (∀ W (v : Value) (E' : Nat → Prop), EdsV W E' v [a, b] → Calls Try.prog 10 #[v] W fun e w' => ∃ dg dc, e = .returned (.slice (some ⟨dg, 0, none⟩) 2 dc) ∧ Fx No W w' ∧ W.heap.size ≤ dg ∧ Two3 w' dg a b) := Lib.hid fun W v E' h => (docEdges_any h (by simp)).mono fun e w' ⟨v', h1, h2, h3⟩ => by
        obtain ⟨dg, dc, rfl, h4, _⟩ := ownsRow_pos h3 (by simp)
        refine ⟨dg, dc, h1, h2, h4, ?_, ?_, ?_, ?_, ?_, ?_⟩
        · have := h3.cells (g := dg) rfl 0 (.int .i64 a.f) rfl; simpa [Addr.add_lit] using this
        · have := h3.cells (g := dg) rfl 1 (.int .i64 a.t) rfl; simpa [Addr.add_lit] using this
        · have := h3.cells (g := dg) rfl 2 (.int .i64 a.l) rfl; simpa [Addr.add_lit] using this
        · have := h3.cells (g := dg) rfl 3 (.int .i64 b.f) rfl; simpa [Addr.add_lit] using this
        · have := h3.cells (g := dg) rfl 4 (.int .i64 b.t) rfl; simpa [Addr.add_lit] using this
        · have := h3.cells (g := dg) rfl 5 (.int .i64 b.l) rfl; simpa [Addr.add_lit] using this
      clear hfx r0 r1 hqx hrb
      go_wp2_with fail
      refine wp_region_inv (act := ?act) (Inv := T4I wx a b) (by kernel_rfl) (by kernel_rfl) (by kernel_rfl) ?hact ?h0 ?hs ?hdone
      case hact => intro x; simp only [actX, setAll, List.setIfInBounds_toArray, List.set_cons_zero, List.set_cons_succ]; rfl
      case h0 => exact ⟨(Fx.refl _ _).drew, fun h0 => Bool.noConfusion h0, fun h0 => Bool.noConfusion h0, fun h0 h1 => Bool.noConfusion h0, fun h0 h1 => Bool.noConfusion h0, fun h0 => Bool.noConfusion h0, fun h0 => Bool.noConfusion h0, fun h0 => Bool.noConfusion h0, fun h0 => Bool.noConfusion h0, fun h0 h1 => Bool.noConfusion h0, fun h0 h1 => Bool.noConfusion h0, fun h0 => Bool.noConfusion h0, fun h0 => Bool.noConfusion h0, fun h0 h1 => Bool.noConfusion h0, fun h0 h1 => Bool.noConfusion h0, fun h0 h1 => Bool.noConfusion h0, fun h0 h1 => Bool.noConfusion h0, fun h0 => Bool.noConfusion h0, fun h0 => Bool.noConfusion h0⟩
      case hs =>
        refine ⟨?_, ?_, ?_, ?_, ?_, ?_, ?_, ?_, ?_, ?_, ?_, ?_, ?_, ?_, ?_, ?_, trivial⟩
        · intro LL xx ww hI hL hD hC K hK
          dsimp only at hK ⊢
          have n2 : LL 2 = false := off_of hC hL 2 (by kernel_rfl)
          have n3 : LL 3 = false := off_of hC n2 3 (by kernel_rfl)
          have n4 : LL 4 = false := off_of hC n3 4 (by kernel_rfl)
          have n5 : LL 5 = false := off_of hC n4 5 (by kernel_rfl)
          have n9 : LL 9 = false := off_of hC n3 9 (by kernel_rfl)
          have n10 : LL 10 = false := off_of hC n9 10 (by kernel_rfl)
          have n11 : LL 11 = false := off_of hC n10 11 (by kernel_rfl)
          have n14 : LL 14 = false := off_of hC hL 14 (by kernel_rfl)
          have n15 : LL 15 = false := off_of hC hL 15 (by kernel_rfl)
          have p0 := ga0 _ hI.base
          have p1 := ga1 _ hI.base
          have p2 := ga2 _ hI.base
          clear hD hC
          go_simp
          refine hK.out (.agg #[.int .i64 a.f, .int .i64 a.t, .int .i64 a.l]) _ _ rfl ⟨hI.base, fun h0 => rfl, hI.f1, fun h0 h1 => Bool.noConfusion ((show false = LL 2 from n2.symm).trans h0), fun h0 h1 => Bool.noConfusion ((show false = LL 3 from n3.symm).trans h0), fun h0 => Bool.noConfusion ((show false = LL 4 from n4.symm).trans h0), fun h0 => Bool.noConfusion ((show false = LL 5 from n5.symm).trans h0), hI.f6, hI.f7, hI.f8, fun h0 h1 => Bool.noConfusion ((show false = LL 9 from n9.symm).trans h0), fun h0 => Bool.noConfusion ((show false = LL 10 from n10.symm).trans h0), fun h0 => Bool.noConfusion ((show false = LL 11 from n11.symm).trans h0), hI.f12, hI.f13, hI.n1, fun h0 h1 => Bool.noConfusion ((show false = LL 9 from n9.symm).trans h0), fun h0 => Bool.noConfusion ((show false = LL 14 from n14.symm).trans h0), fun h0 => Bool.noConfusion ((show false = LL 15 from n15.symm).trans h0)⟩
        · intro LL xx ww hI hL hD hC K hK
          dsimp only at hK ⊢
          have n2 : LL 2 = false := off_of hC hL 2 (by kernel_rfl)
          have n3 : LL 3 = false := off_of hC n2 3 (by kernel_rfl)
          have n4 : LL 4 = false := off_of hC n3 4 (by kernel_rfl)
          have n5 : LL 5 = false := off_of hC n4 5 (by kernel_rfl)
          have n9 : LL 9 = false := off_of hC n3 9 (by kernel_rfl)
          have n10 : LL 10 = false := off_of hC n9 10 (by kernel_rfl)
          have n11 : LL 11 = false := off_of hC n10 11 (by kernel_rfl)
          have n14 : LL 14 = false := off_of hC hL 14 (by kernel_rfl)
          have n15 : LL 15 = false := off_of hC hL 15 (by kernel_rfl)
          have p0 := gb0 _ hI.base
          have p1 := gb1 _ hI.base
          have p2 := gb2 _ hI.base
          clear hD hC
          go_simp
          refine hK.out (.agg #[.int .i64 b.f, .int .i64 b.t, .int .i64 b.l]) _ _ rfl ⟨hI.base, hI.f0, fun h0 => rfl, fun h0 h1 => Bool.noConfusion ((show false = LL 2 from n2.symm).trans h0), fun h0 h1 => Bool.noConfusion ((show false = LL 3 from n3.symm).trans h0), fun h0 => Bool.noConfusion ((show false = LL 4 from n4.symm).trans h0), fun h0 => Bool.noConfusion ((show false = LL 5 from n5.symm).trans h0), hI.f6, hI.f7, hI.f8, fun h0 h1 => Bool.noConfusion ((show false = LL 9 from n9.symm).trans h0), fun h0 => Bool.noConfusion ((show false = LL 10 from n10.symm).trans h0), fun h0 => Bool.noConfusion ((show false = LL 11 from n11.symm).trans h0), hI.f12, hI.f13, hI.n1, fun h0 h1 => Bool.noConfusion ((show false = LL 9 from n9.symm).trans h0), fun h0 => Bool.noConfusion ((show false = LL 14 from n14.symm).trans h0), fun h0 => Bool.noConfusion ((show false = LL 15 from n15.symm).trans h0)⟩
        · intro LL xx ww hI hL hD hC K hK
          dsimp only at hK ⊢
          have d0 : LL 0 = true := dep_of hD 0 (by kernel_rfl)
          have d1 : LL 1 = true := dep_of hD 1 (by kernel_rfl)
          have n3 : LL 3 = false := off_of hC hL 3 (by kernel_rfl)
          have n4 : LL 4 = false := off_of hC n3 4 (by kernel_rfl)
          have n5 : LL 5 = false := off_of hC n4 5 (by kernel_rfl)
          have n9 : LL 9 = false := off_of hC n3 9 (by kernel_rfl)
          have n10 : LL 10 = false := off_of hC n9 10 (by kernel_rfl)
          have n11 : LL 11 = false := off_of hC n10 11 (by kernel_rfl)
          have n14 : LL 14 = false := off_of hC hL 14 (by kernel_rfl)
          have n15 : LL 15 = false := off_of hC hL 15 (by kernel_rfl)
          have e1 := hI.f0 d0
          have e2 := hI.f1 d1
          have hfi : Fx No ww (ww.alloc (.cells #[.int .i64 a.f, .int .i64 a.t, .int .i64 a.l, .int .i64 b.f, .int .i64 b.t, .int .i64 b.l] 25)) := (Fx.refl No _).alloc _
          simp only [e1, e2] at hK ⊢
          clear hD hC
          go_simp
          refine hK.out (.slice (some ⟨ww.heap.size, 0, none⟩) 2 2) _ _ rfl ⟨hI.base.trans hfi, hI.f0, hI.f1, fun h0 h1 => ⟨_, rfl, SlV.lit ww 25 #[.int .i64 a.f, .int .i64 a.t, .int .i64 a.l, .int .i64 b.f, .int .i64 b.t, .int .i64 b.l] 3 2 rfl (by unfold maxLen; omega)⟩, fun h0 h1 => Bool.noConfusion ((show false = LL 3 from n3.symm).trans h0), fun h0 => Bool.noConfusion ((show false = LL 4 from n4.symm).trans h0), fun h0 => Bool.noConfusion ((show false = LL 5 from n5.symm).trans h0), hI.f6, hI.f7, fun h0 h1 => (let ⟨q, e, h⟩ := (hI.f8 h0 h1); ⟨q, e, RowV.no h hfi⟩), fun h0 h1 => Bool.noConfusion ((show false = LL 9 from n9.symm).trans h0), fun h0 => Bool.noConfusion ((show false = LL 10 from n10.symm).trans h0), fun h0 => Bool.noConfusion ((show false = LL 11 from n11.symm).trans h0), fun h0 h1 => (let ⟨q, e, h1, h⟩ := (hI.f12 h0 h1); ⟨q, e, h1, h.fx hfi (fun h => h)⟩), fun h0 h1 => (let ⟨q, e, h1, h⟩ := (hI.f13 h0 h1); ⟨q, e, h1, h.fx hfi (fun h => h)⟩), hI.n1, fun h0 h1 => Bool.noConfusion ((show false = LL 9 from n9.symm).trans h0), fun h0 => Bool.noConfusion ((show false = LL 14 from n14.symm).trans h0), fun h0 => Bool.noConfusion ((show false = LL 15 from n15.symm).trans h0)⟩
        · intro LL xx ww hI hL hD hC K hK
          dsimp only at hK ⊢
          have d2 : LL 2 = true := dep_of hD 2 (by kernel_rfl)
          have n4 : LL 4 = false := off_of hC hL 4 (by kernel_rfl)
          have n5 : LL 5 = false := off_of hC n4 5 (by kernel_rfl)
          have n9 : LL 9 = false := off_of hC hL 9 (by kernel_rfl)
          have n10 : LL 10 = false := off_of hC n9 10 (by kernel_rfl)
          have n11 : LL 11 = false := off_of hC n10 11 (by kernel_rfl)
          have n14 : LL 14 = false := off_of hC hL 14 (by kernel_rfl)
          have n15 : LL 15 = false := off_of hC hL 15 (by kernel_rfl)
          obtain ⟨q, e1, h2⟩ := hI.f2 d2 hL
          simp only [e1] at hK ⊢
          clear hD hC
          go_simp
          refine (CD.out _ _ _ h2).mono ?_
          rintro e w' ⟨dg, dc, rfl, hfi, hlo, hd⟩
          refine hK.out (.slice (some ⟨dg, 0, none⟩) 2 dc) _ _ rfl ⟨hI.base.trans hfi, hI.f0, hI.f1, fun h0 h1 => Bool.noConfusion (show true = false from h1), fun h0 h1 => ⟨dg, dc, rfl, hd⟩, fun h0 => Bool.noConfusion ((show false = LL 4 from n4.symm).trans h0), fun h0 => Bool.noConfusion ((show false = LL 5 from n5.symm).trans h0), hI.f6, hI.f7, fun h0 h1 => (let ⟨q, e, h⟩ := (hI.f8 h0 h1); ⟨q, e, RowV.no h hfi⟩), fun h0 h1 => Bool.noConfusion ((show false = LL 9 from n9.symm).trans h0), fun h0 => Bool.noConfusion ((show false = LL 10 from n10.symm).trans h0), fun h0 => Bool.noConfusion ((show false = LL 11 from n11.symm).trans h0), fun h0 h1 => (let ⟨q, e, h1, h⟩ := (hI.f12 h0 h1); ⟨q, e, h1, h.fx hfi (fun h => h)⟩), fun h0 h1 => (let ⟨q, e, h1, h⟩ := (hI.f13 h0 h1); ⟨q, e, h1, h.fx hfi (fun h => h)⟩), hI.n1, fun h0 h1 => Bool.noConfusion ((show false = LL 9 from n9.symm).trans h0), fun h0 => Bool.noConfusion ((show false = LL 14 from n14.symm).trans h0), fun h0 => Bool.noConfusion ((show false = LL 15 from n15.symm).trans h0)⟩
        · intro LL xx ww hI hL hD hC K hK
          dsimp only at hK ⊢
          have d3 : LL 3 = true := dep_of hD 3 (by kernel_rfl)
          have n5 : LL 5 = false := off_of hC hL 5 (by kernel_rfl)
          have n14 : LL 14 = false := off_of hC hL 14 (by kernel_rfl)
          have n15 : LL 15 = false := off_of hC hL 15 (by kernel_rfl)
          obtain ⟨dg, dc, e3, _⟩ := hI.f3 d3 n14
          simp only [e3] at hK ⊢
          clear hD hC
          go_simp
          refine hK.out (.pointer (some ⟨dg, 0, none⟩)) _ _ rfl ⟨hI.base, hI.f0, hI.f1, hI.f2, hI.f3, fun h0 => ⟨dg, dc, e3, rfl⟩, fun h0 => Bool.noConfusion ((show false = LL 5 from n5.symm).trans h0), hI.f6, hI.f7, hI.f8, hI.f9, hI.f10, hI.f11, hI.f12, hI.f13, hI.n1, hI.n2, fun h0 => Bool.noConfusion ((show false = LL 14 from n14.symm).trans h0), fun h0 => Bool.noConfusion ((show false = LL 15 from n15.symm).trans h0)⟩
        · intro LL xx ww hI hL hD hC K hK
          dsimp only at hK ⊢
          have d4 : LL 4 = true := dep_of hD 4 (by kernel_rfl)
          have n14 : LL 14 = false := off_of hC hL 14 (by kernel_rfl)
          have n15 : LL 15 = false := off_of hC hL 15 (by kernel_rfl)
          have d3 : LL 3 = true := hC 4 _ rfl d4 { on := 3, ground := .data } (by simp) rfl
          obtain ⟨dg, dc, e3, e4⟩ := hI.f4 d4
          obtain ⟨dg', dc', e3', hd⟩ := hI.f3 d3 n14
          rw [e3] at e3'
          obtain ⟨rfl, rfl⟩ : dg = dg' ∧ dc = dc' := by simpa using e3'
          obtain ⟨q0, q1, q2, _⟩ := hd
          clear e3 e3'
          simp only [e4] at hK ⊢
          clear hD hC
          go_simp
          refine hK.out (.agg #[.int .i64 a.f, .int .i64 a.t, .int .i64 a.l]) _ _ rfl ⟨hI.base, hI.f0, hI.f1, hI.f2, hI.f3, hI.f4, fun h0 => rfl, hI.f6, hI.f7, hI.f8, hI.f9, hI.f10, hI.f11, hI.f12, hI.f13, hI.n1, hI.n2, fun h0 => Bool.noConfusion ((show false = LL 14 from n14.symm).trans h0), fun h0 => Bool.noConfusion ((show false = LL 15 from n15.symm).trans h0)⟩
        · intro LL xx ww hI hL hD hC K hK
          dsimp only at hK ⊢
          have n8 : LL 8 = false := off_of hC hL 8 (by kernel_rfl)
          have n9 : LL 9 = false := off_of hC n8 9 (by kernel_rfl)
          have n10 : LL 10 = false := off_of hC n9 10 (by kernel_rfl)
          have n11 : LL 11 = false := off_of hC n10 11 (by kernel_rfl)
          have n14 : LL 14 = false := off_of hC n9 14 (by kernel_rfl)
          have n15 : LL 15 = false := off_of hC hL 15 (by kernel_rfl)
          have p0 := ga0 _ hI.base
          have p1 := ga1 _ hI.base
          have p2 := ga2 _ hI.base
          clear hD hC
          go_simp
          refine hK.out (.agg #[.int .i64 a.f, .int .i64 a.t, .int .i64 a.l]) _ _ rfl ⟨hI.base, hI.f0, hI.f1, hI.f2, hI.f3, hI.f4, hI.f5, fun h0 => rfl, hI.f7, fun h0 h1 => Bool.noConfusion ((show false = LL 8 from n8.symm).trans h0), fun h0 h1 => Bool.noConfusion ((show false = LL 9 from n9.symm).trans h0), fun h0 => Bool.noConfusion ((show false = LL 10 from n10.symm).trans h0), fun h0 => Bool.noConfusion ((show false = LL 11 from n11.symm).trans h0), hI.f12, hI.f13, hI.n1, fun h0 h1 => Bool.noConfusion ((show false = LL 9 from n9.symm).trans h0), fun h0 => Bool.noConfusion ((show false = LL 14 from n14.symm).trans h0), fun h0 => Bool.noConfusion ((show false = LL 15 from n15.symm).trans h0)⟩
        · intro LL xx ww hI hL hD hC K hK
          dsimp only at hK ⊢
          have n8 : LL 8 = false := off_of hC hL 8 (by kernel_rfl)
          have n9 : LL 9 = false := off_of hC n8 9 (by kernel_rfl)
          have n10 : LL 10 = false := off_of hC n9 10 (by kernel_rfl)
          have n11 : LL 11 = false := off_of hC n10 11 (by kernel_rfl)
          have n14 : LL 14 = false := off_of hC n9 14 (by kernel_rfl)
          have n15 : LL 15 = false := off_of hC hL 15 (by kernel_rfl)
          have p0 := gb0 _ hI.base
          have p1 := gb1 _ hI.base
          have p2 := gb2 _ hI.base
          clear hD hC
          go_simp
          refine hK.out (.agg #[.int .i64 b.f, .int .i64 b.t, .int .i64 b.l]) _ _ rfl ⟨hI.base, hI.f0, hI.f1, hI.f2, hI.f3, hI.f4, hI.f5, hI.f6, fun h0 => rfl, fun h0 h1 => Bool.noConfusion ((show false = LL 8 from n8.symm).trans h0), fun h0 h1 => Bool.noConfusion ((show false = LL 9 from n9.symm).trans h0), fun h0 => Bool.noConfusion ((show false = LL 10 from n10.symm).trans h0), fun h0 => Bool.noConfusion ((show false = LL 11 from n11.symm).trans h0), hI.f12, hI.f13, hI.n1, fun h0 h1 => Bool.noConfusion ((show false = LL 9 from n9.symm).trans h0), fun h0 => Bool.noConfusion ((show false = LL 14 from n14.symm).trans h0), fun h0 => Bool.noConfusion ((show false = LL 15 from n15.symm).trans h0)⟩
        · intro LL xx ww hI hL hD hC K hK
          dsimp only at hK ⊢
          have d6 : LL 6 = true := dep_of hD 6 (by kernel_rfl)
          have d7 : LL 7 = true := dep_of hD 7 (by kernel_rfl)
          have n9 : LL 9 = false := off_of hC hL 9 (by kernel_rfl)
          have n10 : LL 10 = false := off_of hC n9 10 (by kernel_rfl)
          have n11 : LL 11 = false := off_of hC n10 11 (by kernel_rfl)
          have n14 : LL 14 = false := off_of hC n9 14 (by kernel_rfl)
          have n15 : LL 15 = false := off_of hC hL 15 (by kernel_rfl)
          have e1 := hI.f6 d6
          have e2 := hI.f7 d7
          have hfi : Fx No ww (ww.alloc (.cells #[.int .i64 a.f, .int .i64 a.t, .int .i64 a.l, .int .i64 b.f, .int .i64 b.t, .int .i64 b.l] 25)) := (Fx.refl No _).alloc _
          simp only [e1, e2] at hK ⊢
          clear hD hC
          go_simp
          refine hK.out (.slice (some ⟨ww.heap.size, 0, none⟩) 2 2) _ _ rfl ⟨hI.base.trans hfi, hI.f0, hI.f1, fun h0 h1 => (let ⟨q, e, h⟩ := (hI.f2 h0 h1); ⟨q, e, RowV.no h hfi⟩), fun h0 h1 => (let ⟨q, c, e, h⟩ := (hI.f3 h0 h1); ⟨q, c, e, h.fx hfi (fun h => h)⟩), hI.f4, hI.f5, hI.f6, hI.f7, fun h0 h1 => ⟨_, rfl, SlV.lit ww 25 #[.int .i64 a.f, .int .i64 a.t, .int .i64 a.l, .int .i64 b.f, .int .i64 b.t, .int .i64 b.l] 3 2 rfl (by unfold maxLen; omega)⟩, fun h0 h1 => Bool.noConfusion ((show false = LL 9 from n9.symm).trans h0), fun h0 => Bool.noConfusion ((show false = LL 10 from n10.symm).trans h0), fun h0 => Bool.noConfusion ((show false = LL 11 from n11.symm).trans h0), fun h0 h1 => (let ⟨q, e, h1, h⟩ := (hI.f12 h0 h1); ⟨q, e, h1, h.fx hfi (fun h => h)⟩), fun h0 h1 => (let ⟨q, e, h1, h⟩ := (hI.f13 h0 h1); ⟨q, e, h1, h.fx hfi (fun h => h)⟩), hI.n1, fun h0 h1 => Bool.noConfusion ((show false = LL 9 from n9.symm).trans h0), fun h0 => Bool.noConfusion ((show false = LL 14 from n14.symm).trans h0), fun h0 => Bool.noConfusion ((show false = LL 15 from n15.symm).trans h0)⟩
        · intro LL xx ww hI hL hD hC K hK
          dsimp only at hK ⊢
          have d3 : LL 3 = true := dep_of hD 3 (by kernel_rfl)
          have d8 : LL 8 = true := dep_of hD 8 (by kernel_rfl)
          have n10 : LL 10 = false := off_of hC hL 10 (by kernel_rfl)
          have n11 : LL 11 = false := off_of hC n10 11 (by kernel_rfl)
          have n14 : LL 14 = false := off_of hC hL 14 (by kernel_rfl)
          have n15 : LL 15 = false := off_of hC hL 15 (by kernel_rfl)
          obtain ⟨q, e1, h2⟩ := hI.f8 d8 hL
          simp only [e1] at hK ⊢
          clear hD hC
          go_simp
          refine (CD.out _ _ _ h2).mono ?_
          rintro e w' ⟨dg, dc, rfl, hfi, hlo, hd⟩
          refine hK.out (.slice (some ⟨dg, 0, none⟩) 2 dc) _ _ rfl ⟨hI.base.trans hfi, hI.f0, hI.f1, fun h0 h1 => Bool.noConfusion ((show true = LL 3 from d3.symm).trans h1), fun h0 h1 => (let ⟨q, c, e, h⟩ := (hI.f3 h0 h1); ⟨q, c, e, h.fx hfi (fun h => h)⟩), hI.f4, hI.f5, hI.f6, hI.f7, fun h0 h1 => Bool.noConfusion (show true = false from h1), fun h0 h1 => ⟨dg, dc, rfl, hd⟩, fun h0 => Bool.noConfusion ((show false = LL 10 from n10.symm).trans h0), fun h0 => Bool.noConfusion ((show false = LL 11 from n11.symm).trans h0), fun h0 h1 => (let ⟨q, e, h1, h⟩ := (hI.f12 h0 h1); ⟨q, e, h1, h.fx hfi (fun h => h)⟩), fun h0 h1 => (let ⟨q, e, h1, h⟩ := (hI.f13 h0 h1); ⟨q, e, h1, h.fx hfi (fun h => h)⟩), hI.n1, fun h0 h1 => fun dg' dc' q e1 e2 => (by
              have e1 : Value.slice (some ⟨dg, 0, none⟩) 2 dc = .slice (some ⟨dg', 0, none⟩) 2 dc' := e1
              obtain ⟨rfl, _⟩ : dg = dg' ∧ dc = dc' := by simpa using e1
              obtain ⟨q', e3, _, h4⟩ := hI.f12 h1 n14
              have e2 : xx 12 = .pointer (some ⟨q, 0, none⟩) := e2
              rw [e3] at e2
              obtain rfl : q' = q := by simpa using e2
              have := h4.lt
              omega), fun h0 => Bool.noConfusion ((show false = LL 14 from n14.symm).trans h0), fun h0 => Bool.noConfusion ((show false = LL 15 from n15.symm).trans h0)⟩
        · intro LL xx ww hI hL hD hC K hK
          dsimp only at hK ⊢
          have d9 : LL 9 = true := dep_of hD 9 (by kernel_rfl)
          have n11 : LL 11 = false := off_of hC hL 11 (by kernel_rfl)
          have n15 : LL 15 = false := off_of hC hL 15 (by kernel_rfl)
          obtain ⟨dg, dc, e3, _⟩ := hI.f9 d9 n15
          simp only [e3] at hK ⊢
          clear hD hC
          go_simp
          refine hK.out (.pointer (some ⟨dg, 3, none⟩)) _ _ rfl ⟨hI.base, hI.f0, hI.f1, hI.f2, hI.f3, hI.f4, hI.f5, hI.f6, hI.f7, hI.f8, hI.f9, fun h0 => ⟨dg, dc, e3, rfl⟩, fun h0 => Bool.noConfusion ((show false = LL 11 from n11.symm).trans h0), hI.f12, hI.f13, hI.n1, hI.n2, hI.f14, fun h0 => Bool.noConfusion ((show false = LL 15 from n15.symm).trans h0)⟩
        · intro LL xx ww hI hL hD hC K hK
          dsimp only at hK ⊢
          have d10 : LL 10 = true := dep_of hD 10 (by kernel_rfl)
          have n15 : LL 15 = false := off_of hC hL 15 (by kernel_rfl)
          have d9 : LL 9 = true := hC 10 _ rfl d10 { on := 9, ground := .data } (by simp) rfl
          obtain ⟨dg, dc, e3, e4⟩ := hI.f10 d10
          obtain ⟨dg', dc', e3', hd⟩ := hI.f9 d9 n15
          rw [e3] at e3'
          obtain ⟨rfl, rfl⟩ : dg = dg' ∧ dc = dc' := by simpa using e3'
          obtain ⟨_, _, _, q3, q4, q5⟩ := hd
          clear e3 e3'
          simp only [e4] at hK ⊢
          clear hD hC
          go_simp
          refine hK.out (.agg #[.int .i64 b.f, .int .i64 b.t, .int .i64 b.l]) _ _ rfl ⟨hI.base, hI.f0, hI.f1, hI.f2, hI.f3, hI.f4, hI.f5, hI.f6, hI.f7, hI.f8, hI.f9, hI.f10, fun h0 => rfl, hI.f12, hI.f13, hI.n1, hI.n2, hI.f14, fun h0 => Bool.noConfusion ((show false = LL 15 from n15.symm).trans h0)⟩
        · intro LL xx ww hI hL hD hC K hK
          dsimp only at hK ⊢
          have n14 : LL 14 = false := off_of hC hL 14 (by kernel_rfl)
          have n15 : LL 15 = false := off_of hC hL 15 (by kernel_rfl)
          have hfi : Fx No ww (ww.alloc (.cells #[.int .i64 0, .int .i64 0, .int .i64 0] 33)) := (Fx.refl No _).alloc _
          clear hD hC
          go_simp
          refine hK.out (.pointer (some ⟨ww.heap.size, 0, none⟩)) _ _ rfl ⟨hI.base.trans hfi, hI.f0, hI.f1, fun h0 h1 => (let ⟨q, e, h⟩ := (hI.f2 h0 h1); ⟨q, e, RowV.no h hfi⟩), fun h0 h1 => (let ⟨q, c, e, h⟩ := (hI.f3 h0 h1); ⟨q, c, e, h.fx hfi (fun h => h)⟩), hI.f4, hI.f5, hI.f6, hI.f7, fun h0 h1 => (let ⟨q, e, h⟩ := (hI.f8 h0 h1); ⟨q, e, RowV.no h hfi⟩), fun h0 h1 => (let ⟨q, c, e, h⟩ := (hI.f9 h0 h1); ⟨q, c, e, h.fx hfi (fun h => h)⟩), hI.f10, hI.f11, fun h0 h1 => ⟨_, rfl, hI.base.size, Box3.alloc ww _⟩, fun h0 h1 => (let ⟨q, e, h1, h⟩ := (hI.f13 h0 h1); ⟨q, e, h1, h.fx hfi (fun h => h)⟩), fun h0 h1 => fun p q e1 e2 => (by
              have e1 : Value.pointer (some ⟨ww.heap.size, 0, none⟩) = .pointer (some ⟨p, 0, none⟩) := e1
              obtain rfl : ww.heap.size = p := by simpa using e1
              obtain ⟨q', e3, _, h4⟩ := hI.f13 h1 n15
              have e2 : xx 13 = .pointer (some ⟨q, 0, none⟩) := e2
              rw [e3] at e2
              obtain rfl : q' = q := by simpa using e2
              have := h4.lt
              omega), fun h0 h1 => fun dg dc q e1 e2 => (by
              have e2 : Value.pointer (some ⟨ww.heap.size, 0, none⟩) = .pointer (some ⟨q, 0, none⟩) := e2
              obtain rfl : ww.heap.size = q := by simpa using e2
              obtain ⟨dg', dc', e3, h4⟩ := hI.f9 h0 n15
              have e1 : xx 9 = .slice (some ⟨dg, 0, none⟩) 2 dc := e1
              rw [e3] at e1
              obtain ⟨rfl, _⟩ : dg' = dg ∧ dc' = dc := by simpa using e1
              have := h4.lt
              omega), fun h0 => Bool.noConfusion ((show false = LL 14 from n14.symm).trans h0), fun h0 => Bool.noConfusion ((show false = LL 15 from n15.symm).trans h0)⟩
        · intro LL xx ww hI hL hD hC K hK
          dsimp only at hK ⊢
          have n14 : LL 14 = false := off_of hC hL 14 (by kernel_rfl)
          have n15 : LL 15 = false := off_of hC hL 15 (by kernel_rfl)
          have hfi : Fx No ww (ww.alloc (.cells #[.int .i64 0, .int .i64 0, .int .i64 0] 33)) := (Fx.refl No _).alloc _
          clear hD hC
          go_simp
          refine hK.out (.pointer (some ⟨ww.heap.size, 0, none⟩)) _ _ rfl ⟨hI.base.trans hfi, hI.f0, hI.f1, fun h0 h1 => (let ⟨q, e, h⟩ := (hI.f2 h0 h1); ⟨q, e, RowV.no h hfi⟩), fun h0 h1 => (let ⟨q, c, e, h⟩ := (hI.f3 h0 h1); ⟨q, c, e, h.fx hfi (fun h => h)⟩), hI.f4, hI.f5, hI.f6, hI.f7, fun h0 h1 => (let ⟨q, e, h⟩ := (hI.f8 h0 h1); ⟨q, e, RowV.no h hfi⟩), fun h0 h1 => (let ⟨q, c, e, h⟩ := (hI.f9 h0 h1); ⟨q, c, e, h.fx hfi (fun h => h)⟩), hI.f10, hI.f11, fun h0 h1 => (let ⟨q, e, h1, h⟩ := (hI.f12 h0 h1); ⟨q, e, h1, h.fx hfi (fun h => h)⟩), fun h0 h1 => ⟨_, rfl, hI.base.size, Box3.alloc ww _⟩, fun h0 h1 => fun p q e1 e2 => (by
              have e2 : Value.pointer (some ⟨ww.heap.size, 0, none⟩) = .pointer (some ⟨q, 0, none⟩) := e2
              obtain rfl : ww.heap.size = q := by simpa using e2
              obtain ⟨q', e3, _, h4⟩ := hI.f12 h0 n14
              have e1 : xx 12 = .pointer (some ⟨p, 0, none⟩) := e1
              rw [e3] at e1
              obtain rfl : q' = p := by simpa using e1
              have := h4.lt
              omega), hI.n2, fun h0 => Bool.noConfusion ((show false = LL 14 from n14.symm).trans h0), fun h0 => Bool.noConfusion ((show false = LL 15 from n15.symm).trans h0)⟩
        · intro LL xx ww hI hL hD hC K hK
          dsimp only at hK ⊢
          have d0 : LL 0 = true := dep_of hD 0 (by kernel_rfl)
          have d1 : LL 1 = true := dep_of hD 1 (by kernel_rfl)
          have d2 : LL 2 = true := dep_of hD 2 (by kernel_rfl)
          have d3 : LL 3 = true := dep_of hD 3 (by kernel_rfl)
          have d4 : LL 4 = true := dep_of hD 4 (by kernel_rfl)
          have d5 : LL 5 = true := dep_of hD 5 (by kernel_rfl)
          have d9 : LL 9 = true := dep_of hD 9 (by kernel_rfl)
          have d12 : LL 12 = true := dep_of hD 12 (by kernel_rfl)
          have d13 : LL 13 = true := dep_of hD 13 (by kernel_rfl)
          have n15 : LL 15 = false := off_of hC hL 15 (by kernel_rfl)
          obtain ⟨q, e12, hq, u0, u1, u2, hb⟩ := hI.f12 d12 hL
          obtain ⟨b0, b1, b2, z0, z1, z2⟩ := hb
          have e5 := hI.f5 d5
          obtain ⟨k0, k1, k2⟩ := put_three ww (.int .i64 a.f) (.int .i64 a.t) (.int .i64 a.l) b0 b1 b2
          have HK := Lib.hid (And.intro k0 (And.intro k1 k2))
          have HP3 : Hid (Fx (fun j => j = q) ww (((ww.setCell ⟨q, 0, none⟩ (.int .i64 a.f)).setCell ⟨q, 1, none⟩ (.int .i64 a.t)).setCell ⟨q, 2, none⟩ (.int .i64 a.l))) := Lib.hid (((Fx.put _ _ _ _).trans (Fx.put _ _ _ _)).trans (Fx.put _ _ _ _))
          have HE12 := Lib.hid e12
          clear k0 k1 k2
          simp only [e12, e5] at hK ⊢
          clear e12 e5
          clear hD hC
          go_simp
          refine hK.out (undef) _ _ rfl ⟨hI.base.setCells3 _ _ _ hq, hI.f0, hI.f1, fun h0 h1 => Bool.noConfusion ((show true = LL 3 from d3.symm).trans h1), fun h0 h1 => Bool.noConfusion (show true = false from h1), hI.f4, hI.f5, hI.f6, hI.f7, fun h0 h1 => Bool.noConfusion ((show true = LL 9 from d9.symm).trans h1), fun h0 h1 => (let ⟨dg, dc, e, h⟩ := hI.f9 h0 h1; ⟨dg, dc, e, h.fx HP3.out (hI.n2 h0 d12 dg dc q e HE12.out)⟩), hI.f10, hI.f11, fun h0 h1 => Bool.noConfusion (show true = false from h1), fun h0 h1 => (let ⟨p, e, h2, h⟩ := hI.f13 h0 h1; ⟨p, e, h2, h.fx HP3.out (fun e2 => hI.n1 d12 h0 q p HE12.out e e2.symm)⟩), hI.n1, hI.n2, fun h0 => ⟨q, HE12.out, hq, HK.out⟩, fun h0 => Bool.noConfusion ((show false = LL 15 from n15.symm).trans h0)⟩
        · intro LL xx ww hI hL hD hC K hK
          dsimp only at hK ⊢
          have d0 : LL 0 = true := dep_of hD 0 (by kernel_rfl)
          have d1 : LL 1 = true := dep_of hD 1 (by kernel_rfl)
          have d2 : LL 2 = true := dep_of hD 2 (by kernel_rfl)
          have d3 : LL 3 = true := dep_of hD 3 (by kernel_rfl)
          have d4 : LL 4 = true := dep_of hD 4 (by kernel_rfl)
          have d5 : LL 5 = true := dep_of hD 5 (by kernel_rfl)
          have d6 : LL 6 = true := dep_of hD 6 (by kernel_rfl)
          have d7 : LL 7 = true := dep_of hD 7 (by kernel_rfl)
          have d8 : LL 8 = true := dep_of hD 8 (by kernel_rfl)
          have d9 : LL 9 = true := dep_of hD 9 (by kernel_rfl)
          have d10 : LL 10 = true := dep_of hD 10 (by kernel_rfl)
          have d11 : LL 11 = true := dep_of hD 11 (by kernel_rfl)
          have d12 : LL 12 = true := dep_of hD 12 (by kernel_rfl)
          have d13 : LL 13 = true := dep_of hD 13 (by kernel_rfl)
          have d14 : LL 14 = true := dep_of hD 14 (by kernel_rfl)
          obtain ⟨q, e13, hq, u0, u1, u2, hb⟩ := hI.f13 d13 hL
          obtain ⟨b0, b1, b2, z0, z1, z2⟩ := hb
          have e11 := hI.f11 d11
          obtain ⟨k0, k1, k2⟩ := put_three ww (.int .i64 b.f) (.int .i64 b.t) (.int .i64 b.l) b0 b1 b2
          have HK := Lib.hid (And.intro k0 (And.intro k1 k2))
          have HP3 : Hid (Fx (fun j => j = q) ww (((ww.setCell ⟨q, 0, none⟩ (.int .i64 b.f)).setCell ⟨q, 1, none⟩ (.int .i64 b.t)).setCell ⟨q, 2, none⟩ (.int .i64 b.l))) := Lib.hid (((Fx.put _ _ _ _).trans (Fx.put _ _ _ _)).trans (Fx.put _ _ _ _))
          have HE13 := Lib.hid e13
          clear k0 k1 k2
          simp only [e13, e11] at hK ⊢
          clear e13 e11
          clear hD hC
          go_simp
          refine hK.out (undef) _ _ rfl ⟨hI.base.setCells3 _ _ _ hq, hI.f0, hI.f1, fun h0 h1 => Bool.noConfusion ((show true = LL 3 from d3.symm).trans h1), fun h0 h1 => Bool.noConfusion ((show true = LL 14 from d14.symm).trans h1), hI.f4, hI.f5, hI.f6, hI.f7, fun h0 h1 => Bool.noConfusion ((show true = LL 9 from d9.symm).trans h1), fun h0 h1 => Bool.noConfusion (show true = false from h1), hI.f10, hI.f11, fun h0 h1 => Bool.noConfusion ((show true = LL 14 from d14.symm).trans h1), fun h0 h1 => Bool.noConfusion (show true = false from h1), hI.n1, hI.n2, fun h0 => (let ⟨p, e, h2, h3⟩ := hI.f14 h0; ⟨p, e, h2, HP3.out.cell' h3.1 (hI.n1 d12 d13 p q e HE13.out), HP3.out.cell' h3.2.1 (hI.n1 d12 d13 p q e HE13.out), HP3.out.cell' h3.2.2 (hI.n1 d12 d13 p q e HE13.out)⟩), fun h0 => ⟨q, HE13.out, hq, HK.out⟩⟩
      case hdone =>
        intro LL xx ww hI hL
        have l0 := hL 0 (by decide)
        have l1 := hL 1 (by decide)
        have l2 := hL 2 (by decide)
        have l3 := hL 3 (by decide)
        have l4 := hL 4 (by decide)
        have l5 := hL 5 (by decide)
        have l6 := hL 6 (by decide)
        have l7 := hL 7 (by decide)
        have l8 := hL 8 (by decide)
        have l9 := hL 9 (by decide)
        have l10 := hL 10 (by decide)
        have l11 := hL 11 (by decide)
        have l12 := hL 12 (by decide)
        have l13 := hL 13 (by decide)
        have l14 := hL 14 (by decide)
        have l15 := hL 15 (by decide)
        clear hL
        try dsimp only
        obtain ⟨xa, e12, hxa, ka⟩ := hI.f14 l14
        obtain ⟨xb, e13, hxb, kb⟩ := hI.f15 l15
        have hbase := hI.base
        rw [e12, e13]
        clear hI l0 l1 l2 l3 l4 l5 l6 l7 l8 l9 l10 l11 l12 l13 l14 l15 ga0 ga1 ga2 gb0 gb1 gb2 CD e12 e13
        have HXa := Lib.hid ka
        have HXb := Lib.hid kb
        have HW := Lib.hid hbase
        have HDw := Lib.hid (HD.out.no hbase)
        have HR0w := Lib.hid (hbase.cell' HR0.out (fun h => h))
        have HR1w := Lib.hid (hbase.cell' HR1.out (fun h => h))
        have HQw := Lib.hid (HQx.out.trans hbase)
        clear ka kb hbase
        go_wp2_with fail
        refine (gBack_any HDw.out.g (by omega)).mono ?_
        rintro e w2 ⟨cb, rfl, hf, DB, hgB, hDB⟩
        have HF2 := Lib.hid hf
        have HGB := Lib.hid hgB
        have HDB := Lib.hid hDB
        clear hf hgB hDB
        go_wp2_with fail
        refine (gOnly_any (HDw.out.g.no HF2.out) (IntsV.keep (IntsV.keep HZ.out HFq.out No.disj) (HQw.out.trans HF2.out) No.disj) HZk.out (by omega)).mono ?_
        rintro e w3 ⟨ob, rfl, hf, DO, hgO, hDO⟩
        have HF3 := Lib.hid hf
        have HGO := Lib.hid hgO
        have HDO := Lib.hid hDO
        have HGB3 := Lib.hid (HGB.out.no hf)
        have HBl : Hid (∀ j, DB j → j < w2.heap.size) := Lib.hid HGB.out.lt
        have HW3 : Hid (Fx No ww w3) := Lib.hid (HF2.out.trans hf)
        clear hf hgO hDO
        have HF2z : Hid (w2.heap.size ≤ w3.heap.size) := Lib.hid HF3.out.size
        have HF2s : Hid (ww.heap.size ≤ w2.heap.size) := Lib.hid HF2.out.size
        clear HF2 HF3
        have g0 : ∀ W, Fx No w3 W → W.cell? ⟨rb, 0, none⟩ = some (.int .i64 (N : Nat)) := fun W h => (HW3.out.trans h).cell' HR0w.out (fun h => h)
        have g1 : ∀ W, Fx No w3 W → W.cell? ⟨rb, 1, none⟩ = some (.slice ro L.length rc) := fun W h => (HW3.out.trans h).cell' HR1w.out (fun h => h)
        have ga0 : ∀ W, Fx No w3 W → W.cell? ⟨ba, 0, none⟩ = some (.int .i64 a.f) := fun W h => ((HQw.out.trans HW3.out).trans h).cell' HCa.out.1 (fun h => h)
        have ga1 : ∀ W, Fx No w3 W → W.cell? ⟨ba, 1, none⟩ = some (.int .i64 a.t) := fun W h => ((HQw.out.trans HW3.out).trans h).cell' HCa.out.2.1 (fun h => h)
        have ga2 : ∀ W, Fx No w3 W → W.cell? ⟨ba, 2, none⟩ = some (.int .i64 a.l) := fun W h => ((HQw.out.trans HW3.out).trans h).cell' HCa.out.2.2 (fun h => h)
        have gb0 : ∀ W, Fx No w3 W → W.cell? ⟨bb, 0, none⟩ = some (.int .i64 b.f) := fun W h => ((HQw.out.trans HW3.out).trans h).cell' HCb.out.1 (fun h => h)
        have gb1 : ∀ W, Fx No w3 W → W.cell? ⟨bb, 1, none⟩ = some (.int .i64 b.t) := fun W h => ((HQw.out.trans HW3.out).trans h).cell' HCb.out.2.1 (fun h => h)
        have gb2 : ∀ W, Fx No w3 W → W.cell? ⟨bb, 2, none⟩ = some (.int .i64 b.l) := fun W h => ((HQw.out.trans HW3.out).trans h).cell' HCb.out.2.2 (fun h => h)
        have gx0 : ∀ W, Fx No w3 W → W.cell? ⟨xa, 0, none⟩ = some (.int .i64 a.f) := fun W h => (HW3.out.trans h).cell' HXa.out.1 (fun h => h)
        have gx1 : ∀ W, Fx No w3 W → W.cell? ⟨xa, 1, none⟩ = some (.int .i64 a.t) := fun W h => (HW3.out.trans h).cell' HXa.out.2.1 (fun h => h)
        have gx2 : ∀ W, Fx No w3 W → W.cell? ⟨xa, 2, none⟩ = some (.int .i64 a.l) := fun W h => (HW3.out.trans h).cell' HXa.out.2.2 (fun h => h)
        have gy0 : ∀ W, Fx No w3 W → W.cell? ⟨xb, 0, none⟩ = some (.int .i64 b.f) := fun W h => (HW3.out.trans h).cell' HXb.out.1 (fun h => h)
        have gy1 : ∀ W, Fx No w3 W → W.cell? ⟨xb, 1, none⟩ = some (.int .i64 b.t) := fun W h => (HW3.out.trans h).cell' HXb.out.2.1 (fun h => h)
        have gy2 : ∀ W, Fx No w3 W → W.cell? ⟨xb, 2, none⟩ = some (.int .i64 b.l) := fun W h => (HW3.out.trans h).cell' HXb.out.2.2 (fun h => h)
        have C1 : Hid (∀ W, Fx No w3 W → Calls Try.prog 14 #[.pointer (some ⟨cb, 0, none⟩)] W fun e w' => ∃ v', e = .returned (.agg #[.int .i64 (N : Nat), v']) ∧ Fx No W w' ∧ EdsV w' (fun _ => True) v' (backL L)) := Lib.hid fun W h => (docGraph_any (HGB3.out.no h)).mono fun e w' ⟨v', h1, h2, h3⟩ => ⟨v', h1, h2, (OwnT.row h3).mono fun _ _ => trivial⟩
        have C2 : Hid (∀ W, Fx No w3 W → Calls Try.prog 14 #[.pointer (some ⟨ob, 0, none⟩)] W fun e w' => ∃ v', e = .returned (.agg #[.int .i64 (N : Nat), v']) ∧ Fx No W w' ∧ EdsV w' (fun _ => True) v' (L.filter (namedE zs))) := Lib.hid fun W h => (docGraph_any (HGO.out.no h)).mono fun e w' ⟨v', h1, h2, h3⟩ => ⟨v', h1, h2, (OwnT.row h3).mono fun _ _ => trivial⟩
        have C3 : Hid (∀ W, Fx No w3 W → Calls Try.prog 15 #[.agg #[.int .i64 (N : Nat), .slice ro L.length rc]] W fun e w' => ∃ v', e = .returned (.agg #[.int .i64 (N : Nat), v']) ∧ Fx No W w' ∧ EdsV w' (fun _ => True) v' (backL L)) := Lib.hid fun W h => (refBack_any (HDw.out.row.no (HW3.out.trans h)) HDw.out.g.asc (N : Int) (by omega)).mono fun e w' ⟨v', h1, h2, h3⟩ => ⟨v', h1, h2, h3.mono fun _ _ => trivial⟩
        have C4 : Hid (∀ W, Fx No w3 W → Calls Try.prog 16 #[.agg #[.int .i64 (N : Nat), .slice ro L.length rc], .slice zo zs.length zcap] W fun e w' => ∃ v', e = .returned (.agg #[.int .i64 (N : Nat), v']) ∧ Fx No W w' ∧ EdsV w' (fun _ => True) v' (L.filter (namedE zs))) := Lib.hid fun W h => (refOnly_any (HDw.out.row.no (HW3.out.trans h)) (IntsV.keep (IntsV.keep HZ.out HFq.out No.disj) ((HQw.out.trans HW3.out).trans h) No.disj) (N : Int) (by omega)).mono fun e w' ⟨v', h1, h2, h3⟩ => ⟨v', h1, h2, h3.mono fun _ _ => trivial⟩
        have CS : Hid (∀ W (X : List Ed) v1 v2, EdsV W (fun _ => True) v1 X → EdsV W (fun _ => True) v2 X → Calls Try.prog 13 #[.agg #[.int .i64 (N : Nat), v1], .agg #[.int .i64 (N : Nat), v2]] W fun e w' => e = .returned (.bool true) ∧ Fx No W w') := Lib.hid fun W X v1 v2 h1 h2 => (refSame_any h1 h2 (N : Int) (N : Int)).mono fun e w' ⟨h1, h2⟩ => ⟨by rw [h1, decide_eq_true ⟨rfl, rfl⟩], h2⟩
        obtain ⟨cc, hcc⟩ : ∃ c, c = cmpE a b := ⟨_, rfl⟩
        have C5 : Hid (∀ W, Calls Try.prog 17 #[.agg #[.int .i64 a.f, .int .i64 a.t, .int .i64 a.l], .agg #[.int .i64 b.f, .int .i64 b.t, .int .i64 b.l]] W fun e w' => e = .returned (.int .i64 cc) ∧ Fx No W w') := Lib.hid fun W => by rw [hcc]; exact cmp_any a b W
        have C6 : Hid (∀ W, Calls Try.prog 18 #[.agg #[.int .i64 a.f, .int .i64 a.t, .int .i64 a.l], .agg #[.int .i64 b.f, .int .i64 b.t, .int .i64 b.l]] W fun e w' => e = .returned (.int .i64 cc) ∧ Fx No W w') := Lib.hid fun W => by rw [hcc]; exact refCmp_any a b W
        clear hcc
        go_wp2_with fail
        refine wp_region_H (fun W => Fx No w3 W) (by kernel_rfl) ((Fx.refl _ _).drew) ?_
        intro hS
        refine wpAnyH_hold (fun W' => Fx No w3 W') hS ?_
        clear hS
        rintro y0 hS
        have hS0 := hS
        refine wpAnyH_take (i := 0) (v := ?_) rfl (by kernel_rfl) (by kernel_rfl) (by kernel_rfl) (fun _ _ _ h => h) (Or.inl ⟨by rfl, ?_⟩) hS ?_
        rotate_left
        · (intro W hs; go_simp; first | done | with_reducible rfl)
        try simp only [Act.put, List.getElem_toArray, List.getElem_cons_zero, List.getElem_cons_succ, List.setIfInBounds_toArray, List.set_cons_zero, List.set_cons_succ]
        refine wpAnyH_take (i := 2) (v := ?_) rfl (by kernel_rfl) (by kernel_rfl) (by kernel_rfl) (fun _ _ _ h => h) (Or.inl ⟨by rfl, ?_⟩) hS ?_
        rotate_left
        · (intro W hs; go_simp; first | done | with_reducible rfl)
        try simp only [Act.put, List.getElem_toArray, List.getElem_cons_zero, List.getElem_cons_succ, List.setIfInBounds_toArray, List.set_cons_zero, List.set_cons_succ]
        refine wpH_one (i := 1) (by kernel_rfl) rfl (fun K hK => ?_)
        go_simp
        refine (C1.out _ hS).mono ?_
        rintro e y1 ⟨v1, rfl, hfi, hv⟩
        have HV1 := Lib.hid hv
        have HZy1 : Hid (y0.heap.size ≤ y1.heap.size) := Lib.hid hfi.size
        have HSy1 : Hid (Fx No y0 y1) := Lib.hid hfi
        refine hK.out _ _ (hS.trans hfi) (fun hS' => ?_)
        clear hK K hS hfi hv
        have hS := hS'
        clear hS'
        try simp only [Act.put, List.getElem_toArray, List.getElem_cons_zero, List.getElem_cons_succ, List.setIfInBounds_toArray, List.set_cons_zero, List.set_cons_succ]
        refine wpH_one (i := 3) (by kernel_rfl) rfl (fun K hK => ?_)
        go_simp
        refine (C3.out _ hS).mono ?_
        rintro e y2 ⟨v3, rfl, hfi, hv⟩
        have HV1 := Lib.hid (RowV.no HV1.out hfi)
        have HV3 := Lib.hid hv
        have HZy2 : Hid (y1.heap.size ≤ y2.heap.size) := Lib.hid hfi.size
        have HSy2 : Hid (Fx No y1 y2) := Lib.hid hfi
        refine hK.out _ _ (hS.trans hfi) (fun hS' => ?_)
        clear hK K hS hfi hv
        have hS := hS'
        clear hS'
        try simp only [Act.put, List.getElem_toArray, List.getElem_cons_zero, List.getElem_cons_succ, List.setIfInBounds_toArray, List.set_cons_zero, List.set_cons_succ]
        refine wpH_one (i := 4) (by kernel_rfl) rfl (fun K hK => ?_)
        go_simp
        refine (CS.out _ _ _ _ HV1.out HV3.out).mono ?_
        rintro e y3 ⟨rfl, hfi⟩
        have HV1 := Lib.hid (RowV.no HV1.out hfi)
        have HV3 := Lib.hid (RowV.no HV3.out hfi)
        have HZy3 : Hid (y2.heap.size ≤ y3.heap.size) := Lib.hid hfi.size
        have HSy3 : Hid (Fx No y2 y3) := Lib.hid hfi
        refine hK.out _ _ (hS.trans hfi) (fun hS' => ?_)
        clear hK K hS hfi 
        have hS := hS'
        clear hS'
        try simp only [Act.put, List.getElem_toArray, List.getElem_cons_zero, List.getElem_cons_succ, List.setIfInBounds_toArray, List.set_cons_zero, List.set_cons_succ]
        refine wpAnyH_take (i := 5) (v := ?_) rfl (by kernel_rfl) (by kernel_rfl) (by kernel_rfl) (fun _ _ _ h => h) (Or.inl ⟨by rfl, ?_⟩) hS ?_
        rotate_left
        · (intro W hs; go_simp; first | done | with_reducible rfl)
        try simp only [Act.put, List.getElem_toArray, List.getElem_cons_zero, List.getElem_cons_succ, List.setIfInBounds_toArray, List.set_cons_zero, List.set_cons_succ]
        refine wpAnyH_take (i := 6) (v := ?_) rfl (by kernel_rfl) (by kernel_rfl) (by kernel_rfl) (fun _ _ _ h => h) (Or.inl ⟨by rfl, ?_⟩) hS ?_
        rotate_left
        · (intro W hs; go_simp; first | done | with_reducible rfl)
        try simp only [Act.put, List.getElem_toArray, List.getElem_cons_zero, List.getElem_cons_succ, List.setIfInBounds_toArray, List.set_cons_zero, List.set_cons_succ]
        refine wpAnyH_take (i := 7) (v := ?_) rfl (by kernel_rfl) (by kernel_rfl) (by kernel_rfl) (fun _ _ _ h => h) (Or.inl ⟨by rfl, ?_⟩) hS ?_
        rotate_left
        · (intro W hs; go_simp; first | done | with_reducible rfl)
        try simp only [Act.put, List.getElem_toArray, List.getElem_cons_zero, List.getElem_cons_succ, List.setIfInBounds_toArray, List.set_cons_zero, List.set_cons_succ]
        refine wpAnyH_take (i := 9) (v := ?_) rfl (by kernel_rfl) (by kernel_rfl) (by kernel_rfl) (fun _ _ _ h => h) (Or.inl ⟨by rfl, ?_⟩) hS ?_
        rotate_left
        · (intro W hs; go_simp; first | done | with_reducible rfl)
        try simp only [Act.put, List.getElem_toArray, List.getElem_cons_zero, List.getElem_cons_succ, List.setIfInBounds_toArray, List.set_cons_zero, List.set_cons_succ]
        refine wpAnyH_take (i := 10) (v := ?_) rfl (by kernel_rfl) (by kernel_rfl) (by kernel_rfl) (fun _ _ _ h => h) (Or.inl ⟨by rfl, ?_⟩) hS ?_
        rotate_left
        · (intro W hs; go_simp; first | done | with_reducible rfl)
        try simp only [Act.put, List.getElem_toArray, List.getElem_cons_zero, List.getElem_cons_succ, List.setIfInBounds_toArray, List.set_cons_zero, List.set_cons_succ]
        refine wpH_one (i := 8) (by kernel_rfl) rfl (fun K hK => ?_)
        go_simp
        refine (C2.out _ hS).mono ?_
        rintro e y4 ⟨v8, rfl, hfi, hv⟩
        have HV1 := Lib.hid (RowV.no HV1.out hfi)
        have HV3 := Lib.hid (RowV.no HV3.out hfi)
        have HV8 := Lib.hid hv
        have HZy4 : Hid (y3.heap.size ≤ y4.heap.size) := Lib.hid hfi.size
        have HSy4 : Hid (Fx No y3 y4) := Lib.hid hfi
        refine hK.out _ _ (hS.trans hfi) (fun hS' => ?_)
        clear hK K hS hfi hv
        have hS := hS'
        clear hS'
        try simp only [Act.put, List.getElem_toArray, List.getElem_cons_zero, List.getElem_cons_succ, List.setIfInBounds_toArray, List.set_cons_zero, List.set_cons_succ]
        refine wpH_one (i := 11) (by kernel_rfl) rfl (fun K hK => ?_)
        go_simp
        refine (C4.out _ hS).mono ?_
        rintro e y5 ⟨v9, rfl, hfi, hv⟩
        have HV1 := Lib.hid (RowV.no HV1.out hfi)
        have HV3 := Lib.hid (RowV.no HV3.out hfi)
        have HV8 := Lib.hid (RowV.no HV8.out hfi)
        have HV9 := Lib.hid hv
        have HZy5 : Hid (y4.heap.size ≤ y5.heap.size) := Lib.hid hfi.size
        have HSy5 : Hid (Fx No y4 y5) := Lib.hid hfi
        refine hK.out _ _ (hS.trans hfi) (fun hS' => ?_)
        clear hK K hS hfi hv
        have hS := hS'
        clear hS'
        try simp only [Act.put, List.getElem_toArray, List.getElem_cons_zero, List.getElem_cons_succ, List.setIfInBounds_toArray, List.set_cons_zero, List.set_cons_succ]
        refine wpH_one (i := 12) (by kernel_rfl) rfl (fun K hK => ?_)
        go_simp
        refine (CS.out _ _ _ _ HV8.out HV9.out).mono ?_
        rintro e y6 ⟨rfl, hfi⟩
        have HV1 := Lib.hid (RowV.no HV1.out hfi)
        have HV3 := Lib.hid (RowV.no HV3.out hfi)
        have HV8 := Lib.hid (RowV.no HV8.out hfi)
        have HV9 := Lib.hid (RowV.no HV9.out hfi)
        have HZy6 : Hid (y5.heap.size ≤ y6.heap.size) := Lib.hid hfi.size
        have HSy6 : Hid (Fx No y5 y6) := Lib.hid hfi
        refine hK.out _ _ (hS.trans hfi) (fun hS' => ?_)
        clear hK K hS hfi 
        have hS := hS'
        clear hS'
        try simp only [Act.put, List.getElem_toArray, List.getElem_cons_zero, List.getElem_cons_succ, List.setIfInBounds_toArray, List.set_cons_zero, List.set_cons_succ]
        refine wpAnyH_take (i := 13) (v := ?_) rfl (by kernel_rfl) (by kernel_rfl) (by kernel_rfl) (fun _ _ _ h => h) (Or.inl ⟨by rfl, ?_⟩) hS ?_
        rotate_left
        · (intro W hs; go_simp; first | done | with_reducible rfl)
        try simp only [Act.put, List.getElem_toArray, List.getElem_cons_zero, List.getElem_cons_succ, List.setIfInBounds_toArray, List.set_cons_zero, List.set_cons_succ]
        refine wpAnyH_take (i := 14) (v := ?_) rfl (by kernel_rfl) (by kernel_rfl) (by kernel_rfl) (fun _ _ _ h => h) (Or.inl ⟨by rfl, ?_⟩) hS ?_
        rotate_left
        · (intro W hs; go_simp; first | done | with_reducible rfl)
        try simp only [Act.put, List.getElem_toArray, List.getElem_cons_zero, List.getElem_cons_succ, List.setIfInBounds_toArray, List.set_cons_zero, List.set_cons_succ]
        refine wpAnyH_take (i := 15) (v := ?_) rfl (by kernel_rfl) (by kernel_rfl) (by kernel_rfl) (fun _ _ _ h => h) (Or.inl ⟨by rfl, ?_⟩) hS ?_
        rotate_left
        · (intro W hs; go_simp; first | done | with_reducible rfl)
        try simp only [Act.put, List.getElem_toArray, List.getElem_cons_zero, List.getElem_cons_succ, List.setIfInBounds_toArray, List.set_cons_zero, List.set_cons_succ]
        refine wpAnyH_take (i := 16) (v := ?_) rfl (by kernel_rfl) (by kernel_rfl) (by kernel_rfl) (fun _ _ _ h => h) (Or.inl ⟨by rfl, ?_⟩) hS ?_
        rotate_left
        · (intro W hs; go_simp; first | done | with_reducible rfl)
        try simp only [Act.put, List.getElem_toArray, List.getElem_cons_zero, List.getElem_cons_succ, List.setIfInBounds_toArray, List.set_cons_zero, List.set_cons_succ]
        refine wpAnyH_take (i := 17) (v := ?_) rfl (by kernel_rfl) (by kernel_rfl) (by kernel_rfl) (fun _ _ _ h => h) (Or.inl ⟨by rfl, ?_⟩) hS ?_
        rotate_left
        · (intro W hs; go_simp; first | done | with_reducible rfl)
        try simp only [Act.put, List.getElem_toArray, List.getElem_cons_zero, List.getElem_cons_succ, List.setIfInBounds_toArray, List.set_cons_zero, List.set_cons_succ]
        refine wpAnyH_take (i := 19) (v := ?_) rfl (by kernel_rfl) (by kernel_rfl) (by kernel_rfl) (fun _ _ _ h => h) (Or.inl ⟨by rfl, ?_⟩) hS ?_
        rotate_left
        · (intro W hs; go_simp; first | done | with_reducible rfl)
        try simp only [Act.put, List.getElem_toArray, List.getElem_cons_zero, List.getElem_cons_succ, List.setIfInBounds_toArray, List.set_cons_zero, List.set_cons_succ]
        refine wpAnyH_take (i := 20) (v := ?_) rfl (by kernel_rfl) (by kernel_rfl) (by kernel_rfl) (fun _ _ _ h => h) (Or.inl ⟨by rfl, ?_⟩) hS ?_
        rotate_left
        · (intro W hs; go_simp; first | done | with_reducible rfl)
        try simp only [Act.put, List.getElem_toArray, List.getElem_cons_zero, List.getElem_cons_succ, List.setIfInBounds_toArray, List.set_cons_zero, List.set_cons_succ]
        refine wpH_one (i := 18) (by kernel_rfl) rfl (fun K hK => ?_)
        go_simp
        refine (C5.out _).mono ?_
        rintro e y7 ⟨rfl, hfi⟩
        have HV1 := Lib.hid (RowV.no HV1.out hfi)
        have HV3 := Lib.hid (RowV.no HV3.out hfi)
        have HV8 := Lib.hid (RowV.no HV8.out hfi)
        have HV9 := Lib.hid (RowV.no HV9.out hfi)
        have HZy7 : Hid (y6.heap.size ≤ y7.heap.size) := Lib.hid hfi.size
        have HSy7 : Hid (Fx No y6 y7) := Lib.hid hfi
        refine hK.out _ _ (hS.trans hfi) (fun hS' => ?_)
        clear hK K hS hfi 
        have hS := hS'
        clear hS'
        try simp only [Act.put, List.getElem_toArray, List.getElem_cons_zero, List.getElem_cons_succ, List.setIfInBounds_toArray, List.set_cons_zero, List.set_cons_succ]
        refine wpH_one (i := 21) (by kernel_rfl) rfl (fun K hK => ?_)
        go_simp
        refine (C6.out _).mono ?_
        rintro e y8 ⟨rfl, hfi⟩
        have HV1 := Lib.hid (RowV.no HV1.out hfi)
        have HV3 := Lib.hid (RowV.no HV3.out hfi)
        have HV8 := Lib.hid (RowV.no HV8.out hfi)
        have HV9 := Lib.hid (RowV.no HV9.out hfi)
        have HZy8 : Hid (y7.heap.size ≤ y8.heap.size) := Lib.hid hfi.size
        have HSy8 : Hid (Fx No y7 y8) := Lib.hid hfi
        refine hK.out _ _ (hS.trans hfi) (fun hS' => ?_)
        clear hK K hS hfi 
        have hS := hS'
        clear hS'
        try simp only [Act.put, List.getElem_toArray, List.getElem_cons_zero, List.getElem_cons_succ, List.setIfInBounds_toArray, List.set_cons_zero, List.set_cons_succ]
        refine wpAnyH_take (i := 22) (v := ?_) rfl (by kernel_rfl) (by kernel_rfl) (by kernel_rfl) (fun _ _ _ h => h) (Or.inl ⟨by rfl, ?_⟩) hS ?_
        rotate_left
        · (intro W hs; go_simp; first | done | with_reducible rfl)
        try simp only [Act.put, List.getElem_toArray, List.getElem_cons_zero, List.getElem_cons_succ, List.setIfInBounds_toArray, List.set_cons_zero, List.set_cons_succ]
        refine wpAnyH_take (i := 23) (v := ?_) rfl (by kernel_rfl) (by kernel_rfl) (by kernel_rfl) (fun _ _ _ h => h) (Or.inl ⟨by rfl, ?_⟩) hS ?_
        rotate_left
        · (intro W hs; go_simp; first | done | with_reducible rfl)
        try simp only [Act.put, List.getElem_toArray, List.getElem_cons_zero, List.getElem_cons_succ, List.setIfInBounds_toArray, List.set_cons_zero, List.set_cons_succ]
        refine wpAnyH_done (by kernel_rfl) ?_ _
        have HF6 := Lib.hid hS
        clear hS hS0 g0 g1 ga0 ga1 ga2 gb0 gb1 gb2 gx0 gx1 gx2 gy0 gy1 gy2 C1 C2 C3 C4 C5 C6 HV1 HV3 HV8 HV9
        have HWz : Hid (Fx No ww y8) := Lib.hid (HW3.out.trans HF6.out)
        have r0 := HWz.out.cell' HR0w.out (fun h => h)
        have r1 := HWz.out.cell' HR1w.out (fun h => h)
        rcases Nat.eq_zero_or_pos N with hN0 | hN0
        · have dN : decide ((0 : Int) < (N : Int)) = false := decide_eq_false (by omega)
          have dN2 : decide (0 < N) = false := decide_eq_false (by omega)
          clear hN0
          go_wp2_with fail
          have g0 : ∀ W', Fx No y8 W' → W'.cell? ⟨rb, 0, none⟩ = some (.int .i64 (N : Nat)) := fun W' h => (HWz.out.trans h).cell' HR0w.out (fun h => h)
          have g1 : ∀ W', Fx No y8 W' → W'.cell? ⟨rb, 1, none⟩ = some (.slice ro L.length rc) := fun W' h => (HWz.out.trans h).cell' HR1w.out (fun h => h)
          have C1 : Hid (∀ W', Fx No y8 W' → Calls Try.prog 14 #[.pointer (some ⟨gb, 0, none⟩)] W' fun e w' => ∃ v', e = .returned (.agg #[.int .i64 (N : Nat), v']) ∧ Fx No W' w' ∧ EdsV w' (fun _ => True) v' L) := Lib.hid fun W' h => (docGraph_any (HDw.out.g.no (HWz.out.trans h))).mono fun e w' ⟨v', h1, h2, h3⟩ => ⟨v', h1, h2, (OwnT.row h3).mono fun _ _ => trivial⟩
          have HRw : Hid (∀ W', Fx No y8 W' → EdsV W' (fun _ => True) (.slice ro L.length rc) L) := Lib.hid fun W' h => (HDw.out.row.no (HWz.out.trans h)).mono fun _ _ => trivial
          go_wp2_with fail
          refine wp_region_H (fun W => Fx No y8 W) (by kernel_rfl) ((Fx.refl _ _).drew) ?_
          intro hS
          refine wpAnyH_hold (fun W' => Fx No y8 W') hS ?_
          clear hS
          rintro y0 hS
          have hS0 := hS
          refine wpAnyH_take (i := 0) (v := ?_) rfl (by kernel_rfl) (by kernel_rfl) (by kernel_rfl) (fun _ _ _ h => h) (Or.inl ⟨by rfl, ?_⟩) hS ?_
          rotate_left
          · (intro W hs; go_simp; first | done | with_reducible rfl)
          try simp only [Act.put, List.getElem_toArray, List.getElem_cons_zero, List.getElem_cons_succ, List.setIfInBounds_toArray, List.set_cons_zero, List.set_cons_succ]
          refine wpAnyH_take (i := 2) (v := ?_) rfl (by kernel_rfl) (by kernel_rfl) (by kernel_rfl) (fun _ _ _ h => h) (Or.inl ⟨by rfl, ?_⟩) hS ?_
          rotate_left
          · (intro W hs; go_simp; first | done | with_reducible rfl)
          try simp only [Act.put, List.getElem_toArray, List.getElem_cons_zero, List.getElem_cons_succ, List.setIfInBounds_toArray, List.set_cons_zero, List.set_cons_succ]
          refine wpH_one (i := 1) (by kernel_rfl) rfl (fun K hK => ?_)
          go_simp
          refine (C1.out _ hS).mono ?_
          rintro e y1 ⟨v1, rfl, hfi, hv⟩
          have HV1 := Lib.hid hv
          have HZy1 : Hid (y0.heap.size ≤ y1.heap.size) := Lib.hid hfi.size
          have HSy1 : Hid (Fx No y0 y1) := Lib.hid hfi
          refine hK.out _ _ (hS.trans hfi) (fun hS' => ?_)
          clear hK K hS hfi hv
          have hS := hS'
          clear hS'
          try simp only [Act.put, List.getElem_toArray, List.getElem_cons_zero, List.getElem_cons_succ, List.setIfInBounds_toArray, List.set_cons_zero, List.set_cons_succ]
          refine wpH_one (i := 3) (by kernel_rfl) rfl (fun K hK => ?_)
          go_simp
          refine (CS.out y1 L _ (.slice ro L.length rc) HV1.out (HRw.out y1 hS)).mono ?_
          rintro e y2 ⟨rfl, hfi⟩
          have HV1 := Lib.hid (RowV.no HV1.out hfi)
          have HZy2 : Hid (y1.heap.size ≤ y2.heap.size) := Lib.hid hfi.size
          have HSy2 : Hid (Fx No y1 y2) := Lib.hid hfi
          refine hK.out _ _ (hS.trans hfi) (fun hS' => ?_)
          clear hK K hS hfi 
          have hS := hS'
          clear hS'
          try simp only [Act.put, List.getElem_toArray, List.getElem_cons_zero, List.getElem_cons_succ, List.setIfInBounds_toArray, List.set_cons_zero, List.set_cons_succ]
          refine wpAnyH_take (i := 4) (v := ?_) rfl (by kernel_rfl) (by kernel_rfl) (by kernel_rfl) (fun _ _ _ h => h) (Or.inl ⟨by rfl, ?_⟩) hS ?_
          rotate_left
          · (intro W hs; go_simp; first | done | with_reducible rfl)
          try simp only [Act.put, List.getElem_toArray, List.getElem_cons_zero, List.getElem_cons_succ, List.setIfInBounds_toArray, List.set_cons_zero, List.set_cons_succ]
          refine wpH_one (i := 5) (by kernel_rfl) rfl (fun K hK => ?_)
          go_simp
          refine (works_any _).mono ?_
          rintro e y3 ⟨rfl, hfi⟩
          have HV1 := Lib.hid (RowV.no HV1.out hfi)
          have HZy3 : Hid (y2.heap.size ≤ y3.heap.size) := Lib.hid hfi.size
          have HSy3 : Hid (Fx No y2 y3) := Lib.hid hfi
          refine hK.out _ _ (hS.trans hfi) (fun hS' => ?_)
          clear hK K hS hfi 
          have hS := hS'
          clear hS'
          try simp only [Act.put, List.getElem_toArray, List.getElem_cons_zero, List.getElem_cons_succ, List.setIfInBounds_toArray, List.set_cons_zero, List.set_cons_succ]
          refine wpAnyH_take (i := 6) (v := ?_) rfl (by kernel_rfl) (by kernel_rfl) (by kernel_rfl) (fun _ _ _ h => h) (Or.inl ⟨by rfl, ?_⟩) hS ?_
          rotate_left
          · (intro W hs; go_simp; first | done | with_reducible rfl)
          try simp only [Act.put, List.getElem_toArray, List.getElem_cons_zero, List.getElem_cons_succ, List.setIfInBounds_toArray, List.set_cons_zero, List.set_cons_succ]
          refine wpH_one (i := 7) (by kernel_rfl) rfl (fun K hK => ?_)
          go_simp
          refine hK.out _ _ hS (fun hS' => ?_)
          clear hK K hS
          have hS := hS'
          clear hS'
          try simp only [Act.put, List.getElem_toArray, List.getElem_cons_zero, List.getElem_cons_succ, List.setIfInBounds_toArray, List.set_cons_zero, List.set_cons_succ]
          refine wpAnyH_done (by kernel_rfl) ?_ _
          have HF := Lib.hid hS
          clear hS hS0 g0 g1 C1
          go_wp2
          go_ret
          exact ⟨rfl, (HFq.out.trans (HQw.out.trans HWz.out)).trans HF.out⟩
        · have dN : decide ((0 : Int) < (N : Int)) = true := decide_eq_true (by omega)
          have dN2 : decide (0 < N) = true := decide_eq_true hN0
          clear hN0
          have CG1 : Hid (∀ W, Fx No y8 W → Calls Try.prog 19 #[.pointer (some ⟨cb, 0, none⟩), .slice (some ⟨W.heap.size, 0, none⟩) 1 1] (W.alloc (.cells #[.int .i64 0, .int .i64 0, .int .i64 424242] 25)) fun r w' => (∃ v, r = .returned v) ∧ Fx DB (W.alloc (.cells #[.int .i64 0, .int .i64 0, .int .i64 424242] 25)) w') := Lib.hid fun W h => by
            have hA : Fx No W (W.alloc (.cells #[.int .i64 0, .int .i64 0, .int .i64 424242] 25)) := (Fx.refl No W).alloc _
            have hG := (HGB3.out.no (HF6.out.trans h))
            have hB := backL_len L
            refine (gAdd_both (hG.no hA) (EdsV.lit [⟨0, 0, 424242⟩] (by simp)) (fun k h1 h2 => by have h3 := hG.lt k h2; have := h1.1; omega) (fun y hy => by rw [List.mem_singleton] at hy; rw [hy]; exact ⟨by unfold Ok64; simp, by unfold Ok64; simp, by unfold Ok64; simp⟩) (by simp; omega)).mono ?_
            rintro e w' ⟨rfl, h1, _⟩
            exact ⟨⟨_, rfl⟩, h1⟩
          have hez := HF6.out.size
          go_wp2_with fail
          refine calls_hold (fun W => ∃ W2, Fx No y8 W2 ∧ W2.cell? ⟨y8.heap.size, 0, none⟩ = some (.int .i64 0) ∧ W2.cell? ⟨y8.heap.size, 1, none⟩ = some (.int .i64 0) ∧ W2.cell? ⟨y8.heap.size, 2, none⟩ = some (.int .i64 424242) ∧ W2.heap.size = y8.heap.size + 1 ∧ W = W2.alloc (.cells #[.int .i64 0, .int .i64 0, .int .i64 424242] 25)) ⟨y8.alloc (.cells #[.int .i64 0, .int .i64 0, .int .i64 424242] 25), (Fx.refl No _).alloc _, by go_simp, by go_simp, by go_simp, by simp, rfl⟩ ?_
          rintro _ ⟨W2, hf2, e0, e1, e2, hz2, rfl⟩
          rw [← hz2]
          refine (CG1.out W2 hf2).mono ?_
          rintro e w4 ⟨⟨v4, rfl⟩, h4⟩
          have hA2 : Fx No W2 (W2.alloc (.cells #[.int .i64 0, .int .i64 0, .int .i64 424242] 25)) := (Fx.refl No W2).alloc _
          have hz3 := HF2z.out
          have hDBe : ¬ DB y8.heap.size := fun h => by have := HBl.out _ h; omega
          have e0 := h4.cell' (hA2.cell' e0 (fun h => h)) hDBe
          have e1 := h4.cell' (hA2.cell' e1 (fun h => h)) hDBe
          have e2 := h4.cell' (hA2.cell' e2 (fun h => h)) hDBe
          have hz4 := h4.size
          rw [World.size_alloc] at hz4
          have hlt4 : y8.heap.size < w4.heap.size := by omega
          have HG4 : Hid (GraphV w4 DO ob N (L.filter (namedE zs))) := Lib.hid ((((HGO.out.no HF6.out).no hf2).no hA2).keep h4 fun j h1 h2 => by have h3 := HDO.out j h1; have h5 := HBl.out j h2; omega)
          have HW4 : Hid (Fx No ww w4) := Lib.hid (((HWz.out.trans hf2).trans hA2).trans' h4 fun j h1 h2 => by have := HDB.out j h1; omega)
          have CG2 : Hid (Calls Try.prog 19 #[.pointer (some ⟨ob, 0, none⟩), .slice (some ⟨w4.heap.size, 0, none⟩) 1 1] (w4.alloc (.cells #[.int .i64 0, .int .i64 0, .int .i64 424242] 25)) fun r w' => (∃ v, r = .returned v) ∧ Fx DO (w4.alloc (.cells #[.int .i64 0, .int .i64 0, .int .i64 424242] 25)) w') := Lib.hid (by
            have hA : Fx No w4 (w4.alloc (.cells #[.int .i64 0, .int .i64 0, .int .i64 424242] 25)) := (Fx.refl No w4).alloc _
            have hB : (L.filter (namedE zs)).length ≤ L.length := List.length_filter_le _ _
            refine (gAdd_both (HG4.out.no hA) (EdsV.lit [⟨0, 0, 424242⟩] (by simp)) (fun k h1 h2 => by have h3 := HG4.out.lt k h2; have := h1.1; omega) (fun y hy => by rw [List.mem_singleton] at hy; rw [hy]; exact ⟨by unfold Ok64; simp, by unfold Ok64; simp, by unfold Ok64; simp⟩) (by simp; omega)).mono ?_
            rintro e w' ⟨rfl, h1, _⟩
            exact ⟨⟨_, rfl⟩, h1⟩)
          clear hf2 h4 hA2 CG1 hDBe
          go_wp2_with fail
          refine CG2.out.mono ?_
          rintro e w5 ⟨⟨v5, rfl⟩, h5⟩
          have HWz : Hid (Fx No ww w5) := Lib.hid ((HW4.out.alloc _).trans' h5 fun j h1 h2 => by have := HDO.out j h1; have := HF2s.out; omega)
          clear h5 CG2 e0 e1 e2
          have g0 : ∀ W', Fx No w5 W' → W'.cell? ⟨rb, 0, none⟩ = some (.int .i64 (N : Nat)) := fun W' h => (HWz.out.trans h).cell' HR0w.out (fun h => h)
          have g1 : ∀ W', Fx No w5 W' → W'.cell? ⟨rb, 1, none⟩ = some (.slice ro L.length rc) := fun W' h => (HWz.out.trans h).cell' HR1w.out (fun h => h)
          have C1 : Hid (∀ W', Fx No w5 W' → Calls Try.prog 14 #[.pointer (some ⟨gb, 0, none⟩)] W' fun e w' => ∃ v', e = .returned (.agg #[.int .i64 (N : Nat), v']) ∧ Fx No W' w' ∧ EdsV w' (fun _ => True) v' L) := Lib.hid fun W' h => (docGraph_any (HDw.out.g.no (HWz.out.trans h))).mono fun e w' ⟨v', h1, h2, h3⟩ => ⟨v', h1, h2, (OwnT.row h3).mono fun _ _ => trivial⟩
          have HRw : Hid (∀ W', Fx No w5 W' → EdsV W' (fun _ => True) (.slice ro L.length rc) L) := Lib.hid fun W' h => (HDw.out.row.no (HWz.out.trans h)).mono fun _ _ => trivial
          go_wp2_with fail
          refine wp_region_H (fun W => Fx No w5 W) (by kernel_rfl) ((Fx.refl _ _).drew) ?_
          intro hS
          refine wpAnyH_hold (fun W' => Fx No w5 W') hS ?_
          clear hS
          rintro y0 hS
          have hS0 := hS
          refine wpAnyH_take (i := 0) (v := ?_) rfl (by kernel_rfl) (by kernel_rfl) (by kernel_rfl) (fun _ _ _ h => h) (Or.inl ⟨by rfl, ?_⟩) hS ?_
          rotate_left
          · (intro W hs; go_simp; first | done | with_reducible rfl)
          try simp only [Act.put, List.getElem_toArray, List.getElem_cons_zero, List.getElem_cons_succ, List.setIfInBounds_toArray, List.set_cons_zero, List.set_cons_succ]
          refine wpAnyH_take (i := 2) (v := ?_) rfl (by kernel_rfl) (by kernel_rfl) (by kernel_rfl) (fun _ _ _ h => h) (Or.inl ⟨by rfl, ?_⟩) hS ?_
          rotate_left
          · (intro W hs; go_simp; first | done | with_reducible rfl)
          try simp only [Act.put, List.getElem_toArray, List.getElem_cons_zero, List.getElem_cons_succ, List.setIfInBounds_toArray, List.set_cons_zero, List.set_cons_succ]
          refine wpH_one (i := 1) (by kernel_rfl) rfl (fun K hK => ?_)
          go_simp
          refine (C1.out _ hS).mono ?_
          rintro e y1 ⟨v1, rfl, hfi, hv⟩
          have HV1 := Lib.hid hv
          have HZy1 : Hid (y0.heap.size ≤ y1.heap.size) := Lib.hid hfi.size
          have HSy1 : Hid (Fx No y0 y1) := Lib.hid hfi
          refine hK.out _ _ (hS.trans hfi) (fun hS' => ?_)
          clear hK K hS hfi hv
          have hS := hS'
          clear hS'
          try simp only [Act.put, List.getElem_toArray, List.getElem_cons_zero, List.getElem_cons_succ, List.setIfInBounds_toArray, List.set_cons_zero, List.set_cons_succ]
          refine wpH_one (i := 3) (by kernel_rfl) rfl (fun K hK => ?_)
          go_simp
          refine (CS.out y1 L _ (.slice ro L.length rc) HV1.out (HRw.out y1 hS)).mono ?_
          rintro e y2 ⟨rfl, hfi⟩
          have HV1 := Lib.hid (RowV.no HV1.out hfi)
          have HZy2 : Hid (y1.heap.size ≤ y2.heap.size) := Lib.hid hfi.size
          have HSy2 : Hid (Fx No y1 y2) := Lib.hid hfi
          refine hK.out _ _ (hS.trans hfi) (fun hS' => ?_)
          clear hK K hS hfi 
          have hS := hS'
          clear hS'
          try simp only [Act.put, List.getElem_toArray, List.getElem_cons_zero, List.getElem_cons_succ, List.setIfInBounds_toArray, List.set_cons_zero, List.set_cons_succ]
          refine wpAnyH_take (i := 4) (v := ?_) rfl (by kernel_rfl) (by kernel_rfl) (by kernel_rfl) (fun _ _ _ h => h) (Or.inl ⟨by rfl, ?_⟩) hS ?_
          rotate_left
          · (intro W hs; go_simp; first | done | with_reducible rfl)
          try simp only [Act.put, List.getElem_toArray, List.getElem_cons_zero, List.getElem_cons_succ, List.setIfInBounds_toArray, List.set_cons_zero, List.set_cons_succ]
          refine wpH_one (i := 5) (by kernel_rfl) rfl (fun K hK => ?_)
          go_simp
          refine (works_any _).mono ?_
          rintro e y3 ⟨rfl, hfi⟩
          have HV1 := Lib.hid (RowV.no HV1.out hfi)
          have HZy3 : Hid (y2.heap.size ≤ y3.heap.size) := Lib.hid hfi.size
          have HSy3 : Hid (Fx No y2 y3) := Lib.hid hfi
          refine hK.out _ _ (hS.trans hfi) (fun hS' => ?_)
          clear hK K hS hfi 
          have hS := hS'
          clear hS'
          try simp only [Act.put, List.getElem_toArray, List.getElem_cons_zero, List.getElem_cons_succ, List.setIfInBounds_toArray, List.set_cons_zero, List.set_cons_succ]
          refine wpAnyH_take (i := 6) (v := ?_) rfl (by kernel_rfl) (by kernel_rfl) (by kernel_rfl) (fun _ _ _ h => h) (Or.inl ⟨by rfl, ?_⟩) hS ?_
          rotate_left
          · (intro W hs; go_simp; first | done | with_reducible rfl)
          try simp only [Act.put, List.getElem_toArray, List.getElem_cons_zero, List.getElem_cons_succ, List.setIfInBounds_toArray, List.set_cons_zero, List.set_cons_succ]
          refine wpH_one (i := 7) (by kernel_rfl) rfl (fun K hK => ?_)
          go_simp
          refine hK.out _ _ hS (fun hS' => ?_)
          clear hK K hS
          have hS := hS'
          clear hS'
          try simp only [Act.put, List.getElem_toArray, List.getElem_cons_zero, List.getElem_cons_succ, List.setIfInBounds_toArray, List.set_cons_zero, List.set_cons_succ]
          refine wpAnyH_done (by kernel_rfl) ?_ _
          have HF := Lib.hid hS
          clear hS hS0 g0 g1 C1
          go_wp2
          go_ret
          exact ⟨rfl, (HFq.out.trans (HQw.out.trans HWz.out)).trans HF.out⟩
end
#print axioms turns_any
end Go.Proofs.Ytcfajeldkioomaa
