/- The law ClosurePlays. -/
import Derived.Test.YtfpggeiphbekoaaGreatDoorA10

namespace Go.Proofs.YtfpggeiphbekoaaGreatDoor
open Go.RowKit
set_option linter.unusedVariables false

section
variable {P : Program} {ops : Array Oper} {Q : Exit → Act → World → Prop} {md : Region.Mode} {S : World → Prop}
/-- two may come up -/
theorem wpH_two {i j : Nat} {oi oj : Oper} {f : Nat} {L : Array Bool} {a : Act} {w : World} (hr : Region.ready md ops L = [i, j]) (hi : ops[i]? = some oi) (hj : ops[j]? = some oj)
    (h1 : ∀ K' : Act → World → Prop, Shut (∀ a w, S w → (S w → wpAnyH P md ops Q S f (L.setIfInBounds i true) a w) → K' a w) → if Region.wanted oi (yielded ops a.tmps) = true then Oper.wp P oi a w K' Q else K' (a.put oi.dst undef) w)
    (h2 : ∀ K' : Act → World → Prop, Shut (∀ a w, S w → (S w → wpAnyH P md ops Q S f (L.setIfInBounds j true) a w) → K' a w) → if Region.wanted oj (yielded ops a.tmps) = true then Oper.wp P oj a w K' Q else K' (a.put oj.dst undef) w) :
    wpAnyH P md ops Q S (f + 1) L a w :=
  wpAnyH_all hr (by simp) fun n hn => by
    rw [List.mem_cons, List.mem_singleton] at hn
    rcases hn with rfl | rfl
    · exact wpOp_step hi (fun K' hK => h1 K' (fun a w hS hW => hK a w ⟨hS, hW hS⟩))
    · exact wpOp_step hj (fun K' hK => h2 K' (fun a w hS hW => hK a w ⟨hS, hW hS⟩))
end
/-- where a round of the law stands: the closure, the reference's closure in its box -/
structure PlS (w ws : World) (D : Nat → Prop) (N rb : Nat) (dn up ed : Nat → Nat) (k : CC) (rv : Value) : Prop where
  clo : Clo ws D N dn up ed k
  ok : CloOk N dn up ed
  r0 : ws.cell? ⟨rb, 0, none⟩ = some (.int .i64 (N : Int)) ∧ ws.frozen? ⟨rb, 0, none⟩ = false
  r1 : ws.cell? ⟨rb, 1, none⟩ = some rv ∧ ws.frozen? ⟨rb, 1, none⟩ = false
  row : PairsV ws (fun x => rb < x) rv (edgesTo N ed N)
  fx : Fx No w ws
  lo : w.heap.size ≤ rb ∧ rb < ws.heap.size ∧ ∀ x, D x → w.heap.size ≤ x ∧ x < rb
theorem PlS.no {w ws w' : World} {D : Nat → Prop} {N rb : Nat} {dn up ed : Nat → Nat} {k : CC} {rv : Value} (h : PlS w ws D N rb dn up ed k rv) (hf : Fx No ws w') : PlS w w' D N rb dn up ed k rv :=
  ⟨h.clo.no hf, h.ok, hf.cellF h.r0.1 h.r0.2 (fun h => h), hf.cellF h.r1.1 h.r1.2 (fun h => h), h.row.no hf, h.fx.trans hf, h.lo.1, by have := hf.size; have := h.lo.2.1; omega, h.lo.2.2⟩
theorem PlS.adds {w ws w' : World} {D : Nat → Prop} {N rb : Nat} {dn up ed dn' up' ed' : Nat → Nat} {k : CC} {rv : Value} (h : PlS w ws D N rb dn up ed k rv) (hf : Fx D ws w') (hc : Clo w' D N dn' up' ed' k) (hok : CloOk N dn' up' ed') (he : PairsV ws (fun x => rb < x) rv (edgesTo N ed' N)) : PlS w w' D N rb dn' up' ed' k rv := by
  have nd : ∀ x, rb ≤ x → ¬ D x := fun x hx hd => by have := (h.lo.2.2 x hd).2; omega
  exact ⟨hc, hok, hf.cellF h.r0.1 h.r0.2 (nd rb (Nat.le_refl _)), hf.cellF h.r1.1 h.r1.2 (nd rb (Nat.le_refl _)), he.keep hf fun x hx hd => nd x (Nat.le_of_lt hx) hd, h.fx.trans' hf fun j h1 h2 => by have := (h.lo.2.2 j h1).1; omega, h.lo.1, by have := hf.size; have := h.lo.2.1; omega, h.lo.2.2⟩
/-- behind the copy: the closure, its copy, the reference's closure, what it was -/
structure PlX (w wr ws : World) (D : Nat → Prop) (N rb : Nat) (dn up ed : Nat → Nat) (k : CC) (rv : Value) (kd : CC) (wb : Nat) : Prop where
  s : PlS w ws D N rb dn up ed k rv
  d : ∃ s0 s1, Clo ws (Iv s0 s1) N dn up ed kd ∧ rb < s0 ∧ s1 ≤ ws.heap.size ∧ (wb < s0 ∨ s1 ≤ wb)
  q0 : ws.cell? ⟨wb, 0, none⟩ = some (.int .i64 (N : Int))
  q1 : ws.cell? ⟨wb, 1, none⟩ = some rv
  wb : wr.heap.size ≤ wb ∧ rb < wb
theorem pls_copyA {w wr w2 : World} {D : Nat → Prop} {N rb : Nat} {dn up ed : Nat → Nat} {k kd : CC} {rv : Value} {t : TypeId} {s : Nat} (hS : PlS w wr D N rb dn up ed k rv) (hf : Fx No wr w2) (hd : ∃ s0 s1, Clo w2 (Iv s0 s1) N dn up ed kd ∧ s ≤ s0 ∧ s1 ≤ w2.heap.size) (hs : wr.heap.size ≤ s) :
    PlX w wr (w2.alloc (.cells #[.int .i64 (N : Int), rv] t)) D N rb dn up ed k rv kd w2.heap.size := by
  obtain ⟨s0, s1, h1, h2, h3⟩ := hd
  have := hS.lo.2.1
  have := hf.size
  exact ⟨(hS.no hf).no ((Fx.refl No _).alloc _), ⟨s0, s1, h1.no ((Fx.refl No _).alloc _), by omega, by simp; omega, .inr h3⟩, by simp, by simp, by omega, by omega⟩
theorem pls_copyB {w wr w2 : World} {D : Nat → Prop} {N rb : Nat} {dn up ed : Nat → Nat} {k kd : CC} {rv a b : Value} {s : Nat} (q0 : w2.cell? ⟨wr.heap.size, 0, none⟩ = some a) (q1 : w2.cell? ⟨wr.heap.size, 1, none⟩ = some b) (hS : PlS w wr D N rb dn up ed k rv) (hf : Fx No wr w2) (hd : ∃ s0 s1, Clo w2 (Iv s0 s1) N dn up ed kd ∧ s ≤ s0 ∧ s1 ≤ w2.heap.size) (hs : wr.heap.size < s) :
    PlX w wr ((w2.setCell ⟨wr.heap.size, 0, none⟩ (.int .i64 (N : Int))).setCell ⟨wr.heap.size, 1, none⟩ rv) D N rb dn up ed k rv kd wr.heap.size := by
  obtain ⟨s0, s1, h1, h2, h3⟩ := hd
  have hl := hS.lo.2.1
  obtain ⟨g1, g2, g3, g4⟩ := put_two w2 (qb := wr.heap.size) (.int .i64 (N : Int)) rv q0 q1
  have hF : Fx No wr ((w2.setCell ⟨wr.heap.size, 0, none⟩ (.int .i64 (N : Int))).setCell ⟨wr.heap.size, 1, none⟩ rv) := (hf.setCell (.inl (Nat.le_refl _)) _).setCell (.inl (Nat.le_refl _)) _
  exact ⟨hS.no hF, ⟨s0, s1, h1.keep g3 fun x hx e => by have := hx.1; have e : x = wr.heap.size := e; omega, by omega, by omega, .inl (by omega)⟩, g1, g2, Nat.le_refl _, hl⟩
/-- behind the reference's Add: r holds the new row, 'was' the old one -/
structure PlY (w wr ws : World) (D : Nat → Prop) (N rb : Nat) (dn up ed ed2 : Nat → Nat) (k : CC) (rv rv2 : Value) (kd : CC) (wb : Nat) : Prop where
  clo : Clo ws D N dn up ed k
  ok : CloOk N dn up ed
  r0 : ws.cell? ⟨rb, 0, none⟩ = some (.int .i64 (N : Int)) ∧ ws.frozen? ⟨rb, 0, none⟩ = false
  r1 : ws.cell? ⟨rb, 1, none⟩ = some rv2 ∧ ws.frozen? ⟨rb, 1, none⟩ = false
  row : PairsV ws (fun x => rb < x) rv (edgesTo N ed N)
  row2 : PairsV ws (fun x => rb < x) rv2 (edgesTo N ed2 N)
  fx : Fx No w ws
  lo : w.heap.size ≤ rb ∧ rb < ws.heap.size ∧ ∀ x, D x → w.heap.size ≤ x ∧ x < rb
  d : ∃ s0 s1, Clo ws (Iv s0 s1) N dn up ed kd ∧ rb < s0 ∧ s1 ≤ ws.heap.size ∧ (wb < s0 ∨ s1 ≤ wb)
  q0 : ws.cell? ⟨wb, 0, none⟩ = some (.int .i64 (N : Int))
  q1 : ws.cell? ⟨wb, 1, none⟩ = some rv
  wb : rb < wb
theorem PlY.no {w wr ws w' : World} {D : Nat → Prop} {N rb wb : Nat} {dn up ed ed2 : Nat → Nat} {k kd : CC} {rv rv2 : Value} (h : PlY w wr ws D N rb dn up ed ed2 k rv rv2 kd wb) (hf : Fx No ws w') : PlY w wr w' D N rb dn up ed ed2 k rv rv2 kd wb := by
  obtain ⟨s0, s1, h1, h2, h3, h4⟩ := h.d
  have hz := hf.size
  exact ⟨h.clo.no hf, h.ok, hf.cellF h.r0.1 h.r0.2 (fun h => h), hf.cellF h.r1.1 h.r1.2 (fun h => h), h.row.no hf, h.row2.no hf, h.fx.trans hf, ⟨h.lo.1, by have := h.lo.2.1; omega, h.lo.2.2⟩, ⟨s0, s1, h1.no hf, h2, by omega, h4⟩, hf.cell' h.q0 (fun h => h), hf.cell' h.q1 (fun h => h), h.wb⟩
theorem ply_add {w wr w1 w2 : World} {D : Nat → Prop} {N rb wb : Nat} {dn up ed ed2 : Nat → Nat} {k kd : CC} {rv rv2 : Value} (h : PlX w wr w1 D N rb dn up ed k rv kd wb) (hf : Fx No w1 w2) (hr : PairsV w2 (fun x => rb < x) rv2 (edgesTo N ed2 N)) :
    PlY w wr ((w2.setCell ⟨rb, 0, none⟩ (.int .i64 (N : Int))).setCell ⟨rb, 1, none⟩ rv2) D N rb dn up ed ed2 k rv rv2 kd wb := by
  have hs := h.s.no hf
  obtain ⟨s0, s1, h1, h2, h3, h4⟩ := h.d
  obtain ⟨g1, g2, g3, g4⟩ := put_two w2 (qb := rb) (.int .i64 (N : Int)) rv2 hs.r0.1 hs.r1.1
  have hz := hf.size
  have hwb := h.wb
  have nr : ∀ x, rb < x → ¬ x = rb := fun x hx e => by omega
  refine ⟨hs.clo.keep g3 fun x hx e => by have := (hs.lo.2.2 x hx).2; have e : x = rb := e; omega, hs.ok, ⟨g1, by simpa using hs.r0.2⟩, ⟨g2, by simpa using hs.r1.2⟩, hs.row.keep g3 fun x hx e => nr x hx e, hr.keep g3 fun x hx e => nr x hx e, hs.fx.trans' g3 fun j e h1 => by have e : j = rb := e; have := hs.lo.1; omega, ⟨hs.lo.1, by have := hs.lo.2.1; omega, hs.lo.2.2⟩, ⟨s0, s1, (h1.no hf).keep g3 fun x hx e => by have := hx.1; have e : x = rb := e; omega, h2, by omega, h4⟩, g3.cell' (hf.cell' h.q0 (fun h => h)) (nr _ hwb.2), g3.cell' (hf.cell' h.q1 (fun h => h)) (nr _ hwb.2), hwb.2⟩
theorem PlY.adds {w wr ws w' : World} {D : Nat → Prop} {N rb wb : Nat} {dn up ed ed2 dn2 up2 : Nat → Nat} {k kd : CC} {rv rv2 : Value} (h : PlY w wr ws D N rb dn up ed ed2 k rv rv2 kd wb) (hf : Fx D ws w') (hc : Clo w' D N dn2 up2 ed2 k) (hok : CloOk N dn2 up2 ed2) :
    PlS w w' D N rb dn2 up2 ed2 k rv2 ∧ (∃ D', Clo w' D' N dn up ed kd) ∧ PairsV w' (fun x => rb < x) rv (edgesTo N ed N) ∧ w'.cell? ⟨wb, 0, none⟩ = some (.int .i64 (N : Int)) ∧ w'.cell? ⟨wb, 1, none⟩ = some rv := by
  have nd : ∀ x, rb ≤ x → ¬ D x := fun x hx hd => by have := (h.lo.2.2 x hd).2; omega
  have hwb := h.wb
  have hz := hf.size
  obtain ⟨s0, s1, h1, h2, h3, h4⟩ := h.d
  refine ⟨⟨hc, hok, hf.cellF h.r0.1 h.r0.2 (nd rb (Nat.le_refl _)), hf.cellF h.r1.1 h.r1.2 (nd rb (Nat.le_refl _)), h.row2.keep hf fun x hx hd => nd x (Nat.le_of_lt hx) hd, h.fx.trans' hf fun j h1 h2 => by have := (h.lo.2.2 j h1).1; omega, ⟨h.lo.1, by have := h.lo.2.1; omega, h.lo.2.2⟩⟩, ⟨_, h1.keep hf fun x hx hd => nd x (by have := hx.1; omega) hd⟩, h.row.keep hf fun x hx hd => nd x (Nat.le_of_lt hx) hd, hf.cell' h.q0 (nd wb (Nat.le_of_lt hwb)), hf.cell' h.q1 (nd wb (Nat.le_of_lt hwb))⟩
theorem edges_in (N : Nat) (ed : Nat → Nat) : ∀ q ∈ edgesTo N ed N, (0 ≤ q.1 ∧ q.1 < (N : Int)) ∧ 0 ≤ q.2 ∧ q.2 < (N : Int) := by
  rintro ⟨a, b⟩ h
  obtain ⟨i, j, h1, h2, h3, h4, _⟩ := mem_edgesTo.1 h
  simp only
  omega
theorem loops_dn {N : Nat} {dn up ed : Nat → Nat} {g : Nat → Nat → Bool} (hok : CloOk N dn up ed) (hg : ∀ i j, i < N → j < N → (g i j = true ↔ Way (edgeP (edgesTo N ed N)) i j)) : loopsG g N = loopsTo dn N := by
  rw [loopsG_congr (g' := fun i j => (dn i).testBit j) (fun i j hi hj => by rw [Bool.eq_iff_iff, hg i j hi hj, hok.dn i j hi hj]), loopsG_dn]
theorem edges_zero (N : Nat) : edgesTo N (fun _ => 0) N = [] := by
  rw [List.eq_nil_iff_forall_not_mem]
  rintro ⟨a, b⟩ h
  obtain ⟨i, j, _, _, _, _, h⟩ := mem_edgesTo.1 h
  simp at h
section
variable {w : World} {E : Nat → Prop} {v : Value} {l : List (Int × Int)}
set_option maxRecDepth 100000 in
set_option maxHeartbeats 8000000 in
theorem plays_any (size : Int) (h : PairsV w E v l) (m : Int) (hT : TabOk w) : Calls Tryz.prog 4 #[.int .i64 size, v, .int .i64 m] w fun e w' => e = .returned (.bool true) ∧ Fx No w w' := by
  obtain ⟨ao, cap, rfl, hcap1, hcap2, hc⟩ := h.facts
  have HP := Lib.hid h
  have HC := Lib.hid hc
  have HT := Lib.hid hT
  have hTl := hT.lt
  clear h hc hT
  by_cases hs1 : 12 < size ∧ size ≤ 1024
  · have d1 : decide ((12 : Int) < size) = true := decide_eq_true hs1.1
    have d2 : decide (size ≤ 1024) = true := decide_eq_true hs1.2
    clear hs1
    go_enter Tryz.func4, Tryz.ntmps4
    go_wp2_with fail
    refine (works_any HT.out).mono ?_
    rintro e w1 ⟨rfl, hf⟩
    have HF := Lib.hid hf
    clear hf
    go_wp2
    go_ret
    exact ⟨rfl, HF.out⟩
  · have hs2 : size ≤ 12 ∨ (12 < size ∧ 1024 < size) := by omega
    by_cases hl : 30 < l.length
    · have d3 : decide ((30 : Int) < (l.length : Int)) = true := decide_eq_true (by omega)
      clear hs1
      rcases hs2 with hs2 | ⟨hs2, hs3⟩
      · have d1 : decide ((12 : Int) < size) = false := decide_eq_false (by omega)
        go_enter Tryz.func4, Tryz.ntmps4
        go_wp2_with fail
        refine (works_any HT.out).mono ?_
        rintro e w1 ⟨rfl, hf⟩
        have HF := Lib.hid hf
        clear hf
        go_wp2
        go_ret
        exact ⟨rfl, HF.out⟩
      · have d1 : decide ((12 : Int) < size) = true := decide_eq_true hs2
        have d2 : decide (size ≤ 1024) = false := decide_eq_false (by omega)
        go_enter Tryz.func4, Tryz.ntmps4
        go_wp2_with fail
        refine (works_any HT.out).mono ?_
        rintro e w1 ⟨rfl, hf⟩
        have HF := Lib.hid hf
        clear hf
        go_wp2
        go_ret
        exact ⟨rfl, HF.out⟩
    · have d3 : decide ((30 : Int) < (l.length : Int)) = false := decide_eq_false (by omega)
      have hl30 : l.length ≤ 30 := by omega
      clear hs1 hl
      by_cases hs3 : 1024 < size
      · have d1 : decide ((12 : Int) < size) = true := decide_eq_true (by omega)
        have d2 : decide (size ≤ 1024) = false := decide_eq_false (by omega)
        have d4 : decide (size < 0) = false := decide_eq_false (by omega)
        have d5 : decide ((1024 : Int) < size) = true := decide_eq_true hs3
        go_enter Tryz.func4, Tryz.ntmps4
        go_wp2_with fail
        refine (cloNew_no size w (.inr hs3)).mono ?_
        rintro e w1 ⟨rfl, rfl⟩
        go_wp2_with fail
        refine (works_any HT.out).mono ?_
        rintro e w1 ⟨rfl, hf⟩
        have HF := Lib.hid hf
        clear hf
        go_wp2
        go_ret
        exact ⟨rfl, HF.out⟩
      · have d1 : decide ((12 : Int) < size) = false := decide_eq_false (by omega)
        by_cases hs4 : size < 0
        · have d4 : decide (size < 0) = true := decide_eq_true hs4
          clear hs2 hs3
          go_enter Tryz.func4, Tryz.ntmps4
          go_wp2_with fail
          refine (cloNew_no size w (.inl hs4)).mono ?_
          rintro e w1 ⟨rfl, rfl⟩
          go_wp2_with fail
          refine (works_any HT.out).mono ?_
          rintro e w1 ⟨rfl, hf⟩
          have HF := Lib.hid hf
          clear hf
          go_wp2
          go_ret
          exact ⟨rfl, HF.out⟩
        · obtain ⟨N, rfl⟩ := Int.eq_ofNat_of_zero_le (by omega : 0 ≤ size)
          have hN : N ≤ 12 := by omega
          have d4 : decide ((N : Int) < 0) = false := decide_eq_false (by omega)
          have d5 : decide ((1024 : Int) < (N : Int)) = false := decide_eq_false (by omega)
          clear hs2 hs3 hs4
          go_enter Tryz.func4, Tryz.ntmps4
          go_wp2_with fail
          refine (cloNew_any N w (by omega)).mono ?_
          rintro e w1 ⟨k, rfl, hf, hC⟩
          have HF1 := Lib.hid hf
          have hz1 := hf.size
          go_wp2
          refine wp_hold (fun W => PlS w W (Iv w.heap.size w1.heap.size) N w1.heap.size (fun _ => 0) (fun _ => 0) (fun _ => 0) k (.slice none 0 0)) ⟨hC.no ((Fx.refl No w1).alloc _), CloOk.start N, ⟨by go_simp, by go_simp⟩, ⟨by go_simp, by go_simp⟩, (by rw [edges_zero]; exact RowV.nil _ _), hf.alloc _, hz1, by simp, fun x hx => ⟨hx.1, hx.2⟩⟩ ?_
          rintro W0 hS
          obtain ⟨rb, hrb⟩ : ∃ r, r = w1.heap.size := ⟨_, rfl⟩
          have HS0 : Hid (PlS w W0 (Iv w.heap.size rb) N rb (fun _ => 0) (fun _ => 0) (fun _ => 0) k (.slice none 0 0)) := Lib.hid (by rw [hrb]; exact hS)
          rw [← hrb]
          have hwr : w.heap.size ≤ rb := by omega
          have HTD : Hid (¬ Iv w.heap.size rb 0) := Lib.hid fun h => by have := h.1; omega
          clear hf hC hS hrb hz1 HF1
          go_loopw [10, 11, 12, 13, 14, 15, 16] (fun i _ _ _ _ _ _ ws => ∃ (I : Nat) (dn up ed : Nat → Nat) (rv : Value), i = .int .i64 I ∧ I ≤ l.length ∧ PlS w ws (Iv w.heap.size rb) N rb dn up ed k rv) (fun i _ _ _ _ _ _ _ => l.length - (intOf i).toNat)
          case atStart => exact ⟨0, _, _, _, _, rfl, Nat.zero_le _, HS0.out⟩
          case round =>
            obtain ⟨I, dn, up, ed, rv, rfl, hI, hS⟩ := hrel
            have HS := Lib.hid hS
            obtain ⟨ro, rc, rfl, _⟩ := hS.row.facts
            obtain ⟨r0, r0f⟩ := hS.r0
            obtain ⟨r1, r1f⟩ := hS.r1
            have hrw := hS.lo.2.1
            have hel := edgesTo_len N ed N
            have hNN : N * N ≤ 144 := Nat.mul_le_mul hN hN
            clear hS
            by_cases hIl : I < l.length
            · have hIn : (I : Int) < (l.length : Int) := by omega
              have hI0 : (0 : Int) ≤ (I : Int) := by omega
              obtain ⟨bl, ol, rfl, _, p1, p2⟩ := HC.out I hIl
              have hblw := World.block_lt_of_cell? w _ p1
              have hblw : bl < w.heap.size := hblw
              have HW1 := Lib.hid p1
              have HW2 := Lib.hid p2
              obtain ⟨a, ha⟩ : ∃ a, a = (gt l I).1 := ⟨_, rfl⟩
              obtain ⟨b, hb⟩ : ∃ a, a = (gt l I).2 := ⟨_, rfl⟩
              rw [← ha] at HW1
              rw [← hb] at HW2
              clear p1 p2 ha hb
              go_wp2_with fail
              have s0 : Fx No wr wr := Fx.refl _ _
              have CCp : Hid (∀ W, Fx No wr W → Calls Tryz.prog 10 #[.pointer (some ⟨k.b, 0, none⟩)] W fun e w' => ∃ k' : CC, e = .returned (.pointer (some ⟨k'.b, 0, none⟩)) ∧ (∀ b o, b < W.heap.size → w'.cell? ⟨b, o, none⟩ = W.cell? ⟨b, o, none⟩) ∧ (∀ b o, b < W.heap.size → w'.frozen? ⟨b, o, none⟩ = W.frozen? ⟨b, o, none⟩) ∧ W.heap.size ≤ w'.heap.size ∧ Hid (Fx No wr w') ∧ Hid (∃ s0 s1, Clo w' (Iv s0 s1) N dn up ed k' ∧ W.heap.size ≤ s0 ∧ s1 ≤ w'.heap.size)) := Lib.hid fun W h => (cloCopy_any (HS.out.clo.no h)).mono fun e w' ⟨k', h1, h2, h3⟩ =>
                ⟨k', h1, fun b o hb => h2.cell (a := ⟨b, o, none⟩) hb (fun h => h), fun b o hb => h2.frozen (a := ⟨b, o, none⟩) hb (fun h => h), h2.size, Lib.hid (h.trans h2), Lib.hid ⟨_, _, h3, Nat.le_refl _, Nat.le_refl _⟩⟩
              have g0 : ∀ W, Fx No wr W → W.cell? ⟨rb, 0, none⟩ = some (.int .i64 (N : Int)) := fun W h => h.cell' r0 (fun h => h)
              have g1 : ∀ W, Fx No wr W → W.cell? ⟨rb, 1, none⟩ = some (.slice ro (edgesTo N ed N).length rc) := fun W h => h.cell' r1 (fun h => h)
              refine wp_region_H (fun W => Fx No wr W) (by kernel_rfl) s0.drew ?_
              intro hS
              refine wpAnyH_take (i := 0) (v := ?_) rfl (by kernel_rfl) (by kernel_rfl) (by kernel_rfl) (fun _ _ _ h => h) (Or.inl ⟨by rfl, ?_⟩) hS ?_
              rotate_left
              · (intro W hs; go_simp; first | done | with_reducible rfl)
              try simp only [Act.put, List.getElem_toArray, List.getElem_cons_zero, List.getElem_cons_succ, List.setIfInBounds_toArray, List.set_cons_zero, List.set_cons_succ]
              refine wpAnyH_take (i := 2) (v := ?_) rfl (by kernel_rfl) (by kernel_rfl) (by kernel_rfl) (fun _ _ _ h => h) (Or.inl ⟨by rfl, ?_⟩) hS ?_
              rotate_left
              · (intro W hs; go_simp; first | done | with_reducible rfl)
              try simp only [Act.put, List.getElem_toArray, List.getElem_cons_zero, List.getElem_cons_succ, List.setIfInBounds_toArray, List.set_cons_zero, List.set_cons_succ]

              refine wpH_two (i := 1) (j := 3) (by kernel_rfl) rfl rfl (fun K hK => ?_) (fun K hK => ?_)
              · go_simp
                refine (CCp.out _ hS).mono ?_
                rintro e w2 ⟨kd, rfl, hk1, hk2, hk3, HFc, HCd⟩
                refine hK.out _ _ (HFc.out) (fun hS' => ?_)
                clear hK K hS
                have hS := hS'
                clear hS'
                try simp only [Act.put, List.getElem_toArray, List.getElem_cons_zero, List.getElem_cons_succ, List.setIfInBounds_toArray, List.set_cons_zero, List.set_cons_succ]
                refine wpH_one (i := 3) (by kernel_rfl) rfl (fun K hK => ?_)
                go_simp
                refine hK.out _ _ (hS.alloc _) (fun hS' => ?_)
                clear hK K hS
                have hS := hS'
                clear hS'
                try simp only [Act.put, List.getElem_toArray, List.getElem_cons_zero, List.getElem_cons_succ, List.setIfInBounds_toArray, List.set_cons_zero, List.set_cons_succ]
                refine wpH_one (i := 4) (by kernel_rfl) rfl (fun K hK => ?_)
                go_simp
                refine hK.out _ _ (hS) (fun hS' => ?_)
                clear hK K hS
                have hS := hS'
                clear hS'
                try simp only [Act.put, List.getElem_toArray, List.getElem_cons_zero, List.getElem_cons_succ, List.setIfInBounds_toArray, List.set_cons_zero, List.set_cons_succ]
                refine wpH_one (i := 5) (by kernel_rfl) rfl (fun K hK => ?_)
                go_simp
                refine hK.out _ _ (HFc.out.alloc _) (fun _ => ?_)
                clear hK K hS
                refine wpAnyH_done (by kernel_rfl) ?_ _
                have HH := Lib.hid (pls_copyA (t := 39) HS.out HFc.out HCd.out (by simp))
                obtain ⟨wb, hwb⟩ : ∃ b, b = w2.heap.size := ⟨_, rfl⟩
                rw [← hwb] at HH ⊢
                clear hk1 hk2 hk3 g0 g1 s0 CCp r0 r0f r1 r1f hwb HFc HCd
                go_wp2_with fail
                refine wp_hold (fun W => PlX w wr W (Iv w.heap.size rb) N rb dn up ed k (.slice ro (edgesTo N ed N).length rc) kd wb) HH.out ?_
                rintro wx hX
                have HX := Lib.hid hX
                have s0 : Fx No wx wx := Fx.refl _ _
                have g0 : ∀ W, Fx No wx W → W.cell? ⟨rb, 0, none⟩ = some (.int .i64 (N : Int)) := fun W h => h.cell' HX.out.s.r0.1 (fun h => h)
                have g1 : ∀ W, Fx No wx W → W.cell? ⟨rb, 1, none⟩ = some (.slice ro (edgesTo N ed N).length rc) := fun W h => h.cell' HX.out.s.r1.1 (fun h => h)
                have f1 : ∀ W, Fx No wx W → W.cell? ⟨bl, ol + I * 2, none⟩ = some (.int .i64 a) := fun W h => (HX.out.s.fx.trans h).cell' HW1.out (fun h => h)
                have f2 : ∀ W, Fx No wx W → W.cell? ⟨bl, ol + I * 2 + 1, none⟩ = some (.int .i64 b) := fun W h => (HX.out.s.fx.trans h).cell' HW2.out (fun h => h)
                obtain ⟨ta, hta⟩ : ∃ t, t = decide (0 ≤ a ∧ a < (N : Int)) := ⟨_, rfl⟩
                obtain ⟨tb, htb⟩ : ∃ t, t = decide (0 ≤ b ∧ b < (N : Int)) := ⟨_, rfl⟩
                have CNa : Hid (∀ W, Fx No wx W → Calls Tryz.prog 11 #[.agg #[.int .i64 (N : Int), .slice ro (edgesTo N ed N).length rc], .int .i64 a] W fun e w' => e = .returned (.bool ta) ∧ Fx No W w') := Lib.hid fun W h => by rw [hta]; exact refNode_any (HX.out.s.row.no h) N a
                have CNb : Hid (∀ W, Fx No wx W → Calls Tryz.prog 11 #[.agg #[.int .i64 (N : Int), .slice ro (edgesTo N ed N).length rc], .int .i64 b] W fun e w' => e = .returned (.bool tb) ∧ Fx No W w') := Lib.hid fun W h => by rw [htb]; exact refNode_any (HX.out.s.row.no h) N b
                have HTa := Lib.hid hta
                have HTb := Lib.hid htb
                have CIs : Hid (∀ W, Fx No wx W → Calls Tryz.prog 16 #[.pointer (some ⟨kd.b, 0, none⟩), .agg #[.int .i64 (N : Int), .slice ro (edgesTo N ed N).length rc], .int .i64 m] W fun e w' => e = .returned (.bool true) ∧ Fx No W w') := Lib.hid fun W h => by
                  obtain ⟨_, _, hc, _⟩ := HX.out.d
                  exact is_any (hc.no h) HX.out.s.ok (HX.out.s.row.no h) (by omega) m (TabOk.keep HT.out (HX.out.s.fx.trans h) (fun h => h))
                clear hX hta htb HH
                by_cases hin : ta = true ∧ tb = true
                · obtain ⟨rfl, rfl⟩ := hin
                  have hA : 0 ≤ a ∧ a < (N : Int) := of_decide_eq_true HTa.out.symm
                  have hB : 0 ≤ b ∧ b < (N : Int) := of_decide_eq_true HTb.out.symm
                  obtain ⟨F, rfl⟩ := Int.eq_ofNat_of_zero_le hA.1
                  obtain ⟨T, rfl⟩ := Int.eq_ofNat_of_zero_le hB.1
                  have hF : F < N := by omega
                  have hTN : T < N := by omega
                  have hwx : rb < wx.heap.size := HX.out.s.lo.2.1
                  have CRa : Hid (∀ W, Fx No wx W → Calls Tryz.prog 12 #[.agg #[.int .i64 (N : Int), .slice ro (edgesTo N ed N).length rc], .agg #[.int .i64 (F : Int), .int .i64 (T : Int)]] W fun e w' => ∃ ro2 rn2 rc2, e = .returned (.agg #[.int .i64 (N : Int), .slice ro2 rn2 rc2]) ∧ Hid (Fx No W w') ∧ Hid (PairsV w' (fun x => rb < x) (.slice ro2 rn2 rc2) (edgesTo N (addEd N ed F T) N))) := Lib.hid fun W h => (refAdd_any (HX.out.s.row.no h) N F T (by omega)).mono fun e w' ⟨v', h1, h2, h3⟩ => by
                    rw [edges_add hF hTN] at h3
                    have hz := h.size
                    have h4 : PairsV w' (fun x => rb < x) v' (edgesTo N (addEd N ed F T) N) := RowV.mono h3 fun x hx => by rcases hx.1 with q | q <;> omega
                    obtain ⟨ao2, cap2, rfl, _⟩ := h4.facts
                    exact ⟨_, _, _, h1, Lib.hid h2, Lib.hid h4⟩
                  clear HTa HTb hA hB
                  go_wp2_with fail
                  refine wp_region_H (fun W => Fx No wx W) (by kernel_rfl) s0.drew ?_
                  intro hS
                  refine wpAnyH_take (i := 0) (v := ?_) rfl (by kernel_rfl) (by kernel_rfl) (by kernel_rfl) (fun _ _ _ h => h) (Or.inl ⟨by rfl, ?_⟩) hS ?_
                  rotate_left
                  · (intro W hs; go_simp; first | done | with_reducible rfl)
                  try simp only [Act.put, List.getElem_toArray, List.getElem_cons_zero, List.getElem_cons_succ, List.setIfInBounds_toArray, List.set_cons_zero, List.set_cons_succ]
                  refine wpAnyH_take (i := 1) (v := ?_) rfl (by kernel_rfl) (by kernel_rfl) (by kernel_rfl) (fun _ _ _ h => h) (Or.inl ⟨by rfl, ?_⟩) hS ?_
                  rotate_left
                  · (intro W hs; go_simp; first | done | with_reducible rfl)
                  try simp only [Act.put, List.getElem_toArray, List.getElem_cons_zero, List.getElem_cons_succ, List.setIfInBounds_toArray, List.set_cons_zero, List.set_cons_succ]
                  refine wpAnyH_take (i := 2) (v := ?_) rfl (by kernel_rfl) (by kernel_rfl) (by kernel_rfl) (fun _ _ _ h => h) (Or.inl ⟨by rfl, ?_⟩) hS ?_
                  rotate_left
                  · (intro W hs; go_simp; first | done | with_reducible rfl)
                  try simp only [Act.put, List.getElem_toArray, List.getElem_cons_zero, List.getElem_cons_succ, List.setIfInBounds_toArray, List.set_cons_zero, List.set_cons_succ]
                  refine wpAnyH_take (i := 3) (v := ?_) rfl (by kernel_rfl) (by kernel_rfl) (by kernel_rfl) (fun _ _ _ h => h) (Or.inl ⟨by rfl, ?_⟩) hS ?_
                  rotate_left
                  · (intro W hs; go_simp; first | done | with_reducible rfl)
                  try simp only [Act.put, List.getElem_toArray, List.getElem_cons_zero, List.getElem_cons_succ, List.setIfInBounds_toArray, List.set_cons_zero, List.set_cons_succ]
                  refine wpAnyH_take (i := 4) (v := ?_) rfl (by kernel_rfl) (by kernel_rfl) (by kernel_rfl) (fun _ _ _ h => h) (Or.inl ⟨by rfl, ?_⟩) hS ?_
                  rotate_left
                  · (intro W hs; go_simp; first | done | with_reducible rfl)
                  try simp only [Act.put, List.getElem_toArray, List.getElem_cons_zero, List.getElem_cons_succ, List.setIfInBounds_toArray, List.set_cons_zero, List.set_cons_succ]
                  refine wpAnyH_take (i := 5) (v := ?_) rfl (by kernel_rfl) (by kernel_rfl) (by kernel_rfl) (fun _ _ _ h => h) (Or.inl ⟨by rfl, ?_⟩) hS ?_
                  rotate_left
                  · (intro W hs; go_simp; first | done | with_reducible rfl)
                  try simp only [Act.put, List.getElem_toArray, List.getElem_cons_zero, List.getElem_cons_succ, List.setIfInBounds_toArray, List.set_cons_zero, List.set_cons_succ]
                  refine wpH_one (i := 6) (by kernel_rfl) rfl (fun K hK => ?_)
                  go_simp
                  refine (CNa.out _ hS).mono ?_
                  rintro e w' ⟨rfl, hfi⟩
                  refine hK.out _ _ (hS.trans hfi) (fun hS' => ?_)
                  clear hK K hS hfi
                  have hS := hS'
                  clear hS'
                  try simp only [Act.put, List.getElem_toArray, List.getElem_cons_zero, List.getElem_cons_succ, List.setIfInBounds_toArray, List.set_cons_zero, List.set_cons_succ]
                  refine wpAnyH_take (i := 7) (v := ?_) rfl (by kernel_rfl) (by kernel_rfl) (by kernel_rfl) (fun _ _ _ h => h) (Or.inl ⟨by rfl, ?_⟩) hS ?_
                  rotate_left
                  · (intro W hs; go_simp; first | done | with_reducible rfl)
                  try simp only [Act.put, List.getElem_toArray, List.getElem_cons_zero, List.getElem_cons_succ, List.setIfInBounds_toArray, List.set_cons_zero, List.set_cons_succ]
                  refine wpAnyH_take (i := 8) (v := ?_) rfl (by kernel_rfl) (by kernel_rfl) (by kernel_rfl) (fun _ _ _ h => h) (Or.inl ⟨by rfl, ?_⟩) hS ?_
                  rotate_left
                  · (intro W hs; go_simp; first | done | with_reducible rfl)
                  try simp only [Act.put, List.getElem_toArray, List.getElem_cons_zero, List.getElem_cons_succ, List.setIfInBounds_toArray, List.set_cons_zero, List.set_cons_succ]
                  refine wpAnyH_take (i := 9) (v := ?_) rfl (by kernel_rfl) (by kernel_rfl) (by kernel_rfl) (fun _ _ _ h => h) (Or.inl ⟨by rfl, ?_⟩) hS ?_
                  rotate_left
                  · (intro W hs; go_simp; first | done | with_reducible rfl)
                  try simp only [Act.put, List.getElem_toArray, List.getElem_cons_zero, List.getElem_cons_succ, List.setIfInBounds_toArray, List.set_cons_zero, List.set_cons_succ]
                  refine wpAnyH_take (i := 10) (v := ?_) rfl (by kernel_rfl) (by kernel_rfl) (by kernel_rfl) (fun _ _ _ h => h) (Or.inl ⟨by rfl, ?_⟩) hS ?_
                  rotate_left
                  · (intro W hs; go_simp; first | done | with_reducible rfl)
                  try simp only [Act.put, List.getElem_toArray, List.getElem_cons_zero, List.getElem_cons_succ, List.setIfInBounds_toArray, List.set_cons_zero, List.set_cons_succ]
                  refine wpAnyH_take (i := 11) (v := ?_) rfl (by kernel_rfl) (by kernel_rfl) (by kernel_rfl) (fun _ _ _ h => h) (Or.inl ⟨by rfl, ?_⟩) hS ?_
                  rotate_left
                  · (intro W hs; go_simp; first | done | with_reducible rfl)
                  try simp only [Act.put, List.getElem_toArray, List.getElem_cons_zero, List.getElem_cons_succ, List.setIfInBounds_toArray, List.set_cons_zero, List.set_cons_succ]
                  refine wpAnyH_take (i := 12) (v := ?_) rfl (by kernel_rfl) (by kernel_rfl) (by kernel_rfl) (fun _ _ _ h => h) (Or.inl ⟨by rfl, ?_⟩) hS ?_
                  rotate_left
                  · (intro W hs; go_simp; first | done | with_reducible rfl)
                  try simp only [Act.put, List.getElem_toArray, List.getElem_cons_zero, List.getElem_cons_succ, List.setIfInBounds_toArray, List.set_cons_zero, List.set_cons_succ]
                  refine wpAnyH_take (i := 13) (v := ?_) rfl (by kernel_rfl) (by kernel_rfl) (by kernel_rfl) (fun _ _ _ h => h) (Or.inl ⟨by rfl, ?_⟩) hS ?_
                  rotate_left
                  · (intro W hs; go_simp; first | done | with_reducible rfl)
                  try simp only [Act.put, List.getElem_toArray, List.getElem_cons_zero, List.getElem_cons_succ, List.setIfInBounds_toArray, List.set_cons_zero, List.set_cons_succ]
                  refine wpH_one (i := 14) (by kernel_rfl) rfl (fun K hK => ?_)
                  go_simp
                  refine (CNb.out _ hS).mono ?_
                  rintro e w' ⟨rfl, hfi⟩
                  refine hK.out _ _ (hS.trans hfi) (fun hS' => ?_)
                  clear hK K hS hfi
                  have hS := hS'
                  clear hS'
                  try simp only [Act.put, List.getElem_toArray, List.getElem_cons_zero, List.getElem_cons_succ, List.setIfInBounds_toArray, List.set_cons_zero, List.set_cons_succ]
                  refine wpAnyH_take (i := 15) (v := ?_) rfl (by kernel_rfl) (by kernel_rfl) (by kernel_rfl) (fun _ _ _ h => h) (Or.inl ⟨by rfl, ?_⟩) hS ?_
                  rotate_left
                  · (intro W hs; go_simp; first | done | with_reducible rfl)
                  try simp only [Act.put, List.getElem_toArray, List.getElem_cons_zero, List.getElem_cons_succ, List.setIfInBounds_toArray, List.set_cons_zero, List.set_cons_succ]
                  refine wpAnyH_done (by kernel_rfl) ?_ _
                  have HF := Lib.hid hS
                  clear hS s0
                  go_wp2_with fail
                  refine wp_region_G 13 (fun b W => b = false → Fx No wx W) (by kernel_rfl) (fun _ => HF.out.drew) ?_
                  intro hS hC
                  refine wpG_take (i := 0) (v := ?_) rfl (by kernel_rfl) (by kernel_rfl) (by kernel_rfl) (by kernel_rfl) (fun _ _ _ h => h) (by decide) (Or.inl ⟨by rfl, ?_⟩) hC hS ?_
                  rotate_left
                  · (intro W hc; have hf := hc rfl; go_simp; first | done | with_reducible rfl)
                  clear hS hC
                  intro hS hC
                  try simp only [Act.put, List.getElem_toArray, List.getElem_cons_zero, List.getElem_cons_succ, List.setIfInBounds_toArray, List.set_cons_zero, List.set_cons_succ]
                  refine wpG_take (i := 1) (v := ?_) rfl (by kernel_rfl) (by kernel_rfl) (by kernel_rfl) (by kernel_rfl) (fun _ _ _ h => h) (by decide) (Or.inl ⟨by rfl, ?_⟩) hC hS ?_
                  rotate_left
                  · (intro W hc; have hf := hc rfl; go_simp; first | done | with_reducible rfl)
                  clear hS hC
                  intro hS hC
                  try simp only [Act.put, List.getElem_toArray, List.getElem_cons_zero, List.getElem_cons_succ, List.setIfInBounds_toArray, List.set_cons_zero, List.set_cons_succ]
                  refine wpG_take (i := 2) (v := ?_) rfl (by kernel_rfl) (by kernel_rfl) (by kernel_rfl) (by kernel_rfl) (fun _ _ _ h => h) (by decide) (Or.inl ⟨by rfl, ?_⟩) hC hS ?_
                  rotate_left
                  · (intro W hc; have hf := hc rfl; go_simp; first | done | with_reducible rfl)
                  clear hS hC
                  intro hS hC
                  try simp only [Act.put, List.getElem_toArray, List.getElem_cons_zero, List.getElem_cons_succ, List.setIfInBounds_toArray, List.set_cons_zero, List.set_cons_succ]
                  refine wpG_take (i := 3) (v := ?_) rfl (by kernel_rfl) (by kernel_rfl) (by kernel_rfl) (by kernel_rfl) (fun _ _ _ h => h) (by decide) (Or.inl ⟨by rfl, ?_⟩) hC hS ?_
                  rotate_left
                  · (intro W hc; have hf := hc rfl; go_simp; first | done | with_reducible rfl)
                  clear hS hC
                  intro hS hC
                  try simp only [Act.put, List.getElem_toArray, List.getElem_cons_zero, List.getElem_cons_succ, List.setIfInBounds_toArray, List.set_cons_zero, List.set_cons_succ]
                  refine wpG_take (i := 4) (v := ?_) rfl (by kernel_rfl) (by kernel_rfl) (by kernel_rfl) (by kernel_rfl) (fun _ _ _ h => h) (by decide) (Or.inl ⟨by rfl, ?_⟩) hC hS ?_
                  rotate_left
                  · (intro W hc; have hf := hc rfl; go_simp; first | done | with_reducible rfl)
                  clear hS hC
                  intro hS hC
                  try simp only [Act.put, List.getElem_toArray, List.getElem_cons_zero, List.getElem_cons_succ, List.setIfInBounds_toArray, List.set_cons_zero, List.set_cons_succ]
                  refine wpG_take (i := 5) (v := ?_) rfl (by kernel_rfl) (by kernel_rfl) (by kernel_rfl) (by kernel_rfl) (fun _ _ _ h => h) (by decide) (Or.inl ⟨by rfl, ?_⟩) hC hS ?_
                  rotate_left
                  · (intro W hc; have hf := hc rfl; go_simp; first | done | with_reducible rfl)
                  clear hS hC
                  intro hS hC
                  try simp only [Act.put, List.getElem_toArray, List.getElem_cons_zero, List.getElem_cons_succ, List.setIfInBounds_toArray, List.set_cons_zero, List.set_cons_succ]
                  refine wpG_take (i := 6) (v := ?_) rfl (by kernel_rfl) (by kernel_rfl) (by kernel_rfl) (by kernel_rfl) (fun _ _ _ h => h) (by decide) (Or.inl ⟨by rfl, ?_⟩) hC hS ?_
                  rotate_left
                  · (intro W hc; have hf := hc rfl; go_simp; first | done | with_reducible rfl)
                  clear hS hC
                  intro hS hC
                  try simp only [Act.put, List.getElem_toArray, List.getElem_cons_zero, List.getElem_cons_succ, List.setIfInBounds_toArray, List.set_cons_zero, List.set_cons_succ]
                  refine wpG_take (i := 7) (v := ?_) rfl (by kernel_rfl) (by kernel_rfl) (by kernel_rfl) (by kernel_rfl) (fun _ _ _ h => h) (by decide) (Or.inl ⟨by rfl, ?_⟩) hC hS ?_
                  rotate_left
                  · (intro W hc; have hf := hc rfl; go_simp; first | done | with_reducible rfl)
                  clear hS hC
                  intro hS hC
                  try simp only [Act.put, List.getElem_toArray, List.getElem_cons_zero, List.getElem_cons_succ, List.setIfInBounds_toArray, List.set_cons_zero, List.set_cons_succ]
                  refine wpG_take (i := 8) (v := ?_) rfl (by kernel_rfl) (by kernel_rfl) (by kernel_rfl) (by kernel_rfl) (fun _ _ _ h => h) (by decide) (Or.inl ⟨by rfl, ?_⟩) hC hS ?_
                  rotate_left
                  · (intro W hc; have hf := hc rfl; go_simp; first | done | with_reducible rfl)
                  clear hS hC
                  intro hS hC
                  try simp only [Act.put, List.getElem_toArray, List.getElem_cons_zero, List.getElem_cons_succ, List.setIfInBounds_toArray, List.set_cons_zero, List.set_cons_succ]
                  refine wpG_take (i := 9) (v := ?_) rfl (by kernel_rfl) (by kernel_rfl) (by kernel_rfl) (by kernel_rfl) (fun _ _ _ h => h) (by decide) (Or.inl ⟨by rfl, ?_⟩) hC hS ?_
                  rotate_left
                  · (intro W hc; have hf := hc rfl; go_simp; first | done | with_reducible rfl)
                  clear hS hC
                  intro hS hC
                  try simp only [Act.put, List.getElem_toArray, List.getElem_cons_zero, List.getElem_cons_succ, List.setIfInBounds_toArray, List.set_cons_zero, List.set_cons_succ]
                  refine wpG_take (i := 10) (v := ?_) rfl (by kernel_rfl) (by kernel_rfl) (by kernel_rfl) (by kernel_rfl) (fun _ _ _ h => h) (by decide) (Or.inl ⟨by rfl, ?_⟩) hC hS ?_
                  rotate_left
                  · (intro W hc; have hf := hc rfl; go_simp; first | done | with_reducible rfl)
                  clear hS hC
                  intro hS hC
                  try simp only [Act.put, List.getElem_toArray, List.getElem_cons_zero, List.getElem_cons_succ, List.setIfInBounds_toArray, List.set_cons_zero, List.set_cons_succ]
                  refine wpG_take (i := 11) (v := ?_) rfl (by kernel_rfl) (by kernel_rfl) (by kernel_rfl) (by kernel_rfl) (fun _ _ _ h => h) (by decide) (Or.inl ⟨by rfl, ?_⟩) hC hS ?_
                  rotate_left
                  · (intro W hc; have hf := hc rfl; go_simp; first | done | with_reducible rfl)
                  clear hS hC
                  intro hS hC
                  try simp only [Act.put, List.getElem_toArray, List.getElem_cons_zero, List.getElem_cons_succ, List.setIfInBounds_toArray, List.set_cons_zero, List.set_cons_succ]
                  refine wpG_one (i := 12) (by kernel_rfl) rfl hC (fun K hK => ?_)
                  go_simp
                  refine (CRa.out _ (hS rfl)).mono ?_
                  rintro e w2 ⟨ro2, rn2, rc2, rfl, hfi, HR2⟩
                  have HF2 : Hid (Fx No wx w2) := Lib.hid ((hS rfl).trans hfi.out)
                  refine hK.out _ _ (fun _ => HF2.out) (fun hS' hC' => ?_)
                  clear hfi HF
                  clear hK K hS hC
                  have hS := hS'
                  have hC := hC'
                  clear hS' hC'
                  try simp only [Act.put, List.getElem_toArray, List.getElem_cons_zero, List.getElem_cons_succ, List.setIfInBounds_toArray, List.set_cons_zero, List.set_cons_succ]
                  refine wpG_one (i := 13) (by kernel_rfl) rfl hC (fun K hK => ?_)
                  have g0' := HF2.out.cellF HX.out.s.r0.1 HX.out.s.r0.2 (fun h => h)
                  have g1' := HF2.out.cellF HX.out.s.r1.1 HX.out.s.r1.2 (fun h => h)
                  obtain ⟨u0, u1⟩ := g0'
                  obtain ⟨u2, u3⟩ := g1'
                  go_simp
                  refine hK.out _ _ (fun h => absurd h (by decide +kernel)) (fun _ _ => ?_)
                  clear hK K hS hC
                  refine wpG_done (by kernel_rfl) ?_ _
                  have HY := Lib.hid (ply_add HX.out HF2.out HR2.out)
                  clear u0 u1 u2 u3 g0 g1 CRa
                  clear HR2 HF2
                  have q0 := HY.out.q0
                  have q1 := HY.out.q1
                  go_wp2_with fail
                  refine (refAll_any HY.out.row (by omega) (edges_in N ed)).mono ?_
                  rintro e w3 ⟨vo, gO, B, g, rfl, hf, hm, hg⟩
                  have HLp : Hid (loopsG g N = loopsTo dn N) := Lib.hid (loops_dn HY.out.ok hg)
                  have HM := Lib.hid hm
                  have HY3 := Lib.hid (HY.out.no hf)
                  clear hf hm hg HY
                  go_wp2_with fail
                  refine (refLoops_any HM.out (by omega)).mono ?_
                  rintro e w4 ⟨v4, rfl, hf, ho⟩
                  rw [HLp.out] at ho
                  obtain ⟨la, lc, rfl, _⟩ := ho.ints.facts
                  have HY4 := Lib.hid (HY3.out.no hf)
                  clear hf ho HY3 HM HLp q0 q1
                  have HOK2 := Lib.hid (CloOk.add HY4.out.ok hF hTN)
                  obtain ⟨cy, hcy⟩ : ∃ c, c = cycB N dn := ⟨_, rfl⟩
                  obtain ⟨cy2, hcy2⟩ : ∃ c, c = cycB N (addDn N dn up ed F T) := ⟨_, rfl⟩
                  obtain ⟨L1, hL1⟩ : ∃ n, n = (loopsTo dn N).length := ⟨_, rfl⟩
                  have hcL : cy = decide (0 < L1) := by rw [hcy, hL1]; rfl
                  rw [← hL1]
                  have HCY := Lib.hid hcy
                  have HCY2 := Lib.hid hcy2
                  clear hcy hcy2 hL1
                  have q2 := HY4.out.r0.1
                  have q3 := HY4.out.r1.1
                  rcases (by omega : 0 < L1 ∨ L1 = 0) with h0 | h0
                  · have d8 : decide ((L1 : Int) = 0) = false := decide_eq_false (by omega)
                    obtain rfl : cy = true := by rw [hcL]; exact decide_eq_true h0
                    clear hcL
                    go_wp2_with fail
                    have HD : Hid (∀ x, (Iv w.heap.size rb) x → x < w4.heap.size) := Lib.hid fun x hx => by have := (HY4.out.lo.2.2 x hx).2; have := HY4.out.lo.2.1; omega
                    have HTz : Hid (TabOk w4) := Lib.hid (TabOk.keep HT.out HY4.out.fx (fun h => h))
                    have s0 : Fx No w4 w4 := Fx.refl _ _
                    have CA : Hid (∀ W, Fx No w4 W → Calls Tryz.prog 15 #[.pointer (some ⟨k.b, 0, none⟩), .int .i64 (F : Int), .int .i64 (T : Int)] W fun e w' => e = .returned (.tuple #[.bool false, .int .i64 0]) ∧ Fx (Iv w.heap.size rb) W w' ∧ Hid (Clo w' (Iv w.heap.size rb) N (addDn N dn up ed F T) (addUp N dn up ed F T) (addEd N ed F T) k)) := Lib.hid fun W h => (cloAdd_any (HY4.out.clo.no h) (fun x hx => Nat.lt_of_lt_of_le (HD.out x hx) h.size) (TabOk.keep HTz.out h (fun h => h)) HTD.out hF hTN).mono fun e w' ⟨h1, h2, h3⟩ => ⟨by rw [h1, ← HCY.out, ← HCY2.out]; rfl, h2, Lib.hid h3⟩
                    have CIs2 : Hid (∀ W, (∃ D', Clo W D' N dn up ed kd) → PairsV W (fun x => rb < x) (.slice ro (edgesTo N ed N).length rc) (edgesTo N ed N) → Fx (Iv w.heap.size rb) w4 W → Calls Tryz.prog 16 #[.pointer (some ⟨kd.b, 0, none⟩), .agg #[.int .i64 (N : Int), .slice ro (edgesTo N ed N).length rc], .int .i64 m] W fun e w' => e = .returned (.bool true) ∧ Fx No W w') := Lib.hid fun W hc hr h => by
                      obtain ⟨_, hc⟩ := hc
                      exact is_any hc HY4.out.ok hr (by omega) m (TabOk.keep HTz.out h HTD.out)
                    clear f1 f2 CIs HX
                    have f1 : ∀ W, Fx (Iv w.heap.size rb) w4 W → W.cell? ⟨bl, ol + I * 2, none⟩ = some (.int .i64 (F : Int)) := fun W h => h.cell' (HY4.out.fx.cell' HW1.out (fun h => h)) (fun hx => absurd hblw (Nat.not_lt.2 hx.1))
                    have f2 : ∀ W, Fx (Iv w.heap.size rb) w4 W → W.cell? ⟨bl, ol + I * 2 + 1, none⟩ = some (.int .i64 (T : Int)) := fun W h => h.cell' (HY4.out.fx.cell' HW2.out (fun h => h)) (fun hx => absurd hblw (Nat.not_lt.2 hx.1))
                    refine wp_region_H (fun W => Fx (Iv w.heap.size rb) w4 W) (by kernel_rfl) (Fx.refl _ _).drew ?_
                    intro hS
                    refine wpAnyH_take (i := 0) (v := ?_) rfl (by kernel_rfl) (by kernel_rfl) (by kernel_rfl) (fun _ _ _ h => h) (Or.inl ⟨by rfl, ?_⟩) hS ?_
                    rotate_left
                    · (intro W hs; go_simp; first | done | with_reducible rfl)
                    try simp only [Act.put, List.getElem_toArray, List.getElem_cons_zero, List.getElem_cons_succ, List.setIfInBounds_toArray, List.set_cons_zero, List.set_cons_succ]
                    refine wpAnyH_take (i := 1) (v := ?_) rfl (by kernel_rfl) (by kernel_rfl) (by kernel_rfl) (fun _ _ _ h => h) (Or.inl ⟨by rfl, ?_⟩) hS ?_
                    rotate_left
                    · (intro W hs; go_simp; first | done | with_reducible rfl)
                    try simp only [Act.put, List.getElem_toArray, List.getElem_cons_zero, List.getElem_cons_succ, List.setIfInBounds_toArray, List.set_cons_zero, List.set_cons_succ]
                    refine wpAnyH_take (i := 2) (v := ?_) rfl (by kernel_rfl) (by kernel_rfl) (by kernel_rfl) (fun _ _ _ h => h) (Or.inl ⟨by rfl, ?_⟩) hS ?_
                    rotate_left
                    · (intro W hs; go_simp; first | done | with_reducible rfl)
                    try simp only [Act.put, List.getElem_toArray, List.getElem_cons_zero, List.getElem_cons_succ, List.setIfInBounds_toArray, List.set_cons_zero, List.set_cons_succ]
                    refine wpAnyH_take (i := 3) (v := ?_) rfl (by kernel_rfl) (by kernel_rfl) (by kernel_rfl) (fun _ _ _ h => h) (Or.inl ⟨by rfl, ?_⟩) hS ?_
                    rotate_left
                    · (intro W hs; go_simp; first | done | with_reducible rfl)
                    try simp only [Act.put, List.getElem_toArray, List.getElem_cons_zero, List.getElem_cons_succ, List.setIfInBounds_toArray, List.set_cons_zero, List.set_cons_succ]
                    refine wpAnyH_take (i := 4) (v := ?_) rfl (by kernel_rfl) (by kernel_rfl) (by kernel_rfl) (fun _ _ _ h => h) (Or.inl ⟨by rfl, ?_⟩) hS ?_
                    rotate_left
                    · (intro W hs; go_simp; first | done | with_reducible rfl)
                    try simp only [Act.put, List.getElem_toArray, List.getElem_cons_zero, List.getElem_cons_succ, List.setIfInBounds_toArray, List.set_cons_zero, List.set_cons_succ]
                    refine wpAnyH_take (i := 5) (v := ?_) rfl (by kernel_rfl) (by kernel_rfl) (by kernel_rfl) (fun _ _ _ h => h) (Or.inl ⟨by rfl, ?_⟩) hS ?_
                    rotate_left
                    · (intro W hs; go_simp; first | done | with_reducible rfl)
                    try simp only [Act.put, List.getElem_toArray, List.getElem_cons_zero, List.getElem_cons_succ, List.setIfInBounds_toArray, List.set_cons_zero, List.set_cons_succ]
                    refine wpAnyH_take (i := 6) (v := ?_) rfl (by kernel_rfl) (by kernel_rfl) (by kernel_rfl) (fun _ _ _ h => h) (Or.inl ⟨by rfl, ?_⟩) hS ?_
                    rotate_left
                    · (intro W hs; go_simp; first | done | with_reducible rfl)
                    try simp only [Act.put, List.getElem_toArray, List.getElem_cons_zero, List.getElem_cons_succ, List.setIfInBounds_toArray, List.set_cons_zero, List.set_cons_succ]
                    refine wpAnyH_take (i := 7) (v := ?_) rfl (by kernel_rfl) (by kernel_rfl) (by kernel_rfl) (fun _ _ _ h => h) (Or.inl ⟨by rfl, ?_⟩) hS ?_
                    rotate_left
                    · (intro W hs; go_simp; first | done | with_reducible rfl)
                    try simp only [Act.put, List.getElem_toArray, List.getElem_cons_zero, List.getElem_cons_succ, List.setIfInBounds_toArray, List.set_cons_zero, List.set_cons_succ]
                    refine wpAnyH_take (i := 8) (v := ?_) rfl (by kernel_rfl) (by kernel_rfl) (by kernel_rfl) (fun _ _ _ h => h) (Or.inl ⟨by rfl, ?_⟩) hS ?_
                    rotate_left
                    · (intro W hs; go_simp; first | done | with_reducible rfl)
                    try simp only [Act.put, List.getElem_toArray, List.getElem_cons_zero, List.getElem_cons_succ, List.setIfInBounds_toArray, List.set_cons_zero, List.set_cons_succ]
                    refine wpAnyH_take (i := 9) (v := ?_) rfl (by kernel_rfl) (by kernel_rfl) (by kernel_rfl) (fun _ _ _ h => h) (Or.inl ⟨by rfl, ?_⟩) hS ?_
                    rotate_left
                    · (intro W hs; go_simp; first | done | with_reducible rfl)
                    try simp only [Act.put, List.getElem_toArray, List.getElem_cons_zero, List.getElem_cons_succ, List.setIfInBounds_toArray, List.set_cons_zero, List.set_cons_succ]
                    refine wpAnyH_take (i := 10) (v := ?_) rfl (by kernel_rfl) (by kernel_rfl) (by kernel_rfl) (fun _ _ _ h => h) (Or.inl ⟨by rfl, ?_⟩) hS ?_
                    rotate_left
                    · (intro W hs; go_simp; first | done | with_reducible rfl)
                    try simp only [Act.put, List.getElem_toArray, List.getElem_cons_zero, List.getElem_cons_succ, List.setIfInBounds_toArray, List.set_cons_zero, List.set_cons_succ]
                    refine wpH_one (i := 11) (by kernel_rfl) rfl (fun K hK => ?_)
                    go_simp
                    refine (CA.out _ s0.drew).mono ?_
                    rintro e w8 ⟨rfl, hfi, HCL⟩
                    refine hK.out _ _ (hS.trans hfi) (fun hS' => ?_)
                    clear hK K hS hfi
                    have hS := hS'
                    clear hS'
                    try simp only [Act.put, List.getElem_toArray, List.getElem_cons_zero, List.getElem_cons_succ, List.setIfInBounds_toArray, List.set_cons_zero, List.set_cons_succ]
                    refine wpAnyH_take (i := 12) (v := ?_) rfl (by kernel_rfl) (by kernel_rfl) (by kernel_rfl) (fun _ _ _ h => h) (Or.inl ⟨by rfl, ?_⟩) hS ?_
                    rotate_left
                    · (intro W hs; go_simp; first | done | with_reducible rfl)
                    try simp only [Act.put, List.getElem_toArray, List.getElem_cons_zero, List.getElem_cons_succ, List.setIfInBounds_toArray, List.set_cons_zero, List.set_cons_succ]
                    refine wpAnyH_take (i := 13) (v := ?_) rfl (by kernel_rfl) (by kernel_rfl) (by kernel_rfl) (fun _ _ _ h => h) (Or.inl ⟨by rfl, ?_⟩) hS ?_
                    rotate_left
                    · (intro W hs; go_simp; first | done | with_reducible rfl)
                    try simp only [Act.put, List.getElem_toArray, List.getElem_cons_zero, List.getElem_cons_succ, List.setIfInBounds_toArray, List.set_cons_zero, List.set_cons_succ]
                    refine wpAnyH_take (i := 14) (v := ?_) rfl (by kernel_rfl) (by kernel_rfl) (by kernel_rfl) (fun _ _ _ h => h) (Or.inl ⟨by rfl, ?_⟩) hS ?_
                    rotate_left
                    · (intro W hs; go_simp; first | done | with_reducible rfl)
                    try simp only [Act.put, List.getElem_toArray, List.getElem_cons_zero, List.getElem_cons_succ, List.setIfInBounds_toArray, List.set_cons_zero, List.set_cons_succ]
                    refine wpAnyH_take (i := 15) (v := ?_) rfl (by kernel_rfl) (by kernel_rfl) (by kernel_rfl) (fun _ _ _ h => h) (Or.inl ⟨by rfl, ?_⟩) hS ?_
                    rotate_left
                    · (intro W hs; go_simp; first | done | with_reducible rfl)
                    try simp only [Act.put, List.getElem_toArray, List.getElem_cons_zero, List.getElem_cons_succ, List.setIfInBounds_toArray, List.set_cons_zero, List.set_cons_succ]
                    refine wpAnyH_take (i := 16) (v := ?_) rfl (by kernel_rfl) (by kernel_rfl) (by kernel_rfl) (fun _ _ _ h => h) (Or.inl ⟨by rfl, ?_⟩) hS ?_
                    rotate_left
                    · (intro W hs; go_simp; first | done | with_reducible rfl)
                    try simp only [Act.put, List.getElem_toArray, List.getElem_cons_zero, List.getElem_cons_succ, List.setIfInBounds_toArray, List.set_cons_zero, List.set_cons_succ]
                    refine wpAnyH_done (by kernel_rfl) ?_ _
                    obtain ⟨hS2, hd, hr, p0, p1⟩ := PlY.adds HY4.out hS HCL.out HOK2.out
                    have HS2 := Lib.hid hS2
                    have HF := Lib.hid hS
                    have Hd := Lib.hid hd
                    have Hr := Lib.hid hr
                    clear hS2 hd hr f1 f2 hS CA s0 HCL HCY HCY2
                    obtain ⟨c4, hc4⟩ : ∃ c, I % 4 = c := ⟨_, rfl⟩
                    have hc5 : (I : Int) % 4 = (c4 : Int) := by omega
                    have hc6 : (I : Int).tmod 4 = (c4 : Int) := by rw [← hc4]; rfl
                    rcases (by omega : c4 ≠ 0 ∨ c4 = 0) with hc0 | hc0
                    · have hc7 : decide ((c4 : Int) = 0) = false := decide_eq_false (by omega)
                      have hc8 : ¬ ((c4 : Int) = 0) := by omega
                      go_wp2_with fail
                      refine ⟨⟨I + 1, _, _, _, _, by go_num, by omega, HS2.out⟩, ?_⟩
                      simp [intOf]
                      omega
                    · have hc7 : decide ((c4 : Int) = 0) = true := decide_eq_true (by omega)
                      have hc8 : (c4 : Int) = 0 := by omega
                      go_wp2_with fail
                      refine (CIs2.out _ Hd.out Hr.out HF.out).mono ?_
                      rintro e w9 ⟨rfl, hfi⟩
                      have HS3 := Lib.hid (HS2.out.no hfi)
                      clear hfi
                      go_wp2
                      refine ⟨⟨I + 1, _, _, _, _, by go_num, by omega, HS3.out⟩, ?_⟩
                      simp [intOf]
                      omega
                  · subst h0
                    obtain rfl : cy = false := by rw [hcL]; rfl
                    clear hcL
                    go_wp2_with fail
                    refine (refAll_any HY4.out.row2 (by omega) (edges_in N _)).mono ?_
                    rintro e w5 ⟨vo, gO, B, g, rfl, hf, hm, hg⟩
                    have HLp : Hid (loopsG g N = loopsTo (addDn N dn up ed F T) N) := Lib.hid (loops_dn HOK2.out hg)
                    have HM := Lib.hid hm
                    have HY5 := Lib.hid (HY4.out.no hf)
                    clear hf hm hg HY4 q2 q3
                    go_wp2_with fail
                    refine (refLoops_any HM.out (by omega)).mono ?_
                    rintro e w6 ⟨v4, rfl, hf, ho⟩
                    rw [HLp.out] at ho
                    obtain ⟨la2, lc2, rfl, _⟩ := ho.ints.facts
                    have HY4 := Lib.hid (HY5.out.no hf)
                    clear hf ho HY5 HM HLp
                    obtain ⟨L2, hL2⟩ : ∃ n, n = (loopsTo (addDn N dn up ed F T) N).length := ⟨_, rfl⟩
                    have d9 : decide ((0 : Int) < (L2 : Int)) = cy2 := by rw [HCY2.out, hL2]; unfold cycB; simp
                    rw [← hL2]
                    clear hL2
                    go_wp2_with fail
                    have HD : Hid (∀ x, (Iv w.heap.size rb) x → x < w6.heap.size) := Lib.hid fun x hx => by have := (HY4.out.lo.2.2 x hx).2; have := HY4.out.lo.2.1; omega
                    have HTz : Hid (TabOk w6) := Lib.hid (TabOk.keep HT.out HY4.out.fx (fun h => h))
                    have s0 : Fx No w6 w6 := Fx.refl _ _
                    have CA : Hid (∀ W, Fx No w6 W → Calls Tryz.prog 15 #[.pointer (some ⟨k.b, 0, none⟩), .int .i64 (F : Int), .int .i64 (T : Int)] W fun e w' => e = .returned (.tuple #[.bool cy2, .int .i64 0]) ∧ Fx (Iv w.heap.size rb) W w' ∧ Hid (Clo w' (Iv w.heap.size rb) N (addDn N dn up ed F T) (addUp N dn up ed F T) (addEd N ed F T) k)) := Lib.hid fun W h => (cloAdd_any (HY4.out.clo.no h) (fun x hx => Nat.lt_of_lt_of_le (HD.out x hx) h.size) (TabOk.keep HTz.out h (fun h => h)) HTD.out hF hTN).mono fun e w' ⟨h1, h2, h3⟩ => ⟨by rw [h1, ← HCY.out, ← HCY2.out]; rfl, h2, Lib.hid h3⟩
                    have CIs2 : Hid (∀ W, (∃ D', Clo W D' N dn up ed kd) → PairsV W (fun x => rb < x) (.slice ro (edgesTo N ed N).length rc) (edgesTo N ed N) → Fx (Iv w.heap.size rb) w6 W → Calls Tryz.prog 16 #[.pointer (some ⟨kd.b, 0, none⟩), .agg #[.int .i64 (N : Int), .slice ro (edgesTo N ed N).length rc], .int .i64 m] W fun e w' => e = .returned (.bool true) ∧ Fx No W w') := Lib.hid fun W hc hr h => by
                      obtain ⟨_, hc⟩ := hc
                      exact is_any hc HY4.out.ok hr (by omega) m (TabOk.keep HTz.out h HTD.out)
                    clear f1 f2 CIs HX
                    have f1 : ∀ W, Fx (Iv w.heap.size rb) w6 W → W.cell? ⟨bl, ol + I * 2, none⟩ = some (.int .i64 (F : Int)) := fun W h => h.cell' (HY4.out.fx.cell' HW1.out (fun h => h)) (fun hx => absurd hblw (Nat.not_lt.2 hx.1))
                    have f2 : ∀ W, Fx (Iv w.heap.size rb) w6 W → W.cell? ⟨bl, ol + I * 2 + 1, none⟩ = some (.int .i64 (T : Int)) := fun W h => h.cell' (HY4.out.fx.cell' HW2.out (fun h => h)) (fun hx => absurd hblw (Nat.not_lt.2 hx.1))
                    refine wp_region_H (fun W => Fx (Iv w.heap.size rb) w6 W) (by kernel_rfl) (Fx.refl _ _).drew ?_
                    intro hS
                    refine wpAnyH_take (i := 0) (v := ?_) rfl (by kernel_rfl) (by kernel_rfl) (by kernel_rfl) (fun _ _ _ h => h) (Or.inl ⟨by rfl, ?_⟩) hS ?_
                    rotate_left
                    · (intro W hs; go_simp; first | done | with_reducible rfl)
                    try simp only [Act.put, List.getElem_toArray, List.getElem_cons_zero, List.getElem_cons_succ, List.setIfInBounds_toArray, List.set_cons_zero, List.set_cons_succ]
                    refine wpAnyH_take (i := 1) (v := ?_) rfl (by kernel_rfl) (by kernel_rfl) (by kernel_rfl) (fun _ _ _ h => h) (Or.inl ⟨by rfl, ?_⟩) hS ?_
                    rotate_left
                    · (intro W hs; go_simp; first | done | with_reducible rfl)
                    try simp only [Act.put, List.getElem_toArray, List.getElem_cons_zero, List.getElem_cons_succ, List.setIfInBounds_toArray, List.set_cons_zero, List.set_cons_succ]
                    refine wpAnyH_take (i := 2) (v := ?_) rfl (by kernel_rfl) (by kernel_rfl) (by kernel_rfl) (fun _ _ _ h => h) (Or.inl ⟨by rfl, ?_⟩) hS ?_
                    rotate_left
                    · (intro W hs; go_simp; first | done | with_reducible rfl)
                    try simp only [Act.put, List.getElem_toArray, List.getElem_cons_zero, List.getElem_cons_succ, List.setIfInBounds_toArray, List.set_cons_zero, List.set_cons_succ]
                    refine wpAnyH_take (i := 3) (v := ?_) rfl (by kernel_rfl) (by kernel_rfl) (by kernel_rfl) (fun _ _ _ h => h) (Or.inl ⟨by rfl, ?_⟩) hS ?_
                    rotate_left
                    · (intro W hs; go_simp; first | done | with_reducible rfl)
                    try simp only [Act.put, List.getElem_toArray, List.getElem_cons_zero, List.getElem_cons_succ, List.setIfInBounds_toArray, List.set_cons_zero, List.set_cons_succ]
                    refine wpAnyH_take (i := 4) (v := ?_) rfl (by kernel_rfl) (by kernel_rfl) (by kernel_rfl) (fun _ _ _ h => h) (Or.inl ⟨by rfl, ?_⟩) hS ?_
                    rotate_left
                    · (intro W hs; go_simp; first | done | with_reducible rfl)
                    try simp only [Act.put, List.getElem_toArray, List.getElem_cons_zero, List.getElem_cons_succ, List.setIfInBounds_toArray, List.set_cons_zero, List.set_cons_succ]
                    refine wpAnyH_take (i := 5) (v := ?_) rfl (by kernel_rfl) (by kernel_rfl) (by kernel_rfl) (fun _ _ _ h => h) (Or.inl ⟨by rfl, ?_⟩) hS ?_
                    rotate_left
                    · (intro W hs; go_simp; first | done | with_reducible rfl)
                    try simp only [Act.put, List.getElem_toArray, List.getElem_cons_zero, List.getElem_cons_succ, List.setIfInBounds_toArray, List.set_cons_zero, List.set_cons_succ]
                    refine wpAnyH_take (i := 6) (v := ?_) rfl (by kernel_rfl) (by kernel_rfl) (by kernel_rfl) (fun _ _ _ h => h) (Or.inl ⟨by rfl, ?_⟩) hS ?_
                    rotate_left
                    · (intro W hs; go_simp; first | done | with_reducible rfl)
                    try simp only [Act.put, List.getElem_toArray, List.getElem_cons_zero, List.getElem_cons_succ, List.setIfInBounds_toArray, List.set_cons_zero, List.set_cons_succ]
                    refine wpAnyH_take (i := 7) (v := ?_) rfl (by kernel_rfl) (by kernel_rfl) (by kernel_rfl) (fun _ _ _ h => h) (Or.inl ⟨by rfl, ?_⟩) hS ?_
                    rotate_left
                    · (intro W hs; go_simp; first | done | with_reducible rfl)
                    try simp only [Act.put, List.getElem_toArray, List.getElem_cons_zero, List.getElem_cons_succ, List.setIfInBounds_toArray, List.set_cons_zero, List.set_cons_succ]
                    refine wpAnyH_take (i := 8) (v := ?_) rfl (by kernel_rfl) (by kernel_rfl) (by kernel_rfl) (fun _ _ _ h => h) (Or.inl ⟨by rfl, ?_⟩) hS ?_
                    rotate_left
                    · (intro W hs; go_simp; first | done | with_reducible rfl)
                    try simp only [Act.put, List.getElem_toArray, List.getElem_cons_zero, List.getElem_cons_succ, List.setIfInBounds_toArray, List.set_cons_zero, List.set_cons_succ]
                    refine wpAnyH_take (i := 9) (v := ?_) rfl (by kernel_rfl) (by kernel_rfl) (by kernel_rfl) (fun _ _ _ h => h) (Or.inl ⟨by rfl, ?_⟩) hS ?_
                    rotate_left
                    · (intro W hs; go_simp; first | done | with_reducible rfl)
                    try simp only [Act.put, List.getElem_toArray, List.getElem_cons_zero, List.getElem_cons_succ, List.setIfInBounds_toArray, List.set_cons_zero, List.set_cons_succ]
                    refine wpAnyH_take (i := 10) (v := ?_) rfl (by kernel_rfl) (by kernel_rfl) (by kernel_rfl) (fun _ _ _ h => h) (Or.inl ⟨by rfl, ?_⟩) hS ?_
                    rotate_left
                    · (intro W hs; go_simp; first | done | with_reducible rfl)
                    try simp only [Act.put, List.getElem_toArray, List.getElem_cons_zero, List.getElem_cons_succ, List.setIfInBounds_toArray, List.set_cons_zero, List.set_cons_succ]
                    refine wpH_one (i := 11) (by kernel_rfl) rfl (fun K hK => ?_)
                    go_simp
                    refine (CA.out _ s0.drew).mono ?_
                    rintro e w8 ⟨rfl, hfi, HCL⟩
                    refine hK.out _ _ (hS.trans hfi) (fun hS' => ?_)
                    clear hK K hS hfi
                    have hS := hS'
                    clear hS'
                    try simp only [Act.put, List.getElem_toArray, List.getElem_cons_zero, List.getElem_cons_succ, List.setIfInBounds_toArray, List.set_cons_zero, List.set_cons_succ]
                    refine wpAnyH_take (i := 12) (v := ?_) rfl (by kernel_rfl) (by kernel_rfl) (by kernel_rfl) (fun _ _ _ h => h) (Or.inl ⟨by rfl, ?_⟩) hS ?_
                    rotate_left
                    · (intro W hs; go_simp; first | done | with_reducible rfl)
                    try simp only [Act.put, List.getElem_toArray, List.getElem_cons_zero, List.getElem_cons_succ, List.setIfInBounds_toArray, List.set_cons_zero, List.set_cons_succ]
                    refine wpAnyH_take (i := 13) (v := ?_) rfl (by kernel_rfl) (by kernel_rfl) (by kernel_rfl) (fun _ _ _ h => h) (Or.inl ⟨by rfl, ?_⟩) hS ?_
                    rotate_left
                    · (intro W hs; go_simp; first | done | with_reducible rfl)
                    try simp only [Act.put, List.getElem_toArray, List.getElem_cons_zero, List.getElem_cons_succ, List.setIfInBounds_toArray, List.set_cons_zero, List.set_cons_succ]
                    refine wpAnyH_take (i := 14) (v := ?_) rfl (by kernel_rfl) (by kernel_rfl) (by kernel_rfl) (fun _ _ _ h => h) (Or.inl ⟨by rfl, ?_⟩) hS ?_
                    rotate_left
                    · (intro W hs; go_simp; first | done | with_reducible rfl)
                    try simp only [Act.put, List.getElem_toArray, List.getElem_cons_zero, List.getElem_cons_succ, List.setIfInBounds_toArray, List.set_cons_zero, List.set_cons_succ]
                    refine wpAnyH_take (i := 15) (v := ?_) rfl (by kernel_rfl) (by kernel_rfl) (by kernel_rfl) (fun _ _ _ h => h) (Or.inl ⟨by rfl, ?_⟩) hS ?_
                    rotate_left
                    · (intro W hs; go_simp; first | done | with_reducible rfl)
                    try simp only [Act.put, List.getElem_toArray, List.getElem_cons_zero, List.getElem_cons_succ, List.setIfInBounds_toArray, List.set_cons_zero, List.set_cons_succ]
                    refine wpAnyH_take (i := 16) (v := ?_) rfl (by kernel_rfl) (by kernel_rfl) (by kernel_rfl) (fun _ _ _ h => h) (Or.inl ⟨by rfl, ?_⟩) hS ?_
                    rotate_left
                    · (intro W hs; go_simp; first | done | with_reducible rfl)
                    try simp only [Act.put, List.getElem_toArray, List.getElem_cons_zero, List.getElem_cons_succ, List.setIfInBounds_toArray, List.set_cons_zero, List.set_cons_succ]
                    refine wpAnyH_done (by kernel_rfl) ?_ _
                    obtain ⟨hS2, hd, hr, p0, p1⟩ := PlY.adds HY4.out hS HCL.out HOK2.out
                    have HS2 := Lib.hid hS2
                    have HF := Lib.hid hS
                    have Hd := Lib.hid hd
                    have Hr := Lib.hid hr
                    clear hS2 hd hr f1 f2 hS CA s0 HCL HCY HCY2
                    obtain ⟨c4, hc4⟩ : ∃ c, I % 4 = c := ⟨_, rfl⟩
                    have hc5 : (I : Int) % 4 = (c4 : Int) := by omega
                    have hc6 : (I : Int).tmod 4 = (c4 : Int) := by rw [← hc4]; rfl
                    rcases (by omega : c4 ≠ 0 ∨ c4 = 0) with hc0 | hc0
                    · have hc7 : decide ((c4 : Int) = 0) = false := decide_eq_false (by omega)
                      have hc8 : ¬ ((c4 : Int) = 0) := by omega
                      go_wp2_with fail
                      refine ⟨⟨I + 1, _, _, _, _, by go_num, by omega, HS2.out⟩, ?_⟩
                      simp [intOf]
                      omega
                      · exact absurd (by rw [← d9]; simp) (by assumption : ¬ cy2 = decide (0 < L2))
                    · have hc7 : decide ((c4 : Int) = 0) = true := decide_eq_true (by omega)
                      have hc8 : (c4 : Int) = 0 := by omega
                      go_wp2_with fail
                      refine (CIs2.out _ Hd.out Hr.out HF.out).mono ?_
                      rintro e w9 ⟨rfl, hfi⟩
                      have HS3 := Lib.hid (HS2.out.no hfi)
                      clear hfi
                      go_wp2
                      refine ⟨⟨I + 1, _, _, _, _, by go_num, by omega, HS3.out⟩, ?_⟩
                      simp [intOf]
                      omega
                      · exact absurd (by rw [← d9]; simp) (by assumption : ¬ cy2 = decide (0 < L2))
                · have HNo : Hid (¬ (0 ≤ a ∧ a < (N : Int)) ∨ ¬ (0 ≤ b ∧ b < (N : Int))) := Lib.hid (by
                    have h1 := HTa.out
                    have h2 := HTb.out
                    clear s0
                    cases ta
                    · exact .inl (of_decide_eq_false h1.symm)
                    · cases tb
                      · exact .inr (of_decide_eq_false h2.symm)
                      · exact absurd ⟨rfl, rfl⟩ hin)
                  have hta : ta = false ∨ (ta = true ∧ tb = false) := by cases ta <;> cases tb <;> simp_all
                  clear hin HTa HTb
                  rcases hta with rfl | ⟨rfl, rfl⟩
                  · go_wp2_with fail
                    refine wp_region_H (fun W => Fx No wx W) (by kernel_rfl) s0.drew ?_
                    intro hS
                    refine wpAnyH_take (i := 0) (v := ?_) rfl (by kernel_rfl) (by kernel_rfl) (by kernel_rfl) (fun _ _ _ h => h) (Or.inl ⟨by rfl, ?_⟩) hS ?_
                    rotate_left
                    · (intro W hs; go_simp; first | done | with_reducible rfl)
                    try simp only [Act.put, List.getElem_toArray, List.getElem_cons_zero, List.getElem_cons_succ, List.setIfInBounds_toArray, List.set_cons_zero, List.set_cons_succ]
                    refine wpAnyH_take (i := 1) (v := ?_) rfl (by kernel_rfl) (by kernel_rfl) (by kernel_rfl) (fun _ _ _ h => h) (Or.inl ⟨by rfl, ?_⟩) hS ?_
                    rotate_left
                    · (intro W hs; go_simp; first | done | with_reducible rfl)
                    try simp only [Act.put, List.getElem_toArray, List.getElem_cons_zero, List.getElem_cons_succ, List.setIfInBounds_toArray, List.set_cons_zero, List.set_cons_succ]
                    refine wpAnyH_take (i := 2) (v := ?_) rfl (by kernel_rfl) (by kernel_rfl) (by kernel_rfl) (fun _ _ _ h => h) (Or.inl ⟨by rfl, ?_⟩) hS ?_
                    rotate_left
                    · (intro W hs; go_simp; first | done | with_reducible rfl)
                    try simp only [Act.put, List.getElem_toArray, List.getElem_cons_zero, List.getElem_cons_succ, List.setIfInBounds_toArray, List.set_cons_zero, List.set_cons_succ]
                    refine wpAnyH_take (i := 3) (v := ?_) rfl (by kernel_rfl) (by kernel_rfl) (by kernel_rfl) (fun _ _ _ h => h) (Or.inl ⟨by rfl, ?_⟩) hS ?_
                    rotate_left
                    · (intro W hs; go_simp; first | done | with_reducible rfl)
                    try simp only [Act.put, List.getElem_toArray, List.getElem_cons_zero, List.getElem_cons_succ, List.setIfInBounds_toArray, List.set_cons_zero, List.set_cons_succ]
                    refine wpAnyH_take (i := 4) (v := ?_) rfl (by kernel_rfl) (by kernel_rfl) (by kernel_rfl) (fun _ _ _ h => h) (Or.inl ⟨by rfl, ?_⟩) hS ?_
                    rotate_left
                    · (intro W hs; go_simp; first | done | with_reducible rfl)
                    try simp only [Act.put, List.getElem_toArray, List.getElem_cons_zero, List.getElem_cons_succ, List.setIfInBounds_toArray, List.set_cons_zero, List.set_cons_succ]
                    refine wpAnyH_take (i := 5) (v := ?_) rfl (by kernel_rfl) (by kernel_rfl) (by kernel_rfl) (fun _ _ _ h => h) (Or.inl ⟨by rfl, ?_⟩) hS ?_
                    rotate_left
                    · (intro W hs; go_simp; first | done | with_reducible rfl)
                    try simp only [Act.put, List.getElem_toArray, List.getElem_cons_zero, List.getElem_cons_succ, List.setIfInBounds_toArray, List.set_cons_zero, List.set_cons_succ]
                    refine wpH_one (i := 6) (by kernel_rfl) rfl (fun K hK => ?_)
                    go_simp
                    refine (CNa.out _ hS).mono ?_
                    rintro e w' ⟨rfl, hfi⟩
                    refine hK.out _ _ (hS.trans hfi) (fun hS' => ?_)
                    clear hK K hS hfi
                    have hS := hS'
                    clear hS'
                    try simp only [Act.put, List.getElem_toArray, List.getElem_cons_zero, List.getElem_cons_succ, List.setIfInBounds_toArray, List.set_cons_zero, List.set_cons_succ]
                    refine wpAnyH_take (i := 7) (v := ?_) rfl (by kernel_rfl) (by kernel_rfl) (by kernel_rfl) (fun _ _ _ h => h) (Or.inl ⟨by rfl, ?_⟩) hS ?_
                    rotate_left
                    · (intro W hs; go_simp; first | done | with_reducible rfl)
                    try simp only [Act.put, List.getElem_toArray, List.getElem_cons_zero, List.getElem_cons_succ, List.setIfInBounds_toArray, List.set_cons_zero, List.set_cons_succ]
                    refine wpAnyH_take (i := 8) (v := undef) rfl (by kernel_rfl) (by kernel_rfl) (by kernel_rfl) (fun _ _ _ h => h) (Or.inr ⟨by rfl, rfl⟩) hS ?_
                    try simp only [Act.put, List.getElem_toArray, List.getElem_cons_zero, List.getElem_cons_succ, List.setIfInBounds_toArray, List.set_cons_zero, List.set_cons_succ]
                    refine wpAnyH_take (i := 9) (v := undef) rfl (by kernel_rfl) (by kernel_rfl) (by kernel_rfl) (fun _ _ _ h => h) (Or.inr ⟨by rfl, rfl⟩) hS ?_
                    try simp only [Act.put, List.getElem_toArray, List.getElem_cons_zero, List.getElem_cons_succ, List.setIfInBounds_toArray, List.set_cons_zero, List.set_cons_succ]
                    refine wpAnyH_take (i := 10) (v := undef) rfl (by kernel_rfl) (by kernel_rfl) (by kernel_rfl) (fun _ _ _ h => h) (Or.inr ⟨by rfl, rfl⟩) hS ?_
                    try simp only [Act.put, List.getElem_toArray, List.getElem_cons_zero, List.getElem_cons_succ, List.setIfInBounds_toArray, List.set_cons_zero, List.set_cons_succ]
                    refine wpAnyH_take (i := 11) (v := undef) rfl (by kernel_rfl) (by kernel_rfl) (by kernel_rfl) (fun _ _ _ h => h) (Or.inr ⟨by rfl, rfl⟩) hS ?_
                    try simp only [Act.put, List.getElem_toArray, List.getElem_cons_zero, List.getElem_cons_succ, List.setIfInBounds_toArray, List.set_cons_zero, List.set_cons_succ]
                    refine wpAnyH_take (i := 12) (v := undef) rfl (by kernel_rfl) (by kernel_rfl) (by kernel_rfl) (fun _ _ _ h => h) (Or.inr ⟨by rfl, rfl⟩) hS ?_
                    try simp only [Act.put, List.getElem_toArray, List.getElem_cons_zero, List.getElem_cons_succ, List.setIfInBounds_toArray, List.set_cons_zero, List.set_cons_succ]
                    refine wpAnyH_take (i := 13) (v := undef) rfl (by kernel_rfl) (by kernel_rfl) (by kernel_rfl) (fun _ _ _ h => h) (Or.inr ⟨by rfl, rfl⟩) hS ?_
                    try simp only [Act.put, List.getElem_toArray, List.getElem_cons_zero, List.getElem_cons_succ, List.setIfInBounds_toArray, List.set_cons_zero, List.set_cons_succ]
                    refine wpAnyH_take (i := 14) (v := undef) rfl (by kernel_rfl) (by kernel_rfl) (by kernel_rfl) (fun _ _ _ h => h) (Or.inr ⟨by rfl, rfl⟩) hS ?_
                    try simp only [Act.put, List.getElem_toArray, List.getElem_cons_zero, List.getElem_cons_succ, List.setIfInBounds_toArray, List.set_cons_zero, List.set_cons_succ]
                    refine wpAnyH_take (i := 15) (v := ?_) rfl (by kernel_rfl) (by kernel_rfl) (by kernel_rfl) (fun _ _ _ h => h) (Or.inl ⟨by rfl, ?_⟩) hS ?_
                    rotate_left
                    · (intro W hs; go_simp; first | done | with_reducible rfl)
                    try simp only [Act.put, List.getElem_toArray, List.getElem_cons_zero, List.getElem_cons_succ, List.setIfInBounds_toArray, List.set_cons_zero, List.set_cons_succ]
                    refine wpAnyH_done (by kernel_rfl) ?_ _
                    have HF := Lib.hid hS
                    clear hS s0
                    have CA : Hid (∀ W, Fx No wx W → Calls Tryz.prog 15 #[.pointer (some ⟨k.b, 0, none⟩), .int .i64 a, .int .i64 b] W fun e w' => e = .returned (.tuple #[.bool false, .int .i64 130]) ∧ Fx No W w') := Lib.hid fun W h => cloAdd_no (HX.out.s.clo.no h) a b HNo.out
                    go_wp2_with fail
                    refine wp_region_H (fun W => Fx No wx W) (by kernel_rfl) HF.out.drew ?_
                    intro hS
                    refine wpAnyH_take (i := 0) (v := ?_) rfl (by kernel_rfl) (by kernel_rfl) (by kernel_rfl) (fun _ _ _ h => h) (Or.inl ⟨by rfl, ?_⟩) hS ?_
                    rotate_left
                    · (intro W hs; go_simp; first | done | with_reducible rfl)
                    try simp only [Act.put, List.getElem_toArray, List.getElem_cons_zero, List.getElem_cons_succ, List.setIfInBounds_toArray, List.set_cons_zero, List.set_cons_succ]
                    refine wpAnyH_take (i := 1) (v := ?_) rfl (by kernel_rfl) (by kernel_rfl) (by kernel_rfl) (fun _ _ _ h => h) (Or.inl ⟨by rfl, ?_⟩) hS ?_
                    rotate_left
                    · (intro W hs; go_simp; first | done | with_reducible rfl)
                    try simp only [Act.put, List.getElem_toArray, List.getElem_cons_zero, List.getElem_cons_succ, List.setIfInBounds_toArray, List.set_cons_zero, List.set_cons_succ]
                    refine wpAnyH_take (i := 2) (v := ?_) rfl (by kernel_rfl) (by kernel_rfl) (by kernel_rfl) (fun _ _ _ h => h) (Or.inl ⟨by rfl, ?_⟩) hS ?_
                    rotate_left
                    · (intro W hs; go_simp; first | done | with_reducible rfl)
                    try simp only [Act.put, List.getElem_toArray, List.getElem_cons_zero, List.getElem_cons_succ, List.setIfInBounds_toArray, List.set_cons_zero, List.set_cons_succ]
                    refine wpAnyH_take (i := 3) (v := ?_) rfl (by kernel_rfl) (by kernel_rfl) (by kernel_rfl) (fun _ _ _ h => h) (Or.inl ⟨by rfl, ?_⟩) hS ?_
                    rotate_left
                    · (intro W hs; go_simp; first | done | with_reducible rfl)
                    try simp only [Act.put, List.getElem_toArray, List.getElem_cons_zero, List.getElem_cons_succ, List.setIfInBounds_toArray, List.set_cons_zero, List.set_cons_succ]
                    refine wpAnyH_take (i := 4) (v := ?_) rfl (by kernel_rfl) (by kernel_rfl) (by kernel_rfl) (fun _ _ _ h => h) (Or.inl ⟨by rfl, ?_⟩) hS ?_
                    rotate_left
                    · (intro W hs; go_simp; first | done | with_reducible rfl)
                    try simp only [Act.put, List.getElem_toArray, List.getElem_cons_zero, List.getElem_cons_succ, List.setIfInBounds_toArray, List.set_cons_zero, List.set_cons_succ]
                    refine wpAnyH_take (i := 5) (v := ?_) rfl (by kernel_rfl) (by kernel_rfl) (by kernel_rfl) (fun _ _ _ h => h) (Or.inl ⟨by rfl, ?_⟩) hS ?_
                    rotate_left
                    · (intro W hs; go_simp; first | done | with_reducible rfl)
                    try simp only [Act.put, List.getElem_toArray, List.getElem_cons_zero, List.getElem_cons_succ, List.setIfInBounds_toArray, List.set_cons_zero, List.set_cons_succ]
                    refine wpAnyH_take (i := 6) (v := ?_) rfl (by kernel_rfl) (by kernel_rfl) (by kernel_rfl) (fun _ _ _ h => h) (Or.inl ⟨by rfl, ?_⟩) hS ?_
                    rotate_left
                    · (intro W hs; go_simp; first | done | with_reducible rfl)
                    try simp only [Act.put, List.getElem_toArray, List.getElem_cons_zero, List.getElem_cons_succ, List.setIfInBounds_toArray, List.set_cons_zero, List.set_cons_succ]
                    refine wpAnyH_take (i := 7) (v := ?_) rfl (by kernel_rfl) (by kernel_rfl) (by kernel_rfl) (fun _ _ _ h => h) (Or.inl ⟨by rfl, ?_⟩) hS ?_
                    rotate_left
                    · (intro W hs; go_simp; first | done | with_reducible rfl)
                    try simp only [Act.put, List.getElem_toArray, List.getElem_cons_zero, List.getElem_cons_succ, List.setIfInBounds_toArray, List.set_cons_zero, List.set_cons_succ]
                    refine wpAnyH_take (i := 8) (v := ?_) rfl (by kernel_rfl) (by kernel_rfl) (by kernel_rfl) (fun _ _ _ h => h) (Or.inl ⟨by rfl, ?_⟩) hS ?_
                    rotate_left
                    · (intro W hs; go_simp; first | done | with_reducible rfl)
                    try simp only [Act.put, List.getElem_toArray, List.getElem_cons_zero, List.getElem_cons_succ, List.setIfInBounds_toArray, List.set_cons_zero, List.set_cons_succ]
                    refine wpAnyH_take (i := 9) (v := ?_) rfl (by kernel_rfl) (by kernel_rfl) (by kernel_rfl) (fun _ _ _ h => h) (Or.inl ⟨by rfl, ?_⟩) hS ?_
                    rotate_left
                    · (intro W hs; go_simp; first | done | with_reducible rfl)
                    try simp only [Act.put, List.getElem_toArray, List.getElem_cons_zero, List.getElem_cons_succ, List.setIfInBounds_toArray, List.set_cons_zero, List.set_cons_succ]
                    refine wpAnyH_take (i := 10) (v := ?_) rfl (by kernel_rfl) (by kernel_rfl) (by kernel_rfl) (fun _ _ _ h => h) (Or.inl ⟨by rfl, ?_⟩) hS ?_
                    rotate_left
                    · (intro W hs; go_simp; first | done | with_reducible rfl)
                    try simp only [Act.put, List.getElem_toArray, List.getElem_cons_zero, List.getElem_cons_succ, List.setIfInBounds_toArray, List.set_cons_zero, List.set_cons_succ]
                    refine wpH_one (i := 11) (by kernel_rfl) rfl (fun K hK => ?_)
                    go_simp
                    refine (CA.out _ hS).mono ?_
                    rintro e w3 ⟨rfl, hfi⟩
                    refine hK.out _ _ (hS.trans hfi) (fun hS' => ?_)
                    clear hK K hS hfi
                    have hS := hS'
                    clear hS'
                    try simp only [Act.put, List.getElem_toArray, List.getElem_cons_zero, List.getElem_cons_succ, List.setIfInBounds_toArray, List.set_cons_zero, List.set_cons_succ]
                    refine wpAnyH_take (i := 12) (v := ?_) rfl (by kernel_rfl) (by kernel_rfl) (by kernel_rfl) (fun _ _ _ h => h) (Or.inl ⟨by rfl, ?_⟩) hS ?_
                    rotate_left
                    · (intro W hs; go_simp; first | done | with_reducible rfl)
                    try simp only [Act.put, List.getElem_toArray, List.getElem_cons_zero, List.getElem_cons_succ, List.setIfInBounds_toArray, List.set_cons_zero, List.set_cons_succ]
                    refine wpAnyH_take (i := 13) (v := ?_) rfl (by kernel_rfl) (by kernel_rfl) (by kernel_rfl) (fun _ _ _ h => h) (Or.inl ⟨by rfl, ?_⟩) hS ?_
                    rotate_left
                    · (intro W hs; go_simp; first | done | with_reducible rfl)
                    try simp only [Act.put, List.getElem_toArray, List.getElem_cons_zero, List.getElem_cons_succ, List.setIfInBounds_toArray, List.set_cons_zero, List.set_cons_succ]
                    refine wpAnyH_take (i := 14) (v := ?_) rfl (by kernel_rfl) (by kernel_rfl) (by kernel_rfl) (fun _ _ _ h => h) (Or.inl ⟨by rfl, ?_⟩) hS ?_
                    rotate_left
                    · (intro W hs; go_simp; first | done | with_reducible rfl)
                    try simp only [Act.put, List.getElem_toArray, List.getElem_cons_zero, List.getElem_cons_succ, List.setIfInBounds_toArray, List.set_cons_zero, List.set_cons_succ]
                    refine wpAnyH_take (i := 15) (v := ?_) rfl (by kernel_rfl) (by kernel_rfl) (by kernel_rfl) (fun _ _ _ h => h) (Or.inl ⟨by rfl, ?_⟩) hS ?_
                    rotate_left
                    · (intro W hs; go_simp; first | done | with_reducible rfl)
                    try simp only [Act.put, List.getElem_toArray, List.getElem_cons_zero, List.getElem_cons_succ, List.setIfInBounds_toArray, List.set_cons_zero, List.set_cons_succ]
                    refine wpAnyH_take (i := 16) (v := ?_) rfl (by kernel_rfl) (by kernel_rfl) (by kernel_rfl) (fun _ _ _ h => h) (Or.inl ⟨by rfl, ?_⟩) hS ?_
                    rotate_left
                    · (intro W hs; go_simp; first | done | with_reducible rfl)
                    try simp only [Act.put, List.getElem_toArray, List.getElem_cons_zero, List.getElem_cons_succ, List.setIfInBounds_toArray, List.set_cons_zero, List.set_cons_succ]
                    refine wpAnyH_done (by kernel_rfl) ?_ _
                    clear HF
                    have HF := Lib.hid hS
                    clear g0 g1 f1 f2 hS CA HNo
                    have q0 : ∀ W, Fx No wx W → W.cell? ⟨wb, 0, none⟩ = some (.int .i64 (N : Int)) := fun W h => h.cell' HX.out.q0 (fun h => h)
                    have q1 : ∀ W, Fx No wx W → W.cell? ⟨wb, 1, none⟩ = some (.slice ro (edgesTo N ed N).length rc) := fun W h => h.cell' HX.out.q1 (fun h => h)
                    have p0 := q0 _ HF.out
                    have p1 := q1 _ HF.out
                    obtain ⟨c4, hc4⟩ : ∃ c, I % 4 = c := ⟨_, rfl⟩
                    have hc5 : (I : Int) % 4 = (c4 : Int) := by omega
                    have hc6 : (I : Int).tmod 4 = (c4 : Int) := by rw [← hc4]; rfl
                    rcases (by omega : c4 ≠ 0 ∨ c4 = 0) with hc0 | hc0
                    · have hc7 : decide ((c4 : Int) = 0) = false := decide_eq_false (by omega)
                      have hc8 : ¬ ((c4 : Int) = 0) := by omega
                      go_wp2_with fail
                      refine ⟨⟨I + 1, _, _, _, _, by go_num, by omega, HX.out.s.no HF.out⟩, ?_⟩
                      simp [intOf]
                      omega
                    · have hc7 : decide ((c4 : Int) = 0) = true := decide_eq_true (by omega)
                      have hc8 : (c4 : Int) = 0 := by omega
                      go_wp2_with fail
                      refine (CIs.out _ HF.out).mono ?_
                      rintro e w4 ⟨rfl, hfi⟩
                      have HF4 : Hid (Fx No wx w4) := Lib.hid (HF.out.trans hfi)
                      clear hfi
                      go_wp2
                      refine ⟨⟨I + 1, _, _, _, _, by go_num, by omega, HX.out.s.no HF4.out⟩, ?_⟩
                      simp [intOf]
                      omega
                  · go_wp2_with fail
                    go_region_held3 (fun W => Fx No wx W)
                      (first
                        | exact s0.drew
                        | exact Fx.transNo (by assumption) hfi)
                      (first
                        | (go_at_call 11; with_reducible refine (CNa.out _ (by assumption)).mono ?_; rintro e w' ⟨rfl, hfi⟩)
                        | (go_at_call 11; with_reducible refine (CNb.out _ (by assumption)).mono ?_; rintro e w' ⟨rfl, hfi⟩))
                    all_goals
                      have HF : Hid (Fx No wx w') := by assumption
                      clear s0
                      have CA : Hid (∀ W, Fx No wx W → Calls Tryz.prog 15 #[.pointer (some ⟨k.b, 0, none⟩), .int .i64 a, .int .i64 b] W fun e w' => e = .returned (.tuple #[.bool false, .int .i64 130]) ∧ Fx No W w') := Lib.hid fun W h => cloAdd_no (HX.out.s.clo.no h) a b HNo.out
                      go_wp2_with fail
                      refine wp_region_H (fun W => Fx No wx W) (by kernel_rfl) HF.out.drew ?_
                      intro hS
                      refine wpAnyH_take (i := 0) (v := ?_) rfl (by kernel_rfl) (by kernel_rfl) (by kernel_rfl) (fun _ _ _ h => h) (Or.inl ⟨by rfl, ?_⟩) hS ?_
                      rotate_left
                      · (intro W hs; go_simp; first | done | with_reducible rfl)
                      try simp only [Act.put, List.getElem_toArray, List.getElem_cons_zero, List.getElem_cons_succ, List.setIfInBounds_toArray, List.set_cons_zero, List.set_cons_succ]
                      refine wpAnyH_take (i := 1) (v := ?_) rfl (by kernel_rfl) (by kernel_rfl) (by kernel_rfl) (fun _ _ _ h => h) (Or.inl ⟨by rfl, ?_⟩) hS ?_
                      rotate_left
                      · (intro W hs; go_simp; first | done | with_reducible rfl)
                      try simp only [Act.put, List.getElem_toArray, List.getElem_cons_zero, List.getElem_cons_succ, List.setIfInBounds_toArray, List.set_cons_zero, List.set_cons_succ]
                      refine wpAnyH_take (i := 2) (v := ?_) rfl (by kernel_rfl) (by kernel_rfl) (by kernel_rfl) (fun _ _ _ h => h) (Or.inl ⟨by rfl, ?_⟩) hS ?_
                      rotate_left
                      · (intro W hs; go_simp; first | done | with_reducible rfl)
                      try simp only [Act.put, List.getElem_toArray, List.getElem_cons_zero, List.getElem_cons_succ, List.setIfInBounds_toArray, List.set_cons_zero, List.set_cons_succ]
                      refine wpAnyH_take (i := 3) (v := ?_) rfl (by kernel_rfl) (by kernel_rfl) (by kernel_rfl) (fun _ _ _ h => h) (Or.inl ⟨by rfl, ?_⟩) hS ?_
                      rotate_left
                      · (intro W hs; go_simp; first | done | with_reducible rfl)
                      try simp only [Act.put, List.getElem_toArray, List.getElem_cons_zero, List.getElem_cons_succ, List.setIfInBounds_toArray, List.set_cons_zero, List.set_cons_succ]
                      refine wpAnyH_take (i := 4) (v := ?_) rfl (by kernel_rfl) (by kernel_rfl) (by kernel_rfl) (fun _ _ _ h => h) (Or.inl ⟨by rfl, ?_⟩) hS ?_
                      rotate_left
                      · (intro W hs; go_simp; first | done | with_reducible rfl)
                      try simp only [Act.put, List.getElem_toArray, List.getElem_cons_zero, List.getElem_cons_succ, List.setIfInBounds_toArray, List.set_cons_zero, List.set_cons_succ]
                      refine wpAnyH_take (i := 5) (v := ?_) rfl (by kernel_rfl) (by kernel_rfl) (by kernel_rfl) (fun _ _ _ h => h) (Or.inl ⟨by rfl, ?_⟩) hS ?_
                      rotate_left
                      · (intro W hs; go_simp; first | done | with_reducible rfl)
                      try simp only [Act.put, List.getElem_toArray, List.getElem_cons_zero, List.getElem_cons_succ, List.setIfInBounds_toArray, List.set_cons_zero, List.set_cons_succ]
                      refine wpAnyH_take (i := 6) (v := ?_) rfl (by kernel_rfl) (by kernel_rfl) (by kernel_rfl) (fun _ _ _ h => h) (Or.inl ⟨by rfl, ?_⟩) hS ?_
                      rotate_left
                      · (intro W hs; go_simp; first | done | with_reducible rfl)
                      try simp only [Act.put, List.getElem_toArray, List.getElem_cons_zero, List.getElem_cons_succ, List.setIfInBounds_toArray, List.set_cons_zero, List.set_cons_succ]
                      refine wpAnyH_take (i := 7) (v := ?_) rfl (by kernel_rfl) (by kernel_rfl) (by kernel_rfl) (fun _ _ _ h => h) (Or.inl ⟨by rfl, ?_⟩) hS ?_
                      rotate_left
                      · (intro W hs; go_simp; first | done | with_reducible rfl)
                      try simp only [Act.put, List.getElem_toArray, List.getElem_cons_zero, List.getElem_cons_succ, List.setIfInBounds_toArray, List.set_cons_zero, List.set_cons_succ]
                      refine wpAnyH_take (i := 8) (v := ?_) rfl (by kernel_rfl) (by kernel_rfl) (by kernel_rfl) (fun _ _ _ h => h) (Or.inl ⟨by rfl, ?_⟩) hS ?_
                      rotate_left
                      · (intro W hs; go_simp; first | done | with_reducible rfl)
                      try simp only [Act.put, List.getElem_toArray, List.getElem_cons_zero, List.getElem_cons_succ, List.setIfInBounds_toArray, List.set_cons_zero, List.set_cons_succ]
                      refine wpAnyH_take (i := 9) (v := ?_) rfl (by kernel_rfl) (by kernel_rfl) (by kernel_rfl) (fun _ _ _ h => h) (Or.inl ⟨by rfl, ?_⟩) hS ?_
                      rotate_left
                      · (intro W hs; go_simp; first | done | with_reducible rfl)
                      try simp only [Act.put, List.getElem_toArray, List.getElem_cons_zero, List.getElem_cons_succ, List.setIfInBounds_toArray, List.set_cons_zero, List.set_cons_succ]
                      refine wpAnyH_take (i := 10) (v := ?_) rfl (by kernel_rfl) (by kernel_rfl) (by kernel_rfl) (fun _ _ _ h => h) (Or.inl ⟨by rfl, ?_⟩) hS ?_
                      rotate_left
                      · (intro W hs; go_simp; first | done | with_reducible rfl)
                      try simp only [Act.put, List.getElem_toArray, List.getElem_cons_zero, List.getElem_cons_succ, List.setIfInBounds_toArray, List.set_cons_zero, List.set_cons_succ]
                      refine wpH_one (i := 11) (by kernel_rfl) rfl (fun K hK => ?_)
                      go_simp
                      refine (CA.out _ hS).mono ?_
                      rintro e w3 ⟨rfl, hfi⟩
                      refine hK.out _ _ (hS.trans hfi) (fun hS' => ?_)
                      clear hK K hS hfi
                      have hS := hS'
                      clear hS'
                      try simp only [Act.put, List.getElem_toArray, List.getElem_cons_zero, List.getElem_cons_succ, List.setIfInBounds_toArray, List.set_cons_zero, List.set_cons_succ]
                      refine wpAnyH_take (i := 12) (v := ?_) rfl (by kernel_rfl) (by kernel_rfl) (by kernel_rfl) (fun _ _ _ h => h) (Or.inl ⟨by rfl, ?_⟩) hS ?_
                      rotate_left
                      · (intro W hs; go_simp; first | done | with_reducible rfl)
                      try simp only [Act.put, List.getElem_toArray, List.getElem_cons_zero, List.getElem_cons_succ, List.setIfInBounds_toArray, List.set_cons_zero, List.set_cons_succ]
                      refine wpAnyH_take (i := 13) (v := ?_) rfl (by kernel_rfl) (by kernel_rfl) (by kernel_rfl) (fun _ _ _ h => h) (Or.inl ⟨by rfl, ?_⟩) hS ?_
                      rotate_left
                      · (intro W hs; go_simp; first | done | with_reducible rfl)
                      try simp only [Act.put, List.getElem_toArray, List.getElem_cons_zero, List.getElem_cons_succ, List.setIfInBounds_toArray, List.set_cons_zero, List.set_cons_succ]
                      refine wpAnyH_take (i := 14) (v := ?_) rfl (by kernel_rfl) (by kernel_rfl) (by kernel_rfl) (fun _ _ _ h => h) (Or.inl ⟨by rfl, ?_⟩) hS ?_
                      rotate_left
                      · (intro W hs; go_simp; first | done | with_reducible rfl)
                      try simp only [Act.put, List.getElem_toArray, List.getElem_cons_zero, List.getElem_cons_succ, List.setIfInBounds_toArray, List.set_cons_zero, List.set_cons_succ]
                      refine wpAnyH_take (i := 15) (v := ?_) rfl (by kernel_rfl) (by kernel_rfl) (by kernel_rfl) (fun _ _ _ h => h) (Or.inl ⟨by rfl, ?_⟩) hS ?_
                      rotate_left
                      · (intro W hs; go_simp; first | done | with_reducible rfl)
                      try simp only [Act.put, List.getElem_toArray, List.getElem_cons_zero, List.getElem_cons_succ, List.setIfInBounds_toArray, List.set_cons_zero, List.set_cons_succ]
                      refine wpAnyH_take (i := 16) (v := ?_) rfl (by kernel_rfl) (by kernel_rfl) (by kernel_rfl) (fun _ _ _ h => h) (Or.inl ⟨by rfl, ?_⟩) hS ?_
                      rotate_left
                      · (intro W hs; go_simp; first | done | with_reducible rfl)
                      try simp only [Act.put, List.getElem_toArray, List.getElem_cons_zero, List.getElem_cons_succ, List.setIfInBounds_toArray, List.set_cons_zero, List.set_cons_succ]
                      refine wpAnyH_done (by kernel_rfl) ?_ _
                      clear HF
                      have HF := Lib.hid hS
                      clear g0 g1 f1 f2 hS CA HNo
                      have q0 : ∀ W, Fx No wx W → W.cell? ⟨wb, 0, none⟩ = some (.int .i64 (N : Int)) := fun W h => h.cell' HX.out.q0 (fun h => h)
                      have q1 : ∀ W, Fx No wx W → W.cell? ⟨wb, 1, none⟩ = some (.slice ro (edgesTo N ed N).length rc) := fun W h => h.cell' HX.out.q1 (fun h => h)
                      have p0 := q0 _ HF.out
                      have p1 := q1 _ HF.out
                      obtain ⟨c4, hc4⟩ : ∃ c, I % 4 = c := ⟨_, rfl⟩
                      have hc5 : (I : Int) % 4 = (c4 : Int) := by omega
                      have hc6 : (I : Int).tmod 4 = (c4 : Int) := by rw [← hc4]; rfl
                      rcases (by omega : c4 ≠ 0 ∨ c4 = 0) with hc0 | hc0
                      · have hc7 : decide ((c4 : Int) = 0) = false := decide_eq_false (by omega)
                        have hc8 : ¬ ((c4 : Int) = 0) := by omega
                        go_wp2_with fail
                        refine ⟨⟨I + 1, _, _, _, _, by go_num, by omega, HX.out.s.no HF.out⟩, ?_⟩
                        simp [intOf]
                        omega
                      · have hc7 : decide ((c4 : Int) = 0) = true := decide_eq_true (by omega)
                        have hc8 : (c4 : Int) = 0 := by omega
                        go_wp2_with fail
                        refine (CIs.out _ HF.out).mono ?_
                        rintro e w4 ⟨rfl, hfi⟩
                        have HF4 : Hid (Fx No wx w4) := Lib.hid (HF.out.trans hfi)
                        clear hfi
                        go_wp2
                        refine ⟨⟨I + 1, _, _, _, _, by go_num, by omega, HX.out.s.no HF4.out⟩, ?_⟩
                        simp [intOf]
                        omega
              · go_simp
                refine hK.out _ _ (hS.alloc _) (fun hS' => ?_)
                clear hK K hS
                have hS := hS'
                clear hS'
                try simp only [Act.put, List.getElem_toArray, List.getElem_cons_zero, List.getElem_cons_succ, List.setIfInBounds_toArray, List.set_cons_zero, List.set_cons_succ]
                refine wpH_one (i := 1) (by kernel_rfl) rfl (fun K hK => ?_)
                go_simp
                refine (CCp.out _ hS).mono ?_
                rintro e w2 ⟨kd, rfl, hk1, hk2, hk3, HFc, HCd⟩
                refine hK.out _ _ (HFc.out) (fun hS' => ?_)
                clear hK K hS
                have hS := hS'
                clear hS'
                try simp only [Act.put, List.getElem_toArray, List.getElem_cons_zero, List.getElem_cons_succ, List.setIfInBounds_toArray, List.set_cons_zero, List.set_cons_succ]
                refine wpH_one (i := 4) (by kernel_rfl) rfl (fun K hK => ?_)
                go_simp
                refine hK.out _ _ (hS) (fun hS' => ?_)
                clear hK K hS
                have hS := hS'
                clear hS'
                try simp only [Act.put, List.getElem_toArray, List.getElem_cons_zero, List.getElem_cons_succ, List.setIfInBounds_toArray, List.set_cons_zero, List.set_cons_succ]
                refine wpH_one (i := 5) (by kernel_rfl) rfl (fun K hK => ?_)
                go_simp
                refine hK.out _ _ ((HFc.out.setCell (.inl (Nat.le_refl _)) _).setCell (.inl (Nat.le_refl _)) _) (fun _ => ?_)
                clear hK K hS
                refine wpAnyH_done (by kernel_rfl) ?_ _
                have HH := Lib.hid (pls_copyB (a := .int .i64 0) (b := .slice none 0 0) (by rw [hk1 _ _ (by simp)]; go_simp) (by rw [hk1 _ _ (by simp)]; go_simp) HS.out HFc.out HCd.out (by simp))
                obtain ⟨wb, hwb⟩ : ∃ b, b = wr.heap.size := ⟨_, rfl⟩
                rw [← hwb] at HH ⊢
                clear hk1 hk2 hk3 g0 g1 s0 CCp r0 r0f r1 r1f hwb HFc HCd
                go_wp2_with fail
                refine wp_hold (fun W => PlX w wr W (Iv w.heap.size rb) N rb dn up ed k (.slice ro (edgesTo N ed N).length rc) kd wb) HH.out ?_
                rintro wx hX
                have HX := Lib.hid hX
                have s0 : Fx No wx wx := Fx.refl _ _
                have g0 : ∀ W, Fx No wx W → W.cell? ⟨rb, 0, none⟩ = some (.int .i64 (N : Int)) := fun W h => h.cell' HX.out.s.r0.1 (fun h => h)
                have g1 : ∀ W, Fx No wx W → W.cell? ⟨rb, 1, none⟩ = some (.slice ro (edgesTo N ed N).length rc) := fun W h => h.cell' HX.out.s.r1.1 (fun h => h)
                have f1 : ∀ W, Fx No wx W → W.cell? ⟨bl, ol + I * 2, none⟩ = some (.int .i64 a) := fun W h => (HX.out.s.fx.trans h).cell' HW1.out (fun h => h)
                have f2 : ∀ W, Fx No wx W → W.cell? ⟨bl, ol + I * 2 + 1, none⟩ = some (.int .i64 b) := fun W h => (HX.out.s.fx.trans h).cell' HW2.out (fun h => h)
                obtain ⟨ta, hta⟩ : ∃ t, t = decide (0 ≤ a ∧ a < (N : Int)) := ⟨_, rfl⟩
                obtain ⟨tb, htb⟩ : ∃ t, t = decide (0 ≤ b ∧ b < (N : Int)) := ⟨_, rfl⟩
                have CNa : Hid (∀ W, Fx No wx W → Calls Tryz.prog 11 #[.agg #[.int .i64 (N : Int), .slice ro (edgesTo N ed N).length rc], .int .i64 a] W fun e w' => e = .returned (.bool ta) ∧ Fx No W w') := Lib.hid fun W h => by rw [hta]; exact refNode_any (HX.out.s.row.no h) N a
                have CNb : Hid (∀ W, Fx No wx W → Calls Tryz.prog 11 #[.agg #[.int .i64 (N : Int), .slice ro (edgesTo N ed N).length rc], .int .i64 b] W fun e w' => e = .returned (.bool tb) ∧ Fx No W w') := Lib.hid fun W h => by rw [htb]; exact refNode_any (HX.out.s.row.no h) N b
                have HTa := Lib.hid hta
                have HTb := Lib.hid htb
                have CIs : Hid (∀ W, Fx No wx W → Calls Tryz.prog 16 #[.pointer (some ⟨kd.b, 0, none⟩), .agg #[.int .i64 (N : Int), .slice ro (edgesTo N ed N).length rc], .int .i64 m] W fun e w' => e = .returned (.bool true) ∧ Fx No W w') := Lib.hid fun W h => by
                  obtain ⟨_, _, hc, _⟩ := HX.out.d
                  exact is_any (hc.no h) HX.out.s.ok (HX.out.s.row.no h) (by omega) m (TabOk.keep HT.out (HX.out.s.fx.trans h) (fun h => h))
                clear hX hta htb HH
                by_cases hin : ta = true ∧ tb = true
                · obtain ⟨rfl, rfl⟩ := hin
                  have hA : 0 ≤ a ∧ a < (N : Int) := of_decide_eq_true HTa.out.symm
                  have hB : 0 ≤ b ∧ b < (N : Int) := of_decide_eq_true HTb.out.symm
                  obtain ⟨F, rfl⟩ := Int.eq_ofNat_of_zero_le hA.1
                  obtain ⟨T, rfl⟩ := Int.eq_ofNat_of_zero_le hB.1
                  have hF : F < N := by omega
                  have hTN : T < N := by omega
                  have hwx : rb < wx.heap.size := HX.out.s.lo.2.1
                  have CRa : Hid (∀ W, Fx No wx W → Calls Tryz.prog 12 #[.agg #[.int .i64 (N : Int), .slice ro (edgesTo N ed N).length rc], .agg #[.int .i64 (F : Int), .int .i64 (T : Int)]] W fun e w' => ∃ ro2 rn2 rc2, e = .returned (.agg #[.int .i64 (N : Int), .slice ro2 rn2 rc2]) ∧ Hid (Fx No W w') ∧ Hid (PairsV w' (fun x => rb < x) (.slice ro2 rn2 rc2) (edgesTo N (addEd N ed F T) N))) := Lib.hid fun W h => (refAdd_any (HX.out.s.row.no h) N F T (by omega)).mono fun e w' ⟨v', h1, h2, h3⟩ => by
                    rw [edges_add hF hTN] at h3
                    have hz := h.size
                    have h4 : PairsV w' (fun x => rb < x) v' (edgesTo N (addEd N ed F T) N) := RowV.mono h3 fun x hx => by rcases hx.1 with q | q <;> omega
                    obtain ⟨ao2, cap2, rfl, _⟩ := h4.facts
                    exact ⟨_, _, _, h1, Lib.hid h2, Lib.hid h4⟩
                  clear HTa HTb hA hB
                  go_wp2_with fail
                  refine wp_region_H (fun W => Fx No wx W) (by kernel_rfl) s0.drew ?_
                  intro hS
                  refine wpAnyH_take (i := 0) (v := ?_) rfl (by kernel_rfl) (by kernel_rfl) (by kernel_rfl) (fun _ _ _ h => h) (Or.inl ⟨by rfl, ?_⟩) hS ?_
                  rotate_left
                  · (intro W hs; go_simp; first | done | with_reducible rfl)
                  try simp only [Act.put, List.getElem_toArray, List.getElem_cons_zero, List.getElem_cons_succ, List.setIfInBounds_toArray, List.set_cons_zero, List.set_cons_succ]
                  refine wpAnyH_take (i := 1) (v := ?_) rfl (by kernel_rfl) (by kernel_rfl) (by kernel_rfl) (fun _ _ _ h => h) (Or.inl ⟨by rfl, ?_⟩) hS ?_
                  rotate_left
                  · (intro W hs; go_simp; first | done | with_reducible rfl)
                  try simp only [Act.put, List.getElem_toArray, List.getElem_cons_zero, List.getElem_cons_succ, List.setIfInBounds_toArray, List.set_cons_zero, List.set_cons_succ]
                  refine wpAnyH_take (i := 2) (v := ?_) rfl (by kernel_rfl) (by kernel_rfl) (by kernel_rfl) (fun _ _ _ h => h) (Or.inl ⟨by rfl, ?_⟩) hS ?_
                  rotate_left
                  · (intro W hs; go_simp; first | done | with_reducible rfl)
                  try simp only [Act.put, List.getElem_toArray, List.getElem_cons_zero, List.getElem_cons_succ, List.setIfInBounds_toArray, List.set_cons_zero, List.set_cons_succ]
                  refine wpAnyH_take (i := 3) (v := ?_) rfl (by kernel_rfl) (by kernel_rfl) (by kernel_rfl) (fun _ _ _ h => h) (Or.inl ⟨by rfl, ?_⟩) hS ?_
                  rotate_left
                  · (intro W hs; go_simp; first | done | with_reducible rfl)
                  try simp only [Act.put, List.getElem_toArray, List.getElem_cons_zero, List.getElem_cons_succ, List.setIfInBounds_toArray, List.set_cons_zero, List.set_cons_succ]
                  refine wpAnyH_take (i := 4) (v := ?_) rfl (by kernel_rfl) (by kernel_rfl) (by kernel_rfl) (fun _ _ _ h => h) (Or.inl ⟨by rfl, ?_⟩) hS ?_
                  rotate_left
                  · (intro W hs; go_simp; first | done | with_reducible rfl)
                  try simp only [Act.put, List.getElem_toArray, List.getElem_cons_zero, List.getElem_cons_succ, List.setIfInBounds_toArray, List.set_cons_zero, List.set_cons_succ]
                  refine wpAnyH_take (i := 5) (v := ?_) rfl (by kernel_rfl) (by kernel_rfl) (by kernel_rfl) (fun _ _ _ h => h) (Or.inl ⟨by rfl, ?_⟩) hS ?_
                  rotate_left
                  · (intro W hs; go_simp; first | done | with_reducible rfl)
                  try simp only [Act.put, List.getElem_toArray, List.getElem_cons_zero, List.getElem_cons_succ, List.setIfInBounds_toArray, List.set_cons_zero, List.set_cons_succ]
                  refine wpH_one (i := 6) (by kernel_rfl) rfl (fun K hK => ?_)
                  go_simp
                  refine (CNa.out _ hS).mono ?_
                  rintro e w' ⟨rfl, hfi⟩
                  refine hK.out _ _ (hS.trans hfi) (fun hS' => ?_)
                  clear hK K hS hfi
                  have hS := hS'
                  clear hS'
                  try simp only [Act.put, List.getElem_toArray, List.getElem_cons_zero, List.getElem_cons_succ, List.setIfInBounds_toArray, List.set_cons_zero, List.set_cons_succ]
                  refine wpAnyH_take (i := 7) (v := ?_) rfl (by kernel_rfl) (by kernel_rfl) (by kernel_rfl) (fun _ _ _ h => h) (Or.inl ⟨by rfl, ?_⟩) hS ?_
                  rotate_left
                  · (intro W hs; go_simp; first | done | with_reducible rfl)
                  try simp only [Act.put, List.getElem_toArray, List.getElem_cons_zero, List.getElem_cons_succ, List.setIfInBounds_toArray, List.set_cons_zero, List.set_cons_succ]
                  refine wpAnyH_take (i := 8) (v := ?_) rfl (by kernel_rfl) (by kernel_rfl) (by kernel_rfl) (fun _ _ _ h => h) (Or.inl ⟨by rfl, ?_⟩) hS ?_
                  rotate_left
                  · (intro W hs; go_simp; first | done | with_reducible rfl)
                  try simp only [Act.put, List.getElem_toArray, List.getElem_cons_zero, List.getElem_cons_succ, List.setIfInBounds_toArray, List.set_cons_zero, List.set_cons_succ]
                  refine wpAnyH_take (i := 9) (v := ?_) rfl (by kernel_rfl) (by kernel_rfl) (by kernel_rfl) (fun _ _ _ h => h) (Or.inl ⟨by rfl, ?_⟩) hS ?_
                  rotate_left
                  · (intro W hs; go_simp; first | done | with_reducible rfl)
                  try simp only [Act.put, List.getElem_toArray, List.getElem_cons_zero, List.getElem_cons_succ, List.setIfInBounds_toArray, List.set_cons_zero, List.set_cons_succ]
                  refine wpAnyH_take (i := 10) (v := ?_) rfl (by kernel_rfl) (by kernel_rfl) (by kernel_rfl) (fun _ _ _ h => h) (Or.inl ⟨by rfl, ?_⟩) hS ?_
                  rotate_left
                  · (intro W hs; go_simp; first | done | with_reducible rfl)
                  try simp only [Act.put, List.getElem_toArray, List.getElem_cons_zero, List.getElem_cons_succ, List.setIfInBounds_toArray, List.set_cons_zero, List.set_cons_succ]
                  refine wpAnyH_take (i := 11) (v := ?_) rfl (by kernel_rfl) (by kernel_rfl) (by kernel_rfl) (fun _ _ _ h => h) (Or.inl ⟨by rfl, ?_⟩) hS ?_
                  rotate_left
                  · (intro W hs; go_simp; first | done | with_reducible rfl)
                  try simp only [Act.put, List.getElem_toArray, List.getElem_cons_zero, List.getElem_cons_succ, List.setIfInBounds_toArray, List.set_cons_zero, List.set_cons_succ]
                  refine wpAnyH_take (i := 12) (v := ?_) rfl (by kernel_rfl) (by kernel_rfl) (by kernel_rfl) (fun _ _ _ h => h) (Or.inl ⟨by rfl, ?_⟩) hS ?_
                  rotate_left
                  · (intro W hs; go_simp; first | done | with_reducible rfl)
                  try simp only [Act.put, List.getElem_toArray, List.getElem_cons_zero, List.getElem_cons_succ, List.setIfInBounds_toArray, List.set_cons_zero, List.set_cons_succ]
                  refine wpAnyH_take (i := 13) (v := ?_) rfl (by kernel_rfl) (by kernel_rfl) (by kernel_rfl) (fun _ _ _ h => h) (Or.inl ⟨by rfl, ?_⟩) hS ?_
                  rotate_left
                  · (intro W hs; go_simp; first | done | with_reducible rfl)
                  try simp only [Act.put, List.getElem_toArray, List.getElem_cons_zero, List.getElem_cons_succ, List.setIfInBounds_toArray, List.set_cons_zero, List.set_cons_succ]
                  refine wpH_one (i := 14) (by kernel_rfl) rfl (fun K hK => ?_)
                  go_simp
                  refine (CNb.out _ hS).mono ?_
                  rintro e w' ⟨rfl, hfi⟩
                  refine hK.out _ _ (hS.trans hfi) (fun hS' => ?_)
                  clear hK K hS hfi
                  have hS := hS'
                  clear hS'
                  try simp only [Act.put, List.getElem_toArray, List.getElem_cons_zero, List.getElem_cons_succ, List.setIfInBounds_toArray, List.set_cons_zero, List.set_cons_succ]
                  refine wpAnyH_take (i := 15) (v := ?_) rfl (by kernel_rfl) (by kernel_rfl) (by kernel_rfl) (fun _ _ _ h => h) (Or.inl ⟨by rfl, ?_⟩) hS ?_
                  rotate_left
                  · (intro W hs; go_simp; first | done | with_reducible rfl)
                  try simp only [Act.put, List.getElem_toArray, List.getElem_cons_zero, List.getElem_cons_succ, List.setIfInBounds_toArray, List.set_cons_zero, List.set_cons_succ]
                  refine wpAnyH_done (by kernel_rfl) ?_ _
                  have HF := Lib.hid hS
                  clear hS s0
                  go_wp2_with fail
                  refine wp_region_G 13 (fun b W => b = false → Fx No wx W) (by kernel_rfl) (fun _ => HF.out.drew) ?_
                  intro hS hC
                  refine wpG_take (i := 0) (v := ?_) rfl (by kernel_rfl) (by kernel_rfl) (by kernel_rfl) (by kernel_rfl) (fun _ _ _ h => h) (by decide) (Or.inl ⟨by rfl, ?_⟩) hC hS ?_
                  rotate_left
                  · (intro W hc; have hf := hc rfl; go_simp; first | done | with_reducible rfl)
                  clear hS hC
                  intro hS hC
                  try simp only [Act.put, List.getElem_toArray, List.getElem_cons_zero, List.getElem_cons_succ, List.setIfInBounds_toArray, List.set_cons_zero, List.set_cons_succ]
                  refine wpG_take (i := 1) (v := ?_) rfl (by kernel_rfl) (by kernel_rfl) (by kernel_rfl) (by kernel_rfl) (fun _ _ _ h => h) (by decide) (Or.inl ⟨by rfl, ?_⟩) hC hS ?_
                  rotate_left
                  · (intro W hc; have hf := hc rfl; go_simp; first | done | with_reducible rfl)
                  clear hS hC
                  intro hS hC
                  try simp only [Act.put, List.getElem_toArray, List.getElem_cons_zero, List.getElem_cons_succ, List.setIfInBounds_toArray, List.set_cons_zero, List.set_cons_succ]
                  refine wpG_take (i := 2) (v := ?_) rfl (by kernel_rfl) (by kernel_rfl) (by kernel_rfl) (by kernel_rfl) (fun _ _ _ h => h) (by decide) (Or.inl ⟨by rfl, ?_⟩) hC hS ?_
                  rotate_left
                  · (intro W hc; have hf := hc rfl; go_simp; first | done | with_reducible rfl)
                  clear hS hC
                  intro hS hC
                  try simp only [Act.put, List.getElem_toArray, List.getElem_cons_zero, List.getElem_cons_succ, List.setIfInBounds_toArray, List.set_cons_zero, List.set_cons_succ]
                  refine wpG_take (i := 3) (v := ?_) rfl (by kernel_rfl) (by kernel_rfl) (by kernel_rfl) (by kernel_rfl) (fun _ _ _ h => h) (by decide) (Or.inl ⟨by rfl, ?_⟩) hC hS ?_
                  rotate_left
                  · (intro W hc; have hf := hc rfl; go_simp; first | done | with_reducible rfl)
                  clear hS hC
                  intro hS hC
                  try simp only [Act.put, List.getElem_toArray, List.getElem_cons_zero, List.getElem_cons_succ, List.setIfInBounds_toArray, List.set_cons_zero, List.set_cons_succ]
                  refine wpG_take (i := 4) (v := ?_) rfl (by kernel_rfl) (by kernel_rfl) (by kernel_rfl) (by kernel_rfl) (fun _ _ _ h => h) (by decide) (Or.inl ⟨by rfl, ?_⟩) hC hS ?_
                  rotate_left
                  · (intro W hc; have hf := hc rfl; go_simp; first | done | with_reducible rfl)
                  clear hS hC
                  intro hS hC
                  try simp only [Act.put, List.getElem_toArray, List.getElem_cons_zero, List.getElem_cons_succ, List.setIfInBounds_toArray, List.set_cons_zero, List.set_cons_succ]
                  refine wpG_take (i := 5) (v := ?_) rfl (by kernel_rfl) (by kernel_rfl) (by kernel_rfl) (by kernel_rfl) (fun _ _ _ h => h) (by decide) (Or.inl ⟨by rfl, ?_⟩) hC hS ?_
                  rotate_left
                  · (intro W hc; have hf := hc rfl; go_simp; first | done | with_reducible rfl)
                  clear hS hC
                  intro hS hC
                  try simp only [Act.put, List.getElem_toArray, List.getElem_cons_zero, List.getElem_cons_succ, List.setIfInBounds_toArray, List.set_cons_zero, List.set_cons_succ]
                  refine wpG_take (i := 6) (v := ?_) rfl (by kernel_rfl) (by kernel_rfl) (by kernel_rfl) (by kernel_rfl) (fun _ _ _ h => h) (by decide) (Or.inl ⟨by rfl, ?_⟩) hC hS ?_
                  rotate_left
                  · (intro W hc; have hf := hc rfl; go_simp; first | done | with_reducible rfl)
                  clear hS hC
                  intro hS hC
                  try simp only [Act.put, List.getElem_toArray, List.getElem_cons_zero, List.getElem_cons_succ, List.setIfInBounds_toArray, List.set_cons_zero, List.set_cons_succ]
                  refine wpG_take (i := 7) (v := ?_) rfl (by kernel_rfl) (by kernel_rfl) (by kernel_rfl) (by kernel_rfl) (fun _ _ _ h => h) (by decide) (Or.inl ⟨by rfl, ?_⟩) hC hS ?_
                  rotate_left
                  · (intro W hc; have hf := hc rfl; go_simp; first | done | with_reducible rfl)
                  clear hS hC
                  intro hS hC
                  try simp only [Act.put, List.getElem_toArray, List.getElem_cons_zero, List.getElem_cons_succ, List.setIfInBounds_toArray, List.set_cons_zero, List.set_cons_succ]
                  refine wpG_take (i := 8) (v := ?_) rfl (by kernel_rfl) (by kernel_rfl) (by kernel_rfl) (by kernel_rfl) (fun _ _ _ h => h) (by decide) (Or.inl ⟨by rfl, ?_⟩) hC hS ?_
                  rotate_left
                  · (intro W hc; have hf := hc rfl; go_simp; first | done | with_reducible rfl)
                  clear hS hC
                  intro hS hC
                  try simp only [Act.put, List.getElem_toArray, List.getElem_cons_zero, List.getElem_cons_succ, List.setIfInBounds_toArray, List.set_cons_zero, List.set_cons_succ]
                  refine wpG_take (i := 9) (v := ?_) rfl (by kernel_rfl) (by kernel_rfl) (by kernel_rfl) (by kernel_rfl) (fun _ _ _ h => h) (by decide) (Or.inl ⟨by rfl, ?_⟩) hC hS ?_
                  rotate_left
                  · (intro W hc; have hf := hc rfl; go_simp; first | done | with_reducible rfl)
                  clear hS hC
                  intro hS hC
                  try simp only [Act.put, List.getElem_toArray, List.getElem_cons_zero, List.getElem_cons_succ, List.setIfInBounds_toArray, List.set_cons_zero, List.set_cons_succ]
                  refine wpG_take (i := 10) (v := ?_) rfl (by kernel_rfl) (by kernel_rfl) (by kernel_rfl) (by kernel_rfl) (fun _ _ _ h => h) (by decide) (Or.inl ⟨by rfl, ?_⟩) hC hS ?_
                  rotate_left
                  · (intro W hc; have hf := hc rfl; go_simp; first | done | with_reducible rfl)
                  clear hS hC
                  intro hS hC
                  try simp only [Act.put, List.getElem_toArray, List.getElem_cons_zero, List.getElem_cons_succ, List.setIfInBounds_toArray, List.set_cons_zero, List.set_cons_succ]
                  refine wpG_take (i := 11) (v := ?_) rfl (by kernel_rfl) (by kernel_rfl) (by kernel_rfl) (by kernel_rfl) (fun _ _ _ h => h) (by decide) (Or.inl ⟨by rfl, ?_⟩) hC hS ?_
                  rotate_left
                  · (intro W hc; have hf := hc rfl; go_simp; first | done | with_reducible rfl)
                  clear hS hC
                  intro hS hC
                  try simp only [Act.put, List.getElem_toArray, List.getElem_cons_zero, List.getElem_cons_succ, List.setIfInBounds_toArray, List.set_cons_zero, List.set_cons_succ]
                  refine wpG_one (i := 12) (by kernel_rfl) rfl hC (fun K hK => ?_)
                  go_simp
                  refine (CRa.out _ (hS rfl)).mono ?_
                  rintro e w2 ⟨ro2, rn2, rc2, rfl, hfi, HR2⟩
                  have HF2 : Hid (Fx No wx w2) := Lib.hid ((hS rfl).trans hfi.out)
                  refine hK.out _ _ (fun _ => HF2.out) (fun hS' hC' => ?_)
                  clear hfi HF
                  clear hK K hS hC
                  have hS := hS'
                  have hC := hC'
                  clear hS' hC'
                  try simp only [Act.put, List.getElem_toArray, List.getElem_cons_zero, List.getElem_cons_succ, List.setIfInBounds_toArray, List.set_cons_zero, List.set_cons_succ]
                  refine wpG_one (i := 13) (by kernel_rfl) rfl hC (fun K hK => ?_)
                  have g0' := HF2.out.cellF HX.out.s.r0.1 HX.out.s.r0.2 (fun h => h)
                  have g1' := HF2.out.cellF HX.out.s.r1.1 HX.out.s.r1.2 (fun h => h)
                  obtain ⟨u0, u1⟩ := g0'
                  obtain ⟨u2, u3⟩ := g1'
                  go_simp
                  refine hK.out _ _ (fun h => absurd h (by decide +kernel)) (fun _ _ => ?_)
                  clear hK K hS hC
                  refine wpG_done (by kernel_rfl) ?_ _
                  have HY := Lib.hid (ply_add HX.out HF2.out HR2.out)
                  clear u0 u1 u2 u3 g0 g1 CRa
                  clear HR2 HF2
                  have q0 := HY.out.q0
                  have q1 := HY.out.q1
                  go_wp2_with fail
                  refine (refAll_any HY.out.row (by omega) (edges_in N ed)).mono ?_
                  rintro e w3 ⟨vo, gO, B, g, rfl, hf, hm, hg⟩
                  have HLp : Hid (loopsG g N = loopsTo dn N) := Lib.hid (loops_dn HY.out.ok hg)
                  have HM := Lib.hid hm
                  have HY3 := Lib.hid (HY.out.no hf)
                  clear hf hm hg HY
                  go_wp2_with fail
                  refine (refLoops_any HM.out (by omega)).mono ?_
                  rintro e w4 ⟨v4, rfl, hf, ho⟩
                  rw [HLp.out] at ho
                  obtain ⟨la, lc, rfl, _⟩ := ho.ints.facts
                  have HY4 := Lib.hid (HY3.out.no hf)
                  clear hf ho HY3 HM HLp q0 q1
                  have HOK2 := Lib.hid (CloOk.add HY4.out.ok hF hTN)
                  obtain ⟨cy, hcy⟩ : ∃ c, c = cycB N dn := ⟨_, rfl⟩
                  obtain ⟨cy2, hcy2⟩ : ∃ c, c = cycB N (addDn N dn up ed F T) := ⟨_, rfl⟩
                  obtain ⟨L1, hL1⟩ : ∃ n, n = (loopsTo dn N).length := ⟨_, rfl⟩
                  have hcL : cy = decide (0 < L1) := by rw [hcy, hL1]; rfl
                  rw [← hL1]
                  have HCY := Lib.hid hcy
                  have HCY2 := Lib.hid hcy2
                  clear hcy hcy2 hL1
                  have q2 := HY4.out.r0.1
                  have q3 := HY4.out.r1.1
                  rcases (by omega : 0 < L1 ∨ L1 = 0) with h0 | h0
                  · have d8 : decide ((L1 : Int) = 0) = false := decide_eq_false (by omega)
                    obtain rfl : cy = true := by rw [hcL]; exact decide_eq_true h0
                    clear hcL
                    go_wp2_with fail
                    have HD : Hid (∀ x, (Iv w.heap.size rb) x → x < w4.heap.size) := Lib.hid fun x hx => by have := (HY4.out.lo.2.2 x hx).2; have := HY4.out.lo.2.1; omega
                    have HTz : Hid (TabOk w4) := Lib.hid (TabOk.keep HT.out HY4.out.fx (fun h => h))
                    have s0 : Fx No w4 w4 := Fx.refl _ _
                    have CA : Hid (∀ W, Fx No w4 W → Calls Tryz.prog 15 #[.pointer (some ⟨k.b, 0, none⟩), .int .i64 (F : Int), .int .i64 (T : Int)] W fun e w' => e = .returned (.tuple #[.bool false, .int .i64 0]) ∧ Fx (Iv w.heap.size rb) W w' ∧ Hid (Clo w' (Iv w.heap.size rb) N (addDn N dn up ed F T) (addUp N dn up ed F T) (addEd N ed F T) k)) := Lib.hid fun W h => (cloAdd_any (HY4.out.clo.no h) (fun x hx => Nat.lt_of_lt_of_le (HD.out x hx) h.size) (TabOk.keep HTz.out h (fun h => h)) HTD.out hF hTN).mono fun e w' ⟨h1, h2, h3⟩ => ⟨by rw [h1, ← HCY.out, ← HCY2.out]; rfl, h2, Lib.hid h3⟩
                    have CIs2 : Hid (∀ W, (∃ D', Clo W D' N dn up ed kd) → PairsV W (fun x => rb < x) (.slice ro (edgesTo N ed N).length rc) (edgesTo N ed N) → Fx (Iv w.heap.size rb) w4 W → Calls Tryz.prog 16 #[.pointer (some ⟨kd.b, 0, none⟩), .agg #[.int .i64 (N : Int), .slice ro (edgesTo N ed N).length rc], .int .i64 m] W fun e w' => e = .returned (.bool true) ∧ Fx No W w') := Lib.hid fun W hc hr h => by
                      obtain ⟨_, hc⟩ := hc
                      exact is_any hc HY4.out.ok hr (by omega) m (TabOk.keep HTz.out h HTD.out)
                    clear f1 f2 CIs HX
                    have f1 : ∀ W, Fx (Iv w.heap.size rb) w4 W → W.cell? ⟨bl, ol + I * 2, none⟩ = some (.int .i64 (F : Int)) := fun W h => h.cell' (HY4.out.fx.cell' HW1.out (fun h => h)) (fun hx => absurd hblw (Nat.not_lt.2 hx.1))
                    have f2 : ∀ W, Fx (Iv w.heap.size rb) w4 W → W.cell? ⟨bl, ol + I * 2 + 1, none⟩ = some (.int .i64 (T : Int)) := fun W h => h.cell' (HY4.out.fx.cell' HW2.out (fun h => h)) (fun hx => absurd hblw (Nat.not_lt.2 hx.1))
                    refine wp_region_H (fun W => Fx (Iv w.heap.size rb) w4 W) (by kernel_rfl) (Fx.refl _ _).drew ?_
                    intro hS
                    refine wpAnyH_take (i := 0) (v := ?_) rfl (by kernel_rfl) (by kernel_rfl) (by kernel_rfl) (fun _ _ _ h => h) (Or.inl ⟨by rfl, ?_⟩) hS ?_
                    rotate_left
                    · (intro W hs; go_simp; first | done | with_reducible rfl)
                    try simp only [Act.put, List.getElem_toArray, List.getElem_cons_zero, List.getElem_cons_succ, List.setIfInBounds_toArray, List.set_cons_zero, List.set_cons_succ]
                    refine wpAnyH_take (i := 1) (v := ?_) rfl (by kernel_rfl) (by kernel_rfl) (by kernel_rfl) (fun _ _ _ h => h) (Or.inl ⟨by rfl, ?_⟩) hS ?_
                    rotate_left
                    · (intro W hs; go_simp; first | done | with_reducible rfl)
                    try simp only [Act.put, List.getElem_toArray, List.getElem_cons_zero, List.getElem_cons_succ, List.setIfInBounds_toArray, List.set_cons_zero, List.set_cons_succ]
                    refine wpAnyH_take (i := 2) (v := ?_) rfl (by kernel_rfl) (by kernel_rfl) (by kernel_rfl) (fun _ _ _ h => h) (Or.inl ⟨by rfl, ?_⟩) hS ?_
                    rotate_left
                    · (intro W hs; go_simp; first | done | with_reducible rfl)
                    try simp only [Act.put, List.getElem_toArray, List.getElem_cons_zero, List.getElem_cons_succ, List.setIfInBounds_toArray, List.set_cons_zero, List.set_cons_succ]
                    refine wpAnyH_take (i := 3) (v := ?_) rfl (by kernel_rfl) (by kernel_rfl) (by kernel_rfl) (fun _ _ _ h => h) (Or.inl ⟨by rfl, ?_⟩) hS ?_
                    rotate_left
                    · (intro W hs; go_simp; first | done | with_reducible rfl)
                    try simp only [Act.put, List.getElem_toArray, List.getElem_cons_zero, List.getElem_cons_succ, List.setIfInBounds_toArray, List.set_cons_zero, List.set_cons_succ]
                    refine wpAnyH_take (i := 4) (v := ?_) rfl (by kernel_rfl) (by kernel_rfl) (by kernel_rfl) (fun _ _ _ h => h) (Or.inl ⟨by rfl, ?_⟩) hS ?_
                    rotate_left
                    · (intro W hs; go_simp; first | done | with_reducible rfl)
                    try simp only [Act.put, List.getElem_toArray, List.getElem_cons_zero, List.getElem_cons_succ, List.setIfInBounds_toArray, List.set_cons_zero, List.set_cons_succ]
                    refine wpAnyH_take (i := 5) (v := ?_) rfl (by kernel_rfl) (by kernel_rfl) (by kernel_rfl) (fun _ _ _ h => h) (Or.inl ⟨by rfl, ?_⟩) hS ?_
                    rotate_left
                    · (intro W hs; go_simp; first | done | with_reducible rfl)
                    try simp only [Act.put, List.getElem_toArray, List.getElem_cons_zero, List.getElem_cons_succ, List.setIfInBounds_toArray, List.set_cons_zero, List.set_cons_succ]
                    refine wpAnyH_take (i := 6) (v := ?_) rfl (by kernel_rfl) (by kernel_rfl) (by kernel_rfl) (fun _ _ _ h => h) (Or.inl ⟨by rfl, ?_⟩) hS ?_
                    rotate_left
                    · (intro W hs; go_simp; first | done | with_reducible rfl)
                    try simp only [Act.put, List.getElem_toArray, List.getElem_cons_zero, List.getElem_cons_succ, List.setIfInBounds_toArray, List.set_cons_zero, List.set_cons_succ]
                    refine wpAnyH_take (i := 7) (v := ?_) rfl (by kernel_rfl) (by kernel_rfl) (by kernel_rfl) (fun _ _ _ h => h) (Or.inl ⟨by rfl, ?_⟩) hS ?_
                    rotate_left
                    · (intro W hs; go_simp; first | done | with_reducible rfl)
                    try simp only [Act.put, List.getElem_toArray, List.getElem_cons_zero, List.getElem_cons_succ, List.setIfInBounds_toArray, List.set_cons_zero, List.set_cons_succ]
                    refine wpAnyH_take (i := 8) (v := ?_) rfl (by kernel_rfl) (by kernel_rfl) (by kernel_rfl) (fun _ _ _ h => h) (Or.inl ⟨by rfl, ?_⟩) hS ?_
                    rotate_left
                    · (intro W hs; go_simp; first | done | with_reducible rfl)
                    try simp only [Act.put, List.getElem_toArray, List.getElem_cons_zero, List.getElem_cons_succ, List.setIfInBounds_toArray, List.set_cons_zero, List.set_cons_succ]
                    refine wpAnyH_take (i := 9) (v := ?_) rfl (by kernel_rfl) (by kernel_rfl) (by kernel_rfl) (fun _ _ _ h => h) (Or.inl ⟨by rfl, ?_⟩) hS ?_
                    rotate_left
                    · (intro W hs; go_simp; first | done | with_reducible rfl)
                    try simp only [Act.put, List.getElem_toArray, List.getElem_cons_zero, List.getElem_cons_succ, List.setIfInBounds_toArray, List.set_cons_zero, List.set_cons_succ]
                    refine wpAnyH_take (i := 10) (v := ?_) rfl (by kernel_rfl) (by kernel_rfl) (by kernel_rfl) (fun _ _ _ h => h) (Or.inl ⟨by rfl, ?_⟩) hS ?_
                    rotate_left
                    · (intro W hs; go_simp; first | done | with_reducible rfl)
                    try simp only [Act.put, List.getElem_toArray, List.getElem_cons_zero, List.getElem_cons_succ, List.setIfInBounds_toArray, List.set_cons_zero, List.set_cons_succ]
                    refine wpH_one (i := 11) (by kernel_rfl) rfl (fun K hK => ?_)
                    go_simp
                    refine (CA.out _ s0.drew).mono ?_
                    rintro e w8 ⟨rfl, hfi, HCL⟩
                    refine hK.out _ _ (hS.trans hfi) (fun hS' => ?_)
                    clear hK K hS hfi
                    have hS := hS'
                    clear hS'
                    try simp only [Act.put, List.getElem_toArray, List.getElem_cons_zero, List.getElem_cons_succ, List.setIfInBounds_toArray, List.set_cons_zero, List.set_cons_succ]
                    refine wpAnyH_take (i := 12) (v := ?_) rfl (by kernel_rfl) (by kernel_rfl) (by kernel_rfl) (fun _ _ _ h => h) (Or.inl ⟨by rfl, ?_⟩) hS ?_
                    rotate_left
                    · (intro W hs; go_simp; first | done | with_reducible rfl)
                    try simp only [Act.put, List.getElem_toArray, List.getElem_cons_zero, List.getElem_cons_succ, List.setIfInBounds_toArray, List.set_cons_zero, List.set_cons_succ]
                    refine wpAnyH_take (i := 13) (v := ?_) rfl (by kernel_rfl) (by kernel_rfl) (by kernel_rfl) (fun _ _ _ h => h) (Or.inl ⟨by rfl, ?_⟩) hS ?_
                    rotate_left
                    · (intro W hs; go_simp; first | done | with_reducible rfl)
                    try simp only [Act.put, List.getElem_toArray, List.getElem_cons_zero, List.getElem_cons_succ, List.setIfInBounds_toArray, List.set_cons_zero, List.set_cons_succ]
                    refine wpAnyH_take (i := 14) (v := ?_) rfl (by kernel_rfl) (by kernel_rfl) (by kernel_rfl) (fun _ _ _ h => h) (Or.inl ⟨by rfl, ?_⟩) hS ?_
                    rotate_left
                    · (intro W hs; go_simp; first | done | with_reducible rfl)
                    try simp only [Act.put, List.getElem_toArray, List.getElem_cons_zero, List.getElem_cons_succ, List.setIfInBounds_toArray, List.set_cons_zero, List.set_cons_succ]
                    refine wpAnyH_take (i := 15) (v := ?_) rfl (by kernel_rfl) (by kernel_rfl) (by kernel_rfl) (fun _ _ _ h => h) (Or.inl ⟨by rfl, ?_⟩) hS ?_
                    rotate_left
                    · (intro W hs; go_simp; first | done | with_reducible rfl)
                    try simp only [Act.put, List.getElem_toArray, List.getElem_cons_zero, List.getElem_cons_succ, List.setIfInBounds_toArray, List.set_cons_zero, List.set_cons_succ]
                    refine wpAnyH_take (i := 16) (v := ?_) rfl (by kernel_rfl) (by kernel_rfl) (by kernel_rfl) (fun _ _ _ h => h) (Or.inl ⟨by rfl, ?_⟩) hS ?_
                    rotate_left
                    · (intro W hs; go_simp; first | done | with_reducible rfl)
                    try simp only [Act.put, List.getElem_toArray, List.getElem_cons_zero, List.getElem_cons_succ, List.setIfInBounds_toArray, List.set_cons_zero, List.set_cons_succ]
                    refine wpAnyH_done (by kernel_rfl) ?_ _
                    obtain ⟨hS2, hd, hr, p0, p1⟩ := PlY.adds HY4.out hS HCL.out HOK2.out
                    have HS2 := Lib.hid hS2
                    have HF := Lib.hid hS
                    have Hd := Lib.hid hd
                    have Hr := Lib.hid hr
                    clear hS2 hd hr f1 f2 hS CA s0 HCL HCY HCY2
                    obtain ⟨c4, hc4⟩ : ∃ c, I % 4 = c := ⟨_, rfl⟩
                    have hc5 : (I : Int) % 4 = (c4 : Int) := by omega
                    have hc6 : (I : Int).tmod 4 = (c4 : Int) := by rw [← hc4]; rfl
                    rcases (by omega : c4 ≠ 0 ∨ c4 = 0) with hc0 | hc0
                    · have hc7 : decide ((c4 : Int) = 0) = false := decide_eq_false (by omega)
                      have hc8 : ¬ ((c4 : Int) = 0) := by omega
                      go_wp2_with fail
                      refine ⟨⟨I + 1, _, _, _, _, by go_num, by omega, HS2.out⟩, ?_⟩
                      simp [intOf]
                      omega
                    · have hc7 : decide ((c4 : Int) = 0) = true := decide_eq_true (by omega)
                      have hc8 : (c4 : Int) = 0 := by omega
                      go_wp2_with fail
                      refine (CIs2.out _ Hd.out Hr.out HF.out).mono ?_
                      rintro e w9 ⟨rfl, hfi⟩
                      have HS3 := Lib.hid (HS2.out.no hfi)
                      clear hfi
                      go_wp2
                      refine ⟨⟨I + 1, _, _, _, _, by go_num, by omega, HS3.out⟩, ?_⟩
                      simp [intOf]
                      omega
                  · subst h0
                    obtain rfl : cy = false := by rw [hcL]; rfl
                    clear hcL
                    go_wp2_with fail
                    refine (refAll_any HY4.out.row2 (by omega) (edges_in N _)).mono ?_
                    rintro e w5 ⟨vo, gO, B, g, rfl, hf, hm, hg⟩
                    have HLp : Hid (loopsG g N = loopsTo (addDn N dn up ed F T) N) := Lib.hid (loops_dn HOK2.out hg)
                    have HM := Lib.hid hm
                    have HY5 := Lib.hid (HY4.out.no hf)
                    clear hf hm hg HY4 q2 q3
                    go_wp2_with fail
                    refine (refLoops_any HM.out (by omega)).mono ?_
                    rintro e w6 ⟨v4, rfl, hf, ho⟩
                    rw [HLp.out] at ho
                    obtain ⟨la2, lc2, rfl, _⟩ := ho.ints.facts
                    have HY4 := Lib.hid (HY5.out.no hf)
                    clear hf ho HY5 HM HLp
                    obtain ⟨L2, hL2⟩ : ∃ n, n = (loopsTo (addDn N dn up ed F T) N).length := ⟨_, rfl⟩
                    have d9 : decide ((0 : Int) < (L2 : Int)) = cy2 := by rw [HCY2.out, hL2]; unfold cycB; simp
                    rw [← hL2]
                    clear hL2
                    go_wp2_with fail
                    have HD : Hid (∀ x, (Iv w.heap.size rb) x → x < w6.heap.size) := Lib.hid fun x hx => by have := (HY4.out.lo.2.2 x hx).2; have := HY4.out.lo.2.1; omega
                    have HTz : Hid (TabOk w6) := Lib.hid (TabOk.keep HT.out HY4.out.fx (fun h => h))
                    have s0 : Fx No w6 w6 := Fx.refl _ _
                    have CA : Hid (∀ W, Fx No w6 W → Calls Tryz.prog 15 #[.pointer (some ⟨k.b, 0, none⟩), .int .i64 (F : Int), .int .i64 (T : Int)] W fun e w' => e = .returned (.tuple #[.bool cy2, .int .i64 0]) ∧ Fx (Iv w.heap.size rb) W w' ∧ Hid (Clo w' (Iv w.heap.size rb) N (addDn N dn up ed F T) (addUp N dn up ed F T) (addEd N ed F T) k)) := Lib.hid fun W h => (cloAdd_any (HY4.out.clo.no h) (fun x hx => Nat.lt_of_lt_of_le (HD.out x hx) h.size) (TabOk.keep HTz.out h (fun h => h)) HTD.out hF hTN).mono fun e w' ⟨h1, h2, h3⟩ => ⟨by rw [h1, ← HCY.out, ← HCY2.out]; rfl, h2, Lib.hid h3⟩
                    have CIs2 : Hid (∀ W, (∃ D', Clo W D' N dn up ed kd) → PairsV W (fun x => rb < x) (.slice ro (edgesTo N ed N).length rc) (edgesTo N ed N) → Fx (Iv w.heap.size rb) w6 W → Calls Tryz.prog 16 #[.pointer (some ⟨kd.b, 0, none⟩), .agg #[.int .i64 (N : Int), .slice ro (edgesTo N ed N).length rc], .int .i64 m] W fun e w' => e = .returned (.bool true) ∧ Fx No W w') := Lib.hid fun W hc hr h => by
                      obtain ⟨_, hc⟩ := hc
                      exact is_any hc HY4.out.ok hr (by omega) m (TabOk.keep HTz.out h HTD.out)
                    clear f1 f2 CIs HX
                    have f1 : ∀ W, Fx (Iv w.heap.size rb) w6 W → W.cell? ⟨bl, ol + I * 2, none⟩ = some (.int .i64 (F : Int)) := fun W h => h.cell' (HY4.out.fx.cell' HW1.out (fun h => h)) (fun hx => absurd hblw (Nat.not_lt.2 hx.1))
                    have f2 : ∀ W, Fx (Iv w.heap.size rb) w6 W → W.cell? ⟨bl, ol + I * 2 + 1, none⟩ = some (.int .i64 (T : Int)) := fun W h => h.cell' (HY4.out.fx.cell' HW2.out (fun h => h)) (fun hx => absurd hblw (Nat.not_lt.2 hx.1))
                    refine wp_region_H (fun W => Fx (Iv w.heap.size rb) w6 W) (by kernel_rfl) (Fx.refl _ _).drew ?_
                    intro hS
                    refine wpAnyH_take (i := 0) (v := ?_) rfl (by kernel_rfl) (by kernel_rfl) (by kernel_rfl) (fun _ _ _ h => h) (Or.inl ⟨by rfl, ?_⟩) hS ?_
                    rotate_left
                    · (intro W hs; go_simp; first | done | with_reducible rfl)
                    try simp only [Act.put, List.getElem_toArray, List.getElem_cons_zero, List.getElem_cons_succ, List.setIfInBounds_toArray, List.set_cons_zero, List.set_cons_succ]
                    refine wpAnyH_take (i := 1) (v := ?_) rfl (by kernel_rfl) (by kernel_rfl) (by kernel_rfl) (fun _ _ _ h => h) (Or.inl ⟨by rfl, ?_⟩) hS ?_
                    rotate_left
                    · (intro W hs; go_simp; first | done | with_reducible rfl)
                    try simp only [Act.put, List.getElem_toArray, List.getElem_cons_zero, List.getElem_cons_succ, List.setIfInBounds_toArray, List.set_cons_zero, List.set_cons_succ]
                    refine wpAnyH_take (i := 2) (v := ?_) rfl (by kernel_rfl) (by kernel_rfl) (by kernel_rfl) (fun _ _ _ h => h) (Or.inl ⟨by rfl, ?_⟩) hS ?_
                    rotate_left
                    · (intro W hs; go_simp; first | done | with_reducible rfl)
                    try simp only [Act.put, List.getElem_toArray, List.getElem_cons_zero, List.getElem_cons_succ, List.setIfInBounds_toArray, List.set_cons_zero, List.set_cons_succ]
                    refine wpAnyH_take (i := 3) (v := ?_) rfl (by kernel_rfl) (by kernel_rfl) (by kernel_rfl) (fun _ _ _ h => h) (Or.inl ⟨by rfl, ?_⟩) hS ?_
                    rotate_left
                    · (intro W hs; go_simp; first | done | with_reducible rfl)
                    try simp only [Act.put, List.getElem_toArray, List.getElem_cons_zero, List.getElem_cons_succ, List.setIfInBounds_toArray, List.set_cons_zero, List.set_cons_succ]
                    refine wpAnyH_take (i := 4) (v := ?_) rfl (by kernel_rfl) (by kernel_rfl) (by kernel_rfl) (fun _ _ _ h => h) (Or.inl ⟨by rfl, ?_⟩) hS ?_
                    rotate_left
                    · (intro W hs; go_simp; first | done | with_reducible rfl)
                    try simp only [Act.put, List.getElem_toArray, List.getElem_cons_zero, List.getElem_cons_succ, List.setIfInBounds_toArray, List.set_cons_zero, List.set_cons_succ]
                    refine wpAnyH_take (i := 5) (v := ?_) rfl (by kernel_rfl) (by kernel_rfl) (by kernel_rfl) (fun _ _ _ h => h) (Or.inl ⟨by rfl, ?_⟩) hS ?_
                    rotate_left
                    · (intro W hs; go_simp; first | done | with_reducible rfl)
                    try simp only [Act.put, List.getElem_toArray, List.getElem_cons_zero, List.getElem_cons_succ, List.setIfInBounds_toArray, List.set_cons_zero, List.set_cons_succ]
                    refine wpAnyH_take (i := 6) (v := ?_) rfl (by kernel_rfl) (by kernel_rfl) (by kernel_rfl) (fun _ _ _ h => h) (Or.inl ⟨by rfl, ?_⟩) hS ?_
                    rotate_left
                    · (intro W hs; go_simp; first | done | with_reducible rfl)
                    try simp only [Act.put, List.getElem_toArray, List.getElem_cons_zero, List.getElem_cons_succ, List.setIfInBounds_toArray, List.set_cons_zero, List.set_cons_succ]
                    refine wpAnyH_take (i := 7) (v := ?_) rfl (by kernel_rfl) (by kernel_rfl) (by kernel_rfl) (fun _ _ _ h => h) (Or.inl ⟨by rfl, ?_⟩) hS ?_
                    rotate_left
                    · (intro W hs; go_simp; first | done | with_reducible rfl)
                    try simp only [Act.put, List.getElem_toArray, List.getElem_cons_zero, List.getElem_cons_succ, List.setIfInBounds_toArray, List.set_cons_zero, List.set_cons_succ]
                    refine wpAnyH_take (i := 8) (v := ?_) rfl (by kernel_rfl) (by kernel_rfl) (by kernel_rfl) (fun _ _ _ h => h) (Or.inl ⟨by rfl, ?_⟩) hS ?_
                    rotate_left
                    · (intro W hs; go_simp; first | done | with_reducible rfl)
                    try simp only [Act.put, List.getElem_toArray, List.getElem_cons_zero, List.getElem_cons_succ, List.setIfInBounds_toArray, List.set_cons_zero, List.set_cons_succ]
                    refine wpAnyH_take (i := 9) (v := ?_) rfl (by kernel_rfl) (by kernel_rfl) (by kernel_rfl) (fun _ _ _ h => h) (Or.inl ⟨by rfl, ?_⟩) hS ?_
                    rotate_left
                    · (intro W hs; go_simp; first | done | with_reducible rfl)
                    try simp only [Act.put, List.getElem_toArray, List.getElem_cons_zero, List.getElem_cons_succ, List.setIfInBounds_toArray, List.set_cons_zero, List.set_cons_succ]
                    refine wpAnyH_take (i := 10) (v := ?_) rfl (by kernel_rfl) (by kernel_rfl) (by kernel_rfl) (fun _ _ _ h => h) (Or.inl ⟨by rfl, ?_⟩) hS ?_
                    rotate_left
                    · (intro W hs; go_simp; first | done | with_reducible rfl)
                    try simp only [Act.put, List.getElem_toArray, List.getElem_cons_zero, List.getElem_cons_succ, List.setIfInBounds_toArray, List.set_cons_zero, List.set_cons_succ]
                    refine wpH_one (i := 11) (by kernel_rfl) rfl (fun K hK => ?_)
                    go_simp
                    refine (CA.out _ s0.drew).mono ?_
                    rintro e w8 ⟨rfl, hfi, HCL⟩
                    refine hK.out _ _ (hS.trans hfi) (fun hS' => ?_)
                    clear hK K hS hfi
                    have hS := hS'
                    clear hS'
                    try simp only [Act.put, List.getElem_toArray, List.getElem_cons_zero, List.getElem_cons_succ, List.setIfInBounds_toArray, List.set_cons_zero, List.set_cons_succ]
                    refine wpAnyH_take (i := 12) (v := ?_) rfl (by kernel_rfl) (by kernel_rfl) (by kernel_rfl) (fun _ _ _ h => h) (Or.inl ⟨by rfl, ?_⟩) hS ?_
                    rotate_left
                    · (intro W hs; go_simp; first | done | with_reducible rfl)
                    try simp only [Act.put, List.getElem_toArray, List.getElem_cons_zero, List.getElem_cons_succ, List.setIfInBounds_toArray, List.set_cons_zero, List.set_cons_succ]
                    refine wpAnyH_take (i := 13) (v := ?_) rfl (by kernel_rfl) (by kernel_rfl) (by kernel_rfl) (fun _ _ _ h => h) (Or.inl ⟨by rfl, ?_⟩) hS ?_
                    rotate_left
                    · (intro W hs; go_simp; first | done | with_reducible rfl)
                    try simp only [Act.put, List.getElem_toArray, List.getElem_cons_zero, List.getElem_cons_succ, List.setIfInBounds_toArray, List.set_cons_zero, List.set_cons_succ]
                    refine wpAnyH_take (i := 14) (v := ?_) rfl (by kernel_rfl) (by kernel_rfl) (by kernel_rfl) (fun _ _ _ h => h) (Or.inl ⟨by rfl, ?_⟩) hS ?_
                    rotate_left
                    · (intro W hs; go_simp; first | done | with_reducible rfl)
                    try simp only [Act.put, List.getElem_toArray, List.getElem_cons_zero, List.getElem_cons_succ, List.setIfInBounds_toArray, List.set_cons_zero, List.set_cons_succ]
                    refine wpAnyH_take (i := 15) (v := ?_) rfl (by kernel_rfl) (by kernel_rfl) (by kernel_rfl) (fun _ _ _ h => h) (Or.inl ⟨by rfl, ?_⟩) hS ?_
                    rotate_left
                    · (intro W hs; go_simp; first | done | with_reducible rfl)
                    try simp only [Act.put, List.getElem_toArray, List.getElem_cons_zero, List.getElem_cons_succ, List.setIfInBounds_toArray, List.set_cons_zero, List.set_cons_succ]
                    refine wpAnyH_take (i := 16) (v := ?_) rfl (by kernel_rfl) (by kernel_rfl) (by kernel_rfl) (fun _ _ _ h => h) (Or.inl ⟨by rfl, ?_⟩) hS ?_
                    rotate_left
                    · (intro W hs; go_simp; first | done | with_reducible rfl)
                    try simp only [Act.put, List.getElem_toArray, List.getElem_cons_zero, List.getElem_cons_succ, List.setIfInBounds_toArray, List.set_cons_zero, List.set_cons_succ]
                    refine wpAnyH_done (by kernel_rfl) ?_ _
                    obtain ⟨hS2, hd, hr, p0, p1⟩ := PlY.adds HY4.out hS HCL.out HOK2.out
                    have HS2 := Lib.hid hS2
                    have HF := Lib.hid hS
                    have Hd := Lib.hid hd
                    have Hr := Lib.hid hr
                    clear hS2 hd hr f1 f2 hS CA s0 HCL HCY HCY2
                    obtain ⟨c4, hc4⟩ : ∃ c, I % 4 = c := ⟨_, rfl⟩
                    have hc5 : (I : Int) % 4 = (c4 : Int) := by omega
                    have hc6 : (I : Int).tmod 4 = (c4 : Int) := by rw [← hc4]; rfl
                    rcases (by omega : c4 ≠ 0 ∨ c4 = 0) with hc0 | hc0
                    · have hc7 : decide ((c4 : Int) = 0) = false := decide_eq_false (by omega)
                      have hc8 : ¬ ((c4 : Int) = 0) := by omega
                      go_wp2_with fail
                      refine ⟨⟨I + 1, _, _, _, _, by go_num, by omega, HS2.out⟩, ?_⟩
                      simp [intOf]
                      omega
                      · exact absurd (by rw [← d9]; simp) (by assumption : ¬ cy2 = decide (0 < L2))
                    · have hc7 : decide ((c4 : Int) = 0) = true := decide_eq_true (by omega)
                      have hc8 : (c4 : Int) = 0 := by omega
                      go_wp2_with fail
                      refine (CIs2.out _ Hd.out Hr.out HF.out).mono ?_
                      rintro e w9 ⟨rfl, hfi⟩
                      have HS3 := Lib.hid (HS2.out.no hfi)
                      clear hfi
                      go_wp2
                      refine ⟨⟨I + 1, _, _, _, _, by go_num, by omega, HS3.out⟩, ?_⟩
                      simp [intOf]
                      omega
                      · exact absurd (by rw [← d9]; simp) (by assumption : ¬ cy2 = decide (0 < L2))
                · have HNo : Hid (¬ (0 ≤ a ∧ a < (N : Int)) ∨ ¬ (0 ≤ b ∧ b < (N : Int))) := Lib.hid (by
                    have h1 := HTa.out
                    have h2 := HTb.out
                    clear s0
                    cases ta
                    · exact .inl (of_decide_eq_false h1.symm)
                    · cases tb
                      · exact .inr (of_decide_eq_false h2.symm)
                      · exact absurd ⟨rfl, rfl⟩ hin)
                  have hta : ta = false ∨ (ta = true ∧ tb = false) := by cases ta <;> cases tb <;> simp_all
                  clear hin HTa HTb
                  rcases hta with rfl | ⟨rfl, rfl⟩
                  · go_wp2_with fail
                    refine wp_region_H (fun W => Fx No wx W) (by kernel_rfl) s0.drew ?_
                    intro hS
                    refine wpAnyH_take (i := 0) (v := ?_) rfl (by kernel_rfl) (by kernel_rfl) (by kernel_rfl) (fun _ _ _ h => h) (Or.inl ⟨by rfl, ?_⟩) hS ?_
                    rotate_left
                    · (intro W hs; go_simp; first | done | with_reducible rfl)
                    try simp only [Act.put, List.getElem_toArray, List.getElem_cons_zero, List.getElem_cons_succ, List.setIfInBounds_toArray, List.set_cons_zero, List.set_cons_succ]
                    refine wpAnyH_take (i := 1) (v := ?_) rfl (by kernel_rfl) (by kernel_rfl) (by kernel_rfl) (fun _ _ _ h => h) (Or.inl ⟨by rfl, ?_⟩) hS ?_
                    rotate_left
                    · (intro W hs; go_simp; first | done | with_reducible rfl)
                    try simp only [Act.put, List.getElem_toArray, List.getElem_cons_zero, List.getElem_cons_succ, List.setIfInBounds_toArray, List.set_cons_zero, List.set_cons_succ]
                    refine wpAnyH_take (i := 2) (v := ?_) rfl (by kernel_rfl) (by kernel_rfl) (by kernel_rfl) (fun _ _ _ h => h) (Or.inl ⟨by rfl, ?_⟩) hS ?_
                    rotate_left
                    · (intro W hs; go_simp; first | done | with_reducible rfl)
                    try simp only [Act.put, List.getElem_toArray, List.getElem_cons_zero, List.getElem_cons_succ, List.setIfInBounds_toArray, List.set_cons_zero, List.set_cons_succ]
                    refine wpAnyH_take (i := 3) (v := ?_) rfl (by kernel_rfl) (by kernel_rfl) (by kernel_rfl) (fun _ _ _ h => h) (Or.inl ⟨by rfl, ?_⟩) hS ?_
                    rotate_left
                    · (intro W hs; go_simp; first | done | with_reducible rfl)
                    try simp only [Act.put, List.getElem_toArray, List.getElem_cons_zero, List.getElem_cons_succ, List.setIfInBounds_toArray, List.set_cons_zero, List.set_cons_succ]
                    refine wpAnyH_take (i := 4) (v := ?_) rfl (by kernel_rfl) (by kernel_rfl) (by kernel_rfl) (fun _ _ _ h => h) (Or.inl ⟨by rfl, ?_⟩) hS ?_
                    rotate_left
                    · (intro W hs; go_simp; first | done | with_reducible rfl)
                    try simp only [Act.put, List.getElem_toArray, List.getElem_cons_zero, List.getElem_cons_succ, List.setIfInBounds_toArray, List.set_cons_zero, List.set_cons_succ]
                    refine wpAnyH_take (i := 5) (v := ?_) rfl (by kernel_rfl) (by kernel_rfl) (by kernel_rfl) (fun _ _ _ h => h) (Or.inl ⟨by rfl, ?_⟩) hS ?_
                    rotate_left
                    · (intro W hs; go_simp; first | done | with_reducible rfl)
                    try simp only [Act.put, List.getElem_toArray, List.getElem_cons_zero, List.getElem_cons_succ, List.setIfInBounds_toArray, List.set_cons_zero, List.set_cons_succ]
                    refine wpH_one (i := 6) (by kernel_rfl) rfl (fun K hK => ?_)
                    go_simp
                    refine (CNa.out _ hS).mono ?_
                    rintro e w' ⟨rfl, hfi⟩
                    refine hK.out _ _ (hS.trans hfi) (fun hS' => ?_)
                    clear hK K hS hfi
                    have hS := hS'
                    clear hS'
                    try simp only [Act.put, List.getElem_toArray, List.getElem_cons_zero, List.getElem_cons_succ, List.setIfInBounds_toArray, List.set_cons_zero, List.set_cons_succ]
                    refine wpAnyH_take (i := 7) (v := ?_) rfl (by kernel_rfl) (by kernel_rfl) (by kernel_rfl) (fun _ _ _ h => h) (Or.inl ⟨by rfl, ?_⟩) hS ?_
                    rotate_left
                    · (intro W hs; go_simp; first | done | with_reducible rfl)
                    try simp only [Act.put, List.getElem_toArray, List.getElem_cons_zero, List.getElem_cons_succ, List.setIfInBounds_toArray, List.set_cons_zero, List.set_cons_succ]
                    refine wpAnyH_take (i := 8) (v := undef) rfl (by kernel_rfl) (by kernel_rfl) (by kernel_rfl) (fun _ _ _ h => h) (Or.inr ⟨by rfl, rfl⟩) hS ?_
                    try simp only [Act.put, List.getElem_toArray, List.getElem_cons_zero, List.getElem_cons_succ, List.setIfInBounds_toArray, List.set_cons_zero, List.set_cons_succ]
                    refine wpAnyH_take (i := 9) (v := undef) rfl (by kernel_rfl) (by kernel_rfl) (by kernel_rfl) (fun _ _ _ h => h) (Or.inr ⟨by rfl, rfl⟩) hS ?_
                    try simp only [Act.put, List.getElem_toArray, List.getElem_cons_zero, List.getElem_cons_succ, List.setIfInBounds_toArray, List.set_cons_zero, List.set_cons_succ]
                    refine wpAnyH_take (i := 10) (v := undef) rfl (by kernel_rfl) (by kernel_rfl) (by kernel_rfl) (fun _ _ _ h => h) (Or.inr ⟨by rfl, rfl⟩) hS ?_
                    try simp only [Act.put, List.getElem_toArray, List.getElem_cons_zero, List.getElem_cons_succ, List.setIfInBounds_toArray, List.set_cons_zero, List.set_cons_succ]
                    refine wpAnyH_take (i := 11) (v := undef) rfl (by kernel_rfl) (by kernel_rfl) (by kernel_rfl) (fun _ _ _ h => h) (Or.inr ⟨by rfl, rfl⟩) hS ?_
                    try simp only [Act.put, List.getElem_toArray, List.getElem_cons_zero, List.getElem_cons_succ, List.setIfInBounds_toArray, List.set_cons_zero, List.set_cons_succ]
                    refine wpAnyH_take (i := 12) (v := undef) rfl (by kernel_rfl) (by kernel_rfl) (by kernel_rfl) (fun _ _ _ h => h) (Or.inr ⟨by rfl, rfl⟩) hS ?_
                    try simp only [Act.put, List.getElem_toArray, List.getElem_cons_zero, List.getElem_cons_succ, List.setIfInBounds_toArray, List.set_cons_zero, List.set_cons_succ]
                    refine wpAnyH_take (i := 13) (v := undef) rfl (by kernel_rfl) (by kernel_rfl) (by kernel_rfl) (fun _ _ _ h => h) (Or.inr ⟨by rfl, rfl⟩) hS ?_
                    try simp only [Act.put, List.getElem_toArray, List.getElem_cons_zero, List.getElem_cons_succ, List.setIfInBounds_toArray, List.set_cons_zero, List.set_cons_succ]
                    refine wpAnyH_take (i := 14) (v := undef) rfl (by kernel_rfl) (by kernel_rfl) (by kernel_rfl) (fun _ _ _ h => h) (Or.inr ⟨by rfl, rfl⟩) hS ?_
                    try simp only [Act.put, List.getElem_toArray, List.getElem_cons_zero, List.getElem_cons_succ, List.setIfInBounds_toArray, List.set_cons_zero, List.set_cons_succ]
                    refine wpAnyH_take (i := 15) (v := ?_) rfl (by kernel_rfl) (by kernel_rfl) (by kernel_rfl) (fun _ _ _ h => h) (Or.inl ⟨by rfl, ?_⟩) hS ?_
                    rotate_left
                    · (intro W hs; go_simp; first | done | with_reducible rfl)
                    try simp only [Act.put, List.getElem_toArray, List.getElem_cons_zero, List.getElem_cons_succ, List.setIfInBounds_toArray, List.set_cons_zero, List.set_cons_succ]
                    refine wpAnyH_done (by kernel_rfl) ?_ _
                    have HF := Lib.hid hS
                    clear hS s0
                    have CA : Hid (∀ W, Fx No wx W → Calls Tryz.prog 15 #[.pointer (some ⟨k.b, 0, none⟩), .int .i64 a, .int .i64 b] W fun e w' => e = .returned (.tuple #[.bool false, .int .i64 130]) ∧ Fx No W w') := Lib.hid fun W h => cloAdd_no (HX.out.s.clo.no h) a b HNo.out
                    go_wp2_with fail
                    refine wp_region_H (fun W => Fx No wx W) (by kernel_rfl) HF.out.drew ?_
                    intro hS
                    refine wpAnyH_take (i := 0) (v := ?_) rfl (by kernel_rfl) (by kernel_rfl) (by kernel_rfl) (fun _ _ _ h => h) (Or.inl ⟨by rfl, ?_⟩) hS ?_
                    rotate_left
                    · (intro W hs; go_simp; first | done | with_reducible rfl)
                    try simp only [Act.put, List.getElem_toArray, List.getElem_cons_zero, List.getElem_cons_succ, List.setIfInBounds_toArray, List.set_cons_zero, List.set_cons_succ]
                    refine wpAnyH_take (i := 1) (v := ?_) rfl (by kernel_rfl) (by kernel_rfl) (by kernel_rfl) (fun _ _ _ h => h) (Or.inl ⟨by rfl, ?_⟩) hS ?_
                    rotate_left
                    · (intro W hs; go_simp; first | done | with_reducible rfl)
                    try simp only [Act.put, List.getElem_toArray, List.getElem_cons_zero, List.getElem_cons_succ, List.setIfInBounds_toArray, List.set_cons_zero, List.set_cons_succ]
                    refine wpAnyH_take (i := 2) (v := ?_) rfl (by kernel_rfl) (by kernel_rfl) (by kernel_rfl) (fun _ _ _ h => h) (Or.inl ⟨by rfl, ?_⟩) hS ?_
                    rotate_left
                    · (intro W hs; go_simp; first | done | with_reducible rfl)
                    try simp only [Act.put, List.getElem_toArray, List.getElem_cons_zero, List.getElem_cons_succ, List.setIfInBounds_toArray, List.set_cons_zero, List.set_cons_succ]
                    refine wpAnyH_take (i := 3) (v := ?_) rfl (by kernel_rfl) (by kernel_rfl) (by kernel_rfl) (fun _ _ _ h => h) (Or.inl ⟨by rfl, ?_⟩) hS ?_
                    rotate_left
                    · (intro W hs; go_simp; first | done | with_reducible rfl)
                    try simp only [Act.put, List.getElem_toArray, List.getElem_cons_zero, List.getElem_cons_succ, List.setIfInBounds_toArray, List.set_cons_zero, List.set_cons_succ]
                    refine wpAnyH_take (i := 4) (v := ?_) rfl (by kernel_rfl) (by kernel_rfl) (by kernel_rfl) (fun _ _ _ h => h) (Or.inl ⟨by rfl, ?_⟩) hS ?_
                    rotate_left
                    · (intro W hs; go_simp; first | done | with_reducible rfl)
                    try simp only [Act.put, List.getElem_toArray, List.getElem_cons_zero, List.getElem_cons_succ, List.setIfInBounds_toArray, List.set_cons_zero, List.set_cons_succ]
                    refine wpAnyH_take (i := 5) (v := ?_) rfl (by kernel_rfl) (by kernel_rfl) (by kernel_rfl) (fun _ _ _ h => h) (Or.inl ⟨by rfl, ?_⟩) hS ?_
                    rotate_left
                    · (intro W hs; go_simp; first | done | with_reducible rfl)
                    try simp only [Act.put, List.getElem_toArray, List.getElem_cons_zero, List.getElem_cons_succ, List.setIfInBounds_toArray, List.set_cons_zero, List.set_cons_succ]
                    refine wpAnyH_take (i := 6) (v := ?_) rfl (by kernel_rfl) (by kernel_rfl) (by kernel_rfl) (fun _ _ _ h => h) (Or.inl ⟨by rfl, ?_⟩) hS ?_
                    rotate_left
                    · (intro W hs; go_simp; first | done | with_reducible rfl)
                    try simp only [Act.put, List.getElem_toArray, List.getElem_cons_zero, List.getElem_cons_succ, List.setIfInBounds_toArray, List.set_cons_zero, List.set_cons_succ]
                    refine wpAnyH_take (i := 7) (v := ?_) rfl (by kernel_rfl) (by kernel_rfl) (by kernel_rfl) (fun _ _ _ h => h) (Or.inl ⟨by rfl, ?_⟩) hS ?_
                    rotate_left
                    · (intro W hs; go_simp; first | done | with_reducible rfl)
                    try simp only [Act.put, List.getElem_toArray, List.getElem_cons_zero, List.getElem_cons_succ, List.setIfInBounds_toArray, List.set_cons_zero, List.set_cons_succ]
                    refine wpAnyH_take (i := 8) (v := ?_) rfl (by kernel_rfl) (by kernel_rfl) (by kernel_rfl) (fun _ _ _ h => h) (Or.inl ⟨by rfl, ?_⟩) hS ?_
                    rotate_left
                    · (intro W hs; go_simp; first | done | with_reducible rfl)
                    try simp only [Act.put, List.getElem_toArray, List.getElem_cons_zero, List.getElem_cons_succ, List.setIfInBounds_toArray, List.set_cons_zero, List.set_cons_succ]
                    refine wpAnyH_take (i := 9) (v := ?_) rfl (by kernel_rfl) (by kernel_rfl) (by kernel_rfl) (fun _ _ _ h => h) (Or.inl ⟨by rfl, ?_⟩) hS ?_
                    rotate_left
                    · (intro W hs; go_simp; first | done | with_reducible rfl)
                    try simp only [Act.put, List.getElem_toArray, List.getElem_cons_zero, List.getElem_cons_succ, List.setIfInBounds_toArray, List.set_cons_zero, List.set_cons_succ]
                    refine wpAnyH_take (i := 10) (v := ?_) rfl (by kernel_rfl) (by kernel_rfl) (by kernel_rfl) (fun _ _ _ h => h) (Or.inl ⟨by rfl, ?_⟩) hS ?_
                    rotate_left
                    · (intro W hs; go_simp; first | done | with_reducible rfl)
                    try simp only [Act.put, List.getElem_toArray, List.getElem_cons_zero, List.getElem_cons_succ, List.setIfInBounds_toArray, List.set_cons_zero, List.set_cons_succ]
                    refine wpH_one (i := 11) (by kernel_rfl) rfl (fun K hK => ?_)
                    go_simp
                    refine (CA.out _ hS).mono ?_
                    rintro e w3 ⟨rfl, hfi⟩
                    refine hK.out _ _ (hS.trans hfi) (fun hS' => ?_)
                    clear hK K hS hfi
                    have hS := hS'
                    clear hS'
                    try simp only [Act.put, List.getElem_toArray, List.getElem_cons_zero, List.getElem_cons_succ, List.setIfInBounds_toArray, List.set_cons_zero, List.set_cons_succ]
                    refine wpAnyH_take (i := 12) (v := ?_) rfl (by kernel_rfl) (by kernel_rfl) (by kernel_rfl) (fun _ _ _ h => h) (Or.inl ⟨by rfl, ?_⟩) hS ?_
                    rotate_left
                    · (intro W hs; go_simp; first | done | with_reducible rfl)
                    try simp only [Act.put, List.getElem_toArray, List.getElem_cons_zero, List.getElem_cons_succ, List.setIfInBounds_toArray, List.set_cons_zero, List.set_cons_succ]
                    refine wpAnyH_take (i := 13) (v := ?_) rfl (by kernel_rfl) (by kernel_rfl) (by kernel_rfl) (fun _ _ _ h => h) (Or.inl ⟨by rfl, ?_⟩) hS ?_
                    rotate_left
                    · (intro W hs; go_simp; first | done | with_reducible rfl)
                    try simp only [Act.put, List.getElem_toArray, List.getElem_cons_zero, List.getElem_cons_succ, List.setIfInBounds_toArray, List.set_cons_zero, List.set_cons_succ]
                    refine wpAnyH_take (i := 14) (v := ?_) rfl (by kernel_rfl) (by kernel_rfl) (by kernel_rfl) (fun _ _ _ h => h) (Or.inl ⟨by rfl, ?_⟩) hS ?_
                    rotate_left
                    · (intro W hs; go_simp; first | done | with_reducible rfl)
                    try simp only [Act.put, List.getElem_toArray, List.getElem_cons_zero, List.getElem_cons_succ, List.setIfInBounds_toArray, List.set_cons_zero, List.set_cons_succ]
                    refine wpAnyH_take (i := 15) (v := ?_) rfl (by kernel_rfl) (by kernel_rfl) (by kernel_rfl) (fun _ _ _ h => h) (Or.inl ⟨by rfl, ?_⟩) hS ?_
                    rotate_left
                    · (intro W hs; go_simp; first | done | with_reducible rfl)
                    try simp only [Act.put, List.getElem_toArray, List.getElem_cons_zero, List.getElem_cons_succ, List.setIfInBounds_toArray, List.set_cons_zero, List.set_cons_succ]
                    refine wpAnyH_take (i := 16) (v := ?_) rfl (by kernel_rfl) (by kernel_rfl) (by kernel_rfl) (fun _ _ _ h => h) (Or.inl ⟨by rfl, ?_⟩) hS ?_
                    rotate_left
                    · (intro W hs; go_simp; first | done | with_reducible rfl)
                    try simp only [Act.put, List.getElem_toArray, List.getElem_cons_zero, List.getElem_cons_succ, List.setIfInBounds_toArray, List.set_cons_zero, List.set_cons_succ]
                    refine wpAnyH_done (by kernel_rfl) ?_ _
                    clear HF
                    have HF := Lib.hid hS
                    clear g0 g1 f1 f2 hS CA HNo
                    have q0 : ∀ W, Fx No wx W → W.cell? ⟨wb, 0, none⟩ = some (.int .i64 (N : Int)) := fun W h => h.cell' HX.out.q0 (fun h => h)
                    have q1 : ∀ W, Fx No wx W → W.cell? ⟨wb, 1, none⟩ = some (.slice ro (edgesTo N ed N).length rc) := fun W h => h.cell' HX.out.q1 (fun h => h)
                    have p0 := q0 _ HF.out
                    have p1 := q1 _ HF.out
                    obtain ⟨c4, hc4⟩ : ∃ c, I % 4 = c := ⟨_, rfl⟩
                    have hc5 : (I : Int) % 4 = (c4 : Int) := by omega
                    have hc6 : (I : Int).tmod 4 = (c4 : Int) := by rw [← hc4]; rfl
                    rcases (by omega : c4 ≠ 0 ∨ c4 = 0) with hc0 | hc0
                    · have hc7 : decide ((c4 : Int) = 0) = false := decide_eq_false (by omega)
                      have hc8 : ¬ ((c4 : Int) = 0) := by omega
                      go_wp2_with fail
                      refine ⟨⟨I + 1, _, _, _, _, by go_num, by omega, HX.out.s.no HF.out⟩, ?_⟩
                      simp [intOf]
                      omega
                    · have hc7 : decide ((c4 : Int) = 0) = true := decide_eq_true (by omega)
                      have hc8 : (c4 : Int) = 0 := by omega
                      go_wp2_with fail
                      refine (CIs.out _ HF.out).mono ?_
                      rintro e w4 ⟨rfl, hfi⟩
                      have HF4 : Hid (Fx No wx w4) := Lib.hid (HF.out.trans hfi)
                      clear hfi
                      go_wp2
                      refine ⟨⟨I + 1, _, _, _, _, by go_num, by omega, HX.out.s.no HF4.out⟩, ?_⟩
                      simp [intOf]
                      omega
                  · go_wp2_with fail
                    go_region_held3 (fun W => Fx No wx W)
                      (first
                        | exact s0.drew
                        | exact Fx.transNo (by assumption) hfi)
                      (first
                        | (go_at_call 11; with_reducible refine (CNa.out _ (by assumption)).mono ?_; rintro e w' ⟨rfl, hfi⟩)
                        | (go_at_call 11; with_reducible refine (CNb.out _ (by assumption)).mono ?_; rintro e w' ⟨rfl, hfi⟩))
                    all_goals
                      have HF : Hid (Fx No wx w') := by assumption
                      clear s0
                      have CA : Hid (∀ W, Fx No wx W → Calls Tryz.prog 15 #[.pointer (some ⟨k.b, 0, none⟩), .int .i64 a, .int .i64 b] W fun e w' => e = .returned (.tuple #[.bool false, .int .i64 130]) ∧ Fx No W w') := Lib.hid fun W h => cloAdd_no (HX.out.s.clo.no h) a b HNo.out
                      go_wp2_with fail
                      refine wp_region_H (fun W => Fx No wx W) (by kernel_rfl) HF.out.drew ?_
                      intro hS
                      refine wpAnyH_take (i := 0) (v := ?_) rfl (by kernel_rfl) (by kernel_rfl) (by kernel_rfl) (fun _ _ _ h => h) (Or.inl ⟨by rfl, ?_⟩) hS ?_
                      rotate_left
                      · (intro W hs; go_simp; first | done | with_reducible rfl)
                      try simp only [Act.put, List.getElem_toArray, List.getElem_cons_zero, List.getElem_cons_succ, List.setIfInBounds_toArray, List.set_cons_zero, List.set_cons_succ]
                      refine wpAnyH_take (i := 1) (v := ?_) rfl (by kernel_rfl) (by kernel_rfl) (by kernel_rfl) (fun _ _ _ h => h) (Or.inl ⟨by rfl, ?_⟩) hS ?_
                      rotate_left
                      · (intro W hs; go_simp; first | done | with_reducible rfl)
                      try simp only [Act.put, List.getElem_toArray, List.getElem_cons_zero, List.getElem_cons_succ, List.setIfInBounds_toArray, List.set_cons_zero, List.set_cons_succ]
                      refine wpAnyH_take (i := 2) (v := ?_) rfl (by kernel_rfl) (by kernel_rfl) (by kernel_rfl) (fun _ _ _ h => h) (Or.inl ⟨by rfl, ?_⟩) hS ?_
                      rotate_left
                      · (intro W hs; go_simp; first | done | with_reducible rfl)
                      try simp only [Act.put, List.getElem_toArray, List.getElem_cons_zero, List.getElem_cons_succ, List.setIfInBounds_toArray, List.set_cons_zero, List.set_cons_succ]
                      refine wpAnyH_take (i := 3) (v := ?_) rfl (by kernel_rfl) (by kernel_rfl) (by kernel_rfl) (fun _ _ _ h => h) (Or.inl ⟨by rfl, ?_⟩) hS ?_
                      rotate_left
                      · (intro W hs; go_simp; first | done | with_reducible rfl)
                      try simp only [Act.put, List.getElem_toArray, List.getElem_cons_zero, List.getElem_cons_succ, List.setIfInBounds_toArray, List.set_cons_zero, List.set_cons_succ]
                      refine wpAnyH_take (i := 4) (v := ?_) rfl (by kernel_rfl) (by kernel_rfl) (by kernel_rfl) (fun _ _ _ h => h) (Or.inl ⟨by rfl, ?_⟩) hS ?_
                      rotate_left
                      · (intro W hs; go_simp; first | done | with_reducible rfl)
                      try simp only [Act.put, List.getElem_toArray, List.getElem_cons_zero, List.getElem_cons_succ, List.setIfInBounds_toArray, List.set_cons_zero, List.set_cons_succ]
                      refine wpAnyH_take (i := 5) (v := ?_) rfl (by kernel_rfl) (by kernel_rfl) (by kernel_rfl) (fun _ _ _ h => h) (Or.inl ⟨by rfl, ?_⟩) hS ?_
                      rotate_left
                      · (intro W hs; go_simp; first | done | with_reducible rfl)
                      try simp only [Act.put, List.getElem_toArray, List.getElem_cons_zero, List.getElem_cons_succ, List.setIfInBounds_toArray, List.set_cons_zero, List.set_cons_succ]
                      refine wpAnyH_take (i := 6) (v := ?_) rfl (by kernel_rfl) (by kernel_rfl) (by kernel_rfl) (fun _ _ _ h => h) (Or.inl ⟨by rfl, ?_⟩) hS ?_
                      rotate_left
                      · (intro W hs; go_simp; first | done | with_reducible rfl)
                      try simp only [Act.put, List.getElem_toArray, List.getElem_cons_zero, List.getElem_cons_succ, List.setIfInBounds_toArray, List.set_cons_zero, List.set_cons_succ]
                      refine wpAnyH_take (i := 7) (v := ?_) rfl (by kernel_rfl) (by kernel_rfl) (by kernel_rfl) (fun _ _ _ h => h) (Or.inl ⟨by rfl, ?_⟩) hS ?_
                      rotate_left
                      · (intro W hs; go_simp; first | done | with_reducible rfl)
                      try simp only [Act.put, List.getElem_toArray, List.getElem_cons_zero, List.getElem_cons_succ, List.setIfInBounds_toArray, List.set_cons_zero, List.set_cons_succ]
                      refine wpAnyH_take (i := 8) (v := ?_) rfl (by kernel_rfl) (by kernel_rfl) (by kernel_rfl) (fun _ _ _ h => h) (Or.inl ⟨by rfl, ?_⟩) hS ?_
                      rotate_left
                      · (intro W hs; go_simp; first | done | with_reducible rfl)
                      try simp only [Act.put, List.getElem_toArray, List.getElem_cons_zero, List.getElem_cons_succ, List.setIfInBounds_toArray, List.set_cons_zero, List.set_cons_succ]
                      refine wpAnyH_take (i := 9) (v := ?_) rfl (by kernel_rfl) (by kernel_rfl) (by kernel_rfl) (fun _ _ _ h => h) (Or.inl ⟨by rfl, ?_⟩) hS ?_
                      rotate_left
                      · (intro W hs; go_simp; first | done | with_reducible rfl)
                      try simp only [Act.put, List.getElem_toArray, List.getElem_cons_zero, List.getElem_cons_succ, List.setIfInBounds_toArray, List.set_cons_zero, List.set_cons_succ]
                      refine wpAnyH_take (i := 10) (v := ?_) rfl (by kernel_rfl) (by kernel_rfl) (by kernel_rfl) (fun _ _ _ h => h) (Or.inl ⟨by rfl, ?_⟩) hS ?_
                      rotate_left
                      · (intro W hs; go_simp; first | done | with_reducible rfl)
                      try simp only [Act.put, List.getElem_toArray, List.getElem_cons_zero, List.getElem_cons_succ, List.setIfInBounds_toArray, List.set_cons_zero, List.set_cons_succ]
                      refine wpH_one (i := 11) (by kernel_rfl) rfl (fun K hK => ?_)
                      go_simp
                      refine (CA.out _ hS).mono ?_
                      rintro e w3 ⟨rfl, hfi⟩
                      refine hK.out _ _ (hS.trans hfi) (fun hS' => ?_)
                      clear hK K hS hfi
                      have hS := hS'
                      clear hS'
                      try simp only [Act.put, List.getElem_toArray, List.getElem_cons_zero, List.getElem_cons_succ, List.setIfInBounds_toArray, List.set_cons_zero, List.set_cons_succ]
                      refine wpAnyH_take (i := 12) (v := ?_) rfl (by kernel_rfl) (by kernel_rfl) (by kernel_rfl) (fun _ _ _ h => h) (Or.inl ⟨by rfl, ?_⟩) hS ?_
                      rotate_left
                      · (intro W hs; go_simp; first | done | with_reducible rfl)
                      try simp only [Act.put, List.getElem_toArray, List.getElem_cons_zero, List.getElem_cons_succ, List.setIfInBounds_toArray, List.set_cons_zero, List.set_cons_succ]
                      refine wpAnyH_take (i := 13) (v := ?_) rfl (by kernel_rfl) (by kernel_rfl) (by kernel_rfl) (fun _ _ _ h => h) (Or.inl ⟨by rfl, ?_⟩) hS ?_
                      rotate_left
                      · (intro W hs; go_simp; first | done | with_reducible rfl)
                      try simp only [Act.put, List.getElem_toArray, List.getElem_cons_zero, List.getElem_cons_succ, List.setIfInBounds_toArray, List.set_cons_zero, List.set_cons_succ]
                      refine wpAnyH_take (i := 14) (v := ?_) rfl (by kernel_rfl) (by kernel_rfl) (by kernel_rfl) (fun _ _ _ h => h) (Or.inl ⟨by rfl, ?_⟩) hS ?_
                      rotate_left
                      · (intro W hs; go_simp; first | done | with_reducible rfl)
                      try simp only [Act.put, List.getElem_toArray, List.getElem_cons_zero, List.getElem_cons_succ, List.setIfInBounds_toArray, List.set_cons_zero, List.set_cons_succ]
                      refine wpAnyH_take (i := 15) (v := ?_) rfl (by kernel_rfl) (by kernel_rfl) (by kernel_rfl) (fun _ _ _ h => h) (Or.inl ⟨by rfl, ?_⟩) hS ?_
                      rotate_left
                      · (intro W hs; go_simp; first | done | with_reducible rfl)
                      try simp only [Act.put, List.getElem_toArray, List.getElem_cons_zero, List.getElem_cons_succ, List.setIfInBounds_toArray, List.set_cons_zero, List.set_cons_succ]
                      refine wpAnyH_take (i := 16) (v := ?_) rfl (by kernel_rfl) (by kernel_rfl) (by kernel_rfl) (fun _ _ _ h => h) (Or.inl ⟨by rfl, ?_⟩) hS ?_
                      rotate_left
                      · (intro W hs; go_simp; first | done | with_reducible rfl)
                      try simp only [Act.put, List.getElem_toArray, List.getElem_cons_zero, List.getElem_cons_succ, List.setIfInBounds_toArray, List.set_cons_zero, List.set_cons_succ]
                      refine wpAnyH_done (by kernel_rfl) ?_ _
                      clear HF
                      have HF := Lib.hid hS
                      clear g0 g1 f1 f2 hS CA HNo
                      have q0 : ∀ W, Fx No wx W → W.cell? ⟨wb, 0, none⟩ = some (.int .i64 (N : Int)) := fun W h => h.cell' HX.out.q0 (fun h => h)
                      have q1 : ∀ W, Fx No wx W → W.cell? ⟨wb, 1, none⟩ = some (.slice ro (edgesTo N ed N).length rc) := fun W h => h.cell' HX.out.q1 (fun h => h)
                      have p0 := q0 _ HF.out
                      have p1 := q1 _ HF.out
                      obtain ⟨c4, hc4⟩ : ∃ c, I % 4 = c := ⟨_, rfl⟩
                      have hc5 : (I : Int) % 4 = (c4 : Int) := by omega
                      have hc6 : (I : Int).tmod 4 = (c4 : Int) := by rw [← hc4]; rfl
                      rcases (by omega : c4 ≠ 0 ∨ c4 = 0) with hc0 | hc0
                      · have hc7 : decide ((c4 : Int) = 0) = false := decide_eq_false (by omega)
                        have hc8 : ¬ ((c4 : Int) = 0) := by omega
                        go_wp2_with fail
                        refine ⟨⟨I + 1, _, _, _, _, by go_num, by omega, HX.out.s.no HF.out⟩, ?_⟩
                        simp [intOf]
                        omega
                      · have hc7 : decide ((c4 : Int) = 0) = true := decide_eq_true (by omega)
                        have hc8 : (c4 : Int) = 0 := by omega
                        go_wp2_with fail
                        refine (CIs.out _ HF.out).mono ?_
                        rintro e w4 ⟨rfl, hfi⟩
                        have HF4 : Hid (Fx No wx w4) := Lib.hid (HF.out.trans hfi)
                        clear hfi
                        go_wp2
                        refine ⟨⟨I + 1, _, _, _, _, by go_num, by omega, HX.out.s.no HF4.out⟩, ?_⟩
                        simp [intOf]
                        omega
            · obtain rfl : I = l.length := by omega
              clear hIl r0f r1f
              have s0 : Fx No wr wr := Fx.refl _ _
              have g0 : ∀ W, Fx No wr W → W.cell? ⟨rb, 0, none⟩ = some (.int .i64 (N : Int)) := fun W h => h.cell' r0 (fun h => h)
              have g1 : ∀ W, Fx No wr W → W.cell? ⟨rb, 1, none⟩ = some (.slice ro (edgesTo N ed N).length rc) := fun W h => h.cell' r1 (fun h => h)
              have CIk : Hid (∀ W, Fx No wr W → Calls Tryz.prog 16 #[.pointer (some ⟨k.b, 0, none⟩), .agg #[.int .i64 (N : Int), .slice ro (edgesTo N ed N).length rc], .int .i64 m] W fun e w' => e = .returned (.bool true) ∧ Fx No W w') := Lib.hid fun W h => is_any (HS.out.clo.no h) HS.out.ok (HS.out.row.no h) (by omega) m (TabOk.keep HT.out (HS.out.fx.trans h) (fun h => h))
              have CCp : Hid (∀ W, Fx No wr W → Calls Tryz.prog 10 #[.pointer (some ⟨k.b, 0, none⟩)] W fun e w' => ∃ k' : CC, e = .returned (.pointer (some ⟨k'.b, 0, none⟩)) ∧ Fx No W w' ∧ Hid (∃ D', Clo w' D' N dn up ed k')) := Lib.hid fun W h => (cloCopy_any (HS.out.clo.no h)).mono fun e w' ⟨k', h1, h2, h3⟩ => ⟨k', h1, h2, Lib.hid ⟨_, h3⟩⟩
              have CIx : Hid (∀ W (k' : CC), Fx No wr W → (∃ D', Clo W D' N dn up ed k') → Calls Tryz.prog 16 #[.pointer (some ⟨k'.b, 0, none⟩), .agg #[.int .i64 (N : Int), .slice ro (edgesTo N ed N).length rc], .int .i64 m] W fun e w' => e = .returned (.bool true) ∧ Fx No W w') := Lib.hid fun W k' h ⟨_, hc⟩ => is_any hc HS.out.ok (HS.out.row.no h) (by omega) m (TabOk.keep HT.out (HS.out.fx.trans h) (fun h => h))
              have CW : Hid (∀ W, Fx No wr W → Calls Tryz.prog 8 #[] W fun e w' => e = .returned (.bool true) ∧ Fx No W w') := Lib.hid fun W h => works_any (TabOk.keep HT.out (HS.out.fx.trans h) (fun h => h))
              go_wp2_with fail
              refine wp_region_H (fun W => Fx No wr W) (by kernel_rfl) s0.drew ?_
              intro hS
              refine wpAnyH_take (i := 0) (v := ?_) rfl (by kernel_rfl) (by kernel_rfl) (by kernel_rfl) (fun _ _ _ h => h) (Or.inl ⟨by rfl, ?_⟩) hS ?_
              rotate_left
              · (intro W hs; go_simp; first | done | with_reducible rfl)
              try simp only [Act.put, List.getElem_toArray, List.getElem_cons_zero, List.getElem_cons_succ, List.setIfInBounds_toArray, List.set_cons_zero, List.set_cons_succ]
              refine wpAnyH_take (i := 1) (v := ?_) rfl (by kernel_rfl) (by kernel_rfl) (by kernel_rfl) (fun _ _ _ h => h) (Or.inl ⟨by rfl, ?_⟩) hS ?_
              rotate_left
              · (intro W hs; go_simp; first | done | with_reducible rfl)
              try simp only [Act.put, List.getElem_toArray, List.getElem_cons_zero, List.getElem_cons_succ, List.setIfInBounds_toArray, List.set_cons_zero, List.set_cons_succ]
              refine wpAnyH_take (i := 2) (v := ?_) rfl (by kernel_rfl) (by kernel_rfl) (by kernel_rfl) (fun _ _ _ h => h) (Or.inl ⟨by rfl, ?_⟩) hS ?_
              rotate_left
              · (intro W hs; go_simp; first | done | with_reducible rfl)
              try simp only [Act.put, List.getElem_toArray, List.getElem_cons_zero, List.getElem_cons_succ, List.setIfInBounds_toArray, List.set_cons_zero, List.set_cons_succ]
              refine wpH_one (i := 3) (by kernel_rfl) rfl (fun K hK => ?_)
              go_simp
              refine (CIk.out _ hS).mono ?_
              rintro e w2 ⟨rfl, hfi⟩
              refine hK.out _ _ (hS.trans hfi) (fun hS' => ?_)
              clear hK K hS hfi
              have hS := hS'
              clear hS'
              try simp only [Act.put, List.getElem_toArray, List.getElem_cons_zero, List.getElem_cons_succ, List.setIfInBounds_toArray, List.set_cons_zero, List.set_cons_succ]
              refine wpAnyH_take (i := 4) (v := ?_) rfl (by kernel_rfl) (by kernel_rfl) (by kernel_rfl) (fun _ _ _ h => h) (Or.inl ⟨by rfl, ?_⟩) hS ?_
              rotate_left
              · (intro W hs; go_simp; first | done | with_reducible rfl)
              try simp only [Act.put, List.getElem_toArray, List.getElem_cons_zero, List.getElem_cons_succ, List.setIfInBounds_toArray, List.set_cons_zero, List.set_cons_succ]
              refine wpAnyH_take (i := 5) (v := ?_) rfl (by kernel_rfl) (by kernel_rfl) (by kernel_rfl) (fun _ _ _ h => h) (Or.inl ⟨by rfl, ?_⟩) hS ?_
              rotate_left
              · (intro W hs; go_simp; first | done | with_reducible rfl)
              try simp only [Act.put, List.getElem_toArray, List.getElem_cons_zero, List.getElem_cons_succ, List.setIfInBounds_toArray, List.set_cons_zero, List.set_cons_succ]
              refine wpAnyH_take (i := 7) (v := ?_) rfl (by kernel_rfl) (by kernel_rfl) (by kernel_rfl) (fun _ _ _ h => h) (Or.inl ⟨by rfl, ?_⟩) hS ?_
              rotate_left
              · (intro W hs; go_simp; first | done | with_reducible rfl)
              try simp only [Act.put, List.getElem_toArray, List.getElem_cons_zero, List.getElem_cons_succ, List.setIfInBounds_toArray, List.set_cons_zero, List.set_cons_succ]
              refine wpAnyH_take (i := 8) (v := ?_) rfl (by kernel_rfl) (by kernel_rfl) (by kernel_rfl) (fun _ _ _ h => h) (Or.inl ⟨by rfl, ?_⟩) hS ?_
              rotate_left
              · (intro W hs; go_simp; first | done | with_reducible rfl)
              try simp only [Act.put, List.getElem_toArray, List.getElem_cons_zero, List.getElem_cons_succ, List.setIfInBounds_toArray, List.set_cons_zero, List.set_cons_succ]
              refine wpH_one (i := 6) (by kernel_rfl) rfl (fun K hK => ?_)
              go_simp
              refine (CCp.out _ hS).mono ?_
              rintro e w3 ⟨kd, rfl, hfi, HD⟩
              refine hK.out _ _ (hS.trans hfi) (fun hS' => ?_)
              clear hK K hS hfi
              have hS := hS'
              clear hS'
              try simp only [Act.put, List.getElem_toArray, List.getElem_cons_zero, List.getElem_cons_succ, List.setIfInBounds_toArray, List.set_cons_zero, List.set_cons_succ]
              refine wpH_one (i := 9) (by kernel_rfl) rfl (fun K hK => ?_)
              go_simp
              refine (CIx.out _ kd hS HD.out).mono ?_
              rintro e w4 ⟨rfl, hfi⟩
              refine hK.out _ _ (hS.trans hfi) (fun hS' => ?_)
              clear hK K hS hfi HD
              have hS := hS'
              clear hS'
              try simp only [Act.put, List.getElem_toArray, List.getElem_cons_zero, List.getElem_cons_succ, List.setIfInBounds_toArray, List.set_cons_zero, List.set_cons_succ]
              refine wpAnyH_take (i := 10) (v := ?_) rfl (by kernel_rfl) (by kernel_rfl) (by kernel_rfl) (fun _ _ _ h => h) (Or.inl ⟨by rfl, ?_⟩) hS ?_
              rotate_left
              · (intro W hs; go_simp; first | done | with_reducible rfl)
              try simp only [Act.put, List.getElem_toArray, List.getElem_cons_zero, List.getElem_cons_succ, List.setIfInBounds_toArray, List.set_cons_zero, List.set_cons_succ]
              refine wpAnyH_take (i := 11) (v := ?_) rfl (by kernel_rfl) (by kernel_rfl) (by kernel_rfl) (fun _ _ _ h => h) (Or.inl ⟨by rfl, ?_⟩) hS ?_
              rotate_left
              · (intro W hs; go_simp; first | done | with_reducible rfl)
              try simp only [Act.put, List.getElem_toArray, List.getElem_cons_zero, List.getElem_cons_succ, List.setIfInBounds_toArray, List.set_cons_zero, List.set_cons_succ]
              refine wpH_one (i := 12) (by kernel_rfl) rfl (fun K hK => ?_)
              go_simp
              refine (CW.out _ hS).mono ?_
              rintro e w5 ⟨rfl, hfi⟩
              refine hK.out _ _ (hS.trans hfi) (fun hS' => ?_)
              clear hK K hS hfi
              have hS := hS'
              clear hS'
              try simp only [Act.put, List.getElem_toArray, List.getElem_cons_zero, List.getElem_cons_succ, List.setIfInBounds_toArray, List.set_cons_zero, List.set_cons_succ]
              refine wpAnyH_take (i := 13) (v := ?_) rfl (by kernel_rfl) (by kernel_rfl) (by kernel_rfl) (fun _ _ _ h => h) (Or.inl ⟨by rfl, ?_⟩) hS ?_
              rotate_left
              · (intro W hs; go_simp; first | done | with_reducible rfl)
              try simp only [Act.put, List.getElem_toArray, List.getElem_cons_zero, List.getElem_cons_succ, List.setIfInBounds_toArray, List.set_cons_zero, List.set_cons_succ]
              refine wpH_one (i := 14) (by kernel_rfl) rfl (fun K hK => ?_)
              go_simp
              refine hK.out _ _ (hS) (fun hS' => ?_)
              clear hK K hS
              have hS := hS'
              clear hS'
              try simp only [Act.put, List.getElem_toArray, List.getElem_cons_zero, List.getElem_cons_succ, List.setIfInBounds_toArray, List.set_cons_zero, List.set_cons_succ]
              refine wpAnyH_done (by kernel_rfl) ?_ _
              have HF := Lib.hid hS
              clear hS g0 g1 s0
              go_wp2
              go_ret
              exact ⟨rfl, HS.out.fx.trans HF.out⟩

end
#print axioms plays_any
end Go.Proofs.YtfpggeiphbekoaaGreatDoor
