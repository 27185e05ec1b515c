/- scc: from: a search from a node on. -/
import Derived.Test.YtdoplaijgocboaaGreatS2
import Derived.Deep.LoopGhost
import Derived.StillTailTactics
import Derived.Deep.DeepCutAuto
import Derived.Deep.CutBlock

namespace Go.Proofs.YtdoplaijgocboaaGreat
open Go.RowKit
set_option linter.unusedVariables false

theorem min_ints (ats : Array TypeId) (ty : TypeId) (x y : Nat) : Builtin.min_ ats ty #[.int .i64 (x : Int), .int .i64 (y : Int)] = pure (.int .i64 ((min x y : Nat) : Int)) := by
  have e : (if (y : Int) < (x : Int) then (y : Int) else (x : Int)) = ((min x y : Nat) : Int) := by split <;> omega
  show (pure (Value.int .i64 (if (y : Int) < (x : Int) then (y : Int) else (x : Int))) : Sem Value) = _
  rw [e]
attribute [go_sem] min_ints
theorem info_step : (Tryz.prog.info? 99).map (fun i => (i.zero, i.size, i.bytes)) = some (some (.agg #[.int .i64 0, .slice none 0 0]), 2, 32) := by kernel_rfl
theorem ints_tail {w : World} {E : Nat → Prop} {b o nl nc x : Nat} {ks : List Nat} (h : IntsV w E (.slice (some ⟨b, o, none⟩) nl nc) (natsI (x :: ks))) : nl = ks.length + 1 ∧ ks.length + 1 ≤ nc ∧ w.cell? ⟨b, o, none⟩ = some (.int .i64 (x : Nat)) ∧
    (nc ≠ 1 → IntsV w E (.slice (some ⟨b, o + 1, none⟩) ks.length (nc - 1)) (natsI ks)) ∧ (nc = 1 → ks = [] ∧ IntsV w E (.slice (some ⟨b, o, none⟩) 0 0) (natsI [])) := by
  obtain ⟨ao, c, e1, h2, h3, h4, h5, h6⟩ := h
  simp only [Value.slice.injEq, natsI_len, List.length_cons] at e1
  obtain ⟨rfl, rfl, rfl⟩ := e1
  rw [natsI_len, List.length_cons] at h2
  obtain ⟨b', o', e7, h8, h9⟩ := h6.addr (by simp [ints, natsI])
  simp only [Option.some.injEq, Addr.mk.injEq] at e7
  obtain ⟨rfl, rfl, _⟩ := e7
  refine ⟨rfl, h2, by have := h9 0 (by simp [ints, natsI]); simpa [ints, natsI] using this, fun hnc => ?_, fun hnc => ?_⟩
  · refine ⟨_, nc - 1, by rw [natsI_len], by rw [natsI_len]; omega, by omega, by simp [ints], by simp, .inr ⟨b, o + 1, rfl, h8, fun i hi => ?_⟩⟩
    have hi' : i < ks.length := by simpa [ints, natsI] using hi
    have := h9 (i + 1) (by simp [ints, natsI]; omega)
    rw [show o + 1 + i = o + (i + 1) by omega, this]
    simp [ints, natsI]
  · have hk : ks = [] := List.eq_nil_of_length_eq_zero (by omega)
    exact ⟨hk, _, 0, rfl, Nat.le_refl _, Nat.zero_le _, rfl, by simp, .inl rfl⟩
section
variable {w0 w w' : World} {k : SP} {col : Nat → Nat} {N : Nat} {L : List Ed} {D S : Nat → Prop} {num low : Nat → Nat} {seen : Nat} {opn : Nat → Bool} {stv : Value} {P : List (List Nat)} {B C : Nat → Nat} {pv : Value}
set_option maxRecDepth 100000 in
set_option maxHeartbeats 8000000 in
theorem from_any (h : SrV w0 w k col N L D num low seen opn [] stv P B C pv) (ht : Tj (EG L) N num low seen (clP P) []) (ho : ∀ v, v < N → opn v = false) (hp : PtOk (EG L) P) (hc : seen + unseen N num ≤ N) {n : Nat} (hn : n < N) (h0 : num n = 0) :
    Calls Tryz.prog 38 #[.pointer (some ⟨k.sb, 0, none⟩), .int .i64 (n : Nat)] w fun e w' => e = .returned (.tuple #[]) ∧ ∃ (col' num' low' : Nat → Nat) (seen' : Nat) (opn' : Nat → Bool) (stv' : Value) (P' : List (List Nat)) (B' C' : Nat → Nat) (pv' : Value),
      SrV w0 w' k col' N L D num' low' seen' opn' [] stv' P' B' C' pv' ∧ Tj (EG L) N num' low' seen' (clP P') [] ∧ (∀ v, v < N → opn' v = false) ∧ PtOk (EG L) P' ∧ seen' + unseen N num' ≤ N ∧ (∀ v, num v ≠ 0 → num' v ≠ 0) ∧ num' n ≠ 0 := by
  obtain ⟨iis, his, hzs, hss, hbs⟩ := info_parts info_step
  have hNN := h.g.nn
  have HNd := Lib.hid h.g.nodes
  have H := Lib.hid h
  have HT := Lib.hid ht
  have HO := Lib.hid ho
  have HP := Lib.hid hp
  have HC := Lib.hid hc
  have HN0 := Lib.hid h0
  have hn0 : (0 : Int) ≤ (n : Int) := by omega
  have hn1 : (n : Int) < (N : Int) := by omega
  clear h ht ho hp hc h0
  go_enter Tryz.func38, Tryz.ntmps38
  go_step3
  go_wp2_with (go_at_call 54; refine (begin_any H.out hn (by simp) (by have := HC.out; omega)).mono ?_; rintro e w1 ⟨nxv, stv1, col1, rfl, hS, hf, hcl, hcn, hnx⟩)
  obtain ⟨no, nc, hnv, _⟩ := IntsV.facts hnx
  obtain ⟨nl, hnl⟩ : ∃ x, x = (natsI (nxN L N n)).length := ⟨_, rfl⟩
  rw [← hnl] at hnv
  subst hnv
  have HS := Lib.hid hS
  have HNx := Lib.hid hnx
  clear hS hf hcl hcn hnx hnl
  go_wp2
  obtain ⟨numS, hnS⟩ : ∃ f : Nat → Nat, f = fun j => if j = n then seen + 1 else num j := ⟨_, rfl⟩
  refine wp_hold (fun W => ∃ (col2 : Nat → Nat) (vs : List Value), FrSt w0 k N L D numS W (.slice (some ⟨w1.heap.size, 0, none⟩) 1 1) [⟨n, nxN L N n, []⟩] col2 numS (fun j => if j = n then seen + 1 else low j) (seen + 1) (fun j => if j = n then true else opn j) stv1 P B C pv vs) ?_ ?_
  · have hA := (Fx.refl No w1).alloc (.cells #[.int .i64 (n : Nat), .slice no nl nc] 99)
    have hlit := World.ownsRow_lit (base := w0.heap.size) (e := 99) (size := 2) w1 #[.int .i64 (n : Nat), .slice no nl nc] 1 HS.out.fx.size (by unfold maxLen; omega) rfl
    obtain ⟨col2, hy, hc2, hn2⟩ := WayV.push (w0 := w0) (w := w1) (col := col1) (wv := .slice none 0 0) (Fs := []) (vs := []) (k := n) (W := w1) (w2 := w1.alloc (.cells #[.int .i64 (n : Nat), .slice no nl nc] 99)) ⟨World.ownsRow_nil _ _ _ _, fun g e => by simp [Value.ownBlock] at e, trivial⟩ HNx.out (Fx.refl _ _) (hA.no) hlit (fun g e => .inr (by rw [show w1.heap.size = g from by simpa [Value.ownBlock] using e]; exact Nat.le_refl _)) (fun x q => (HS.out.new x q).2)
    refine ⟨col2, [.slice no nl nc], ?_⟩
    rw [hnS]
    exact FrSt.first (low1 := low) (nxv := stv1) (col1 := col1) (w1 := w1) HT.out HO.out HP.out HC.out hn HN0.out ((HS.out.no hA).recol (fun x q => hc2 x (HS.out.new x q).2) (fun x q => by rw [hc2 x (HS.out.g.lt x q)]; exact HS.out.old x q) fun x q => by
      by_cases r : x < w1.heap.size
      · rw [hc2 x r] at q
        have := HS.out.new x q
        rw [World.size_alloc]; omega
      · exact hn2 x (by omega) q) hy
  rintro W0 hF0
  have HF0 := Lib.hid hF0
  have HnS : Hid (numS = fun j => if j = n then seen + 1 else num j) := Lib.hid hnS
  clear hF0 hnS HS HNx
  go_step3
  go_wp2
  go_loopg [4] (2 * unseen N numS + 1) (fun g wv wx => ∃ (Fs : List Fr) (col num1 low1 : Nat → Nat) (seen1 : Nat) (opn1 : Nat → Bool) (stv1 : Value) (P1 : List (List Nat)) (B1 C1 : Nat → Nat) (pv1 : Value) (vs : List Value), g = 2 * unseen N num1 + Fs.length ∧ FrSt w0 k N L D numS wx wv Fs col num1 low1 seen1 opn1 stv1 P1 B1 C1 pv1 vs)
  case atStart =>
    obtain ⟨col2, vs, hF⟩ := HF0.out
    exact ⟨_, _, _, _, _, _, _, _, _, _, _, _, rfl, hF⟩
  case round =>
    obtain ⟨Fs, col2, num2, low2, seen2, opn2, stv2, P2, B2, C2, pv2, vs2, rfl, hF⟩ := hrel
    cases Fs with
    | nil =>
      have HF := Lib.hid hF
      obtain ⟨ao, cap, hwv, _⟩ := SlV.ofOwns hF.y.own
      rw [List.length_nil] at hwv
      subst hwv
      clear hF
      go_wp2
      unfold Exit.noGoto
      go_end0
      have h9 := HF.out
      exact ⟨rfl, col2, num2, low2, seen2, opn2, stv2, P2, B2, C2, pv2, h9.s, h9.t, fun v hv => by
        rw [Bool.eq_false_iff]; intro q
        have := (h9.o v hv).1 q
        simp [stk] at this, h9.p, h9.c, fun v q => h9.m v (by rw [HnS.out]; by_cases e : v = n <;> simp [e, q]), h9.m n (by rw [HnS.out]; simp)⟩
    | cons F Fs =>
      obtain ⟨g, cap, v, vs', rfl, rfl, hg9, hgl, hg0, hcap, t1, t2, t3, t4⟩ := hF.y.top
      obtain ⟨d, hd⟩ : ∃ d, d = Fs.length := ⟨_, rfl⟩
      rw [← hd] at t1 t2 t3 hcap ⊢
      have HF := Lib.hid hF
      have HD := Lib.hid hd
      have hFn : F.n < N := hF.t.lt F.n (by simp [stk])
      obtain ⟨l1, l2, l3, l4⟩ := hF.lens
      have hdN : d ≤ N := by have := frs_len (F :: Fs); simp at this; omega
      clear hF hd t1 t2 t3 t4
      go_wp2
      go_loopg [4] F.nx.length (fun g2 wv2 wx => ∃ (nx : List Nat) (low3 : Nat → Nat) (vs3 : List Value), g2 = nx.length ∧ wv2 = .slice (some ⟨g, 0, none⟩) (d + 1) cap ∧ FrSt w0 k N L D numS wx (.slice (some ⟨g, 0, none⟩) (d + 1) cap) (⟨F.n, nx, F.sg⟩ :: Fs) col2 num2 low3 seen2 opn2 stv2 P2 B2 C2 pv2 vs3)
      case atStart => exact ⟨F.nx, low2, v :: vs', rfl, rfl, by rw [HD.out]; exact HF.out⟩
      case round =>
        obtain ⟨nx, low3, vs3, rfl, rfl, hF3⟩ := hrel
        obtain ⟨g', cap', v3, vs4, e1, rfl, _, _, _, _, t1, t2, t2f, t4⟩ := hF3.y.top
        simp only [Value.slice.injEq, Option.some.injEq, Addr.mk.injEq] at e1
        obtain ⟨⟨rfl, -, -⟩, -, rfl⟩ := e1
        rw [← HD.out] at t1 t2 t2f
        have HF3 := Lib.hid hF3
        cases nx with
        | nil =>
          obtain ⟨no3, nc3, rfl, _⟩ := IntsV.facts t4
          have t2 : wr.cell? ⟨g, d * 2 + 1, none⟩ = some (.slice no3 0 nc3) := t2
          have HT1 := Lib.hid t1
          clear hF3 t4
          by_cases hlt : low3 F.n < num2 F.n
          · cases Fs with
            | nil => exact absurd HF3.out.t.bottom (by show ¬ num2 F.n ≤ low3 F.n; omega)
            | cons F' Fs' =>
              obtain ⟨d', hd'⟩ : ∃ x, x = Fs'.length := ⟨_, rfl⟩
              obtain rfl : d = d' + 1 := by rw [hd']; exact HD.out
              have HD' := Lib.hid hd'
              clear hd'
              go_wp2_with fail
              refine (end_low HF3.out.s hFn hlt).mono ?_
              rintro e w3 ⟨rfl, hf4⟩
              have hF4 := HF3.out.no hf4
              have hy5 : WayV w0 w3 col2 (.slice (some ⟨g, 0, none⟩) (d' + 1) cap) (F' :: Fs') vs4 := by
                have q := hF4.y
                rw [HD'.out] at q ⊢
                exact WayV.pop (Fs := F' :: Fs') q
              obtain ⟨g5, cap5, v5, vs5, e5, rfl, _, _, _, _, s1, _, _, _⟩ := hy5.top
              simp only [Value.slice.injEq, Option.some.injEq, Addr.mk.injEq] at e5
              obtain ⟨⟨rfl, -, -⟩, -, rfl⟩ := e5
              rw [← HD'.out] at s1
              have hn' : F'.n < N := hF4.t.lt F'.n (by simp [stk])
              have c3 := hF4.s.c3
              have gu := hF4.s.low F'.n hn'
              have gn := hF4.s.low F.n hFn
              have g3 : ∀ W, Fx No w3 W → W.cell? ⟨k.sb, 3, none⟩ = some (.slice (some ⟨k.lb, 0, none⟩) N N) := fun W q => q.cell' c3 (fun q => q)
              have g4 : ∀ W, Fx No w3 W → W.cell? ⟨k.lb, F'.n, none⟩ = some (.int .i64 (low3 F'.n : Nat)) := fun W q => q.cell' gu.1 (fun q => q)
              have g5 : ∀ W, Fx No w3 W → W.cell? ⟨k.lb, F.n, none⟩ = some (.int .i64 (low3 F.n : Nat)) := fun W q => q.cell' gn.1 (fun q => q)
              have g6 := gu.2
              have i1 : (0 : Int) ≤ (F'.n : Int) := by omega
              have i2 : (F'.n : Int) < (N : Int) := by omega
              have i3 : (0 : Int) ≤ (F.n : Int) := by omega
              have i4 : (F.n : Int) < (N : Int) := by omega
              have HF4 := Lib.hid hF4
              have HY5 := Lib.hid hy5
              clear hF4 hy5 c3 gu gn
              go_wp2_with fail
              refine wp_region_T 21 (fun b W => b = false → Fx No w3 W) (by kernel_rfl) (fun _ => (Fx.refl _ _).drew) ?_
              intro _ hC
              have hS : Fx No w3 w3.drew := (Fx.refl _ _).drew
              refine wpT_take (i := 0) (v := ?_) rfl (by kernel_rfl) (by kernel_rfl) (by kernel_rfl) (by kernel_rfl) (fun _ _ _ h => h) (by decide) (Or.inl ⟨by rfl, ?_⟩) hC (fun _ => hS) ?_
              rotate_left
              · (intro W hc; have hs := hc rfl; clear hc; go_simp; first | done | with_reducible rfl)
              clear hC
              intro _ hC
              try simp only [Act.put, List.getElem_toArray, List.getElem_cons_zero, List.getElem_cons_succ, List.setIfInBounds_toArray, List.set_cons_zero, List.set_cons_succ]
              refine wpT_take (i := 1) (v := ?_) rfl (by kernel_rfl) (by kernel_rfl) (by kernel_rfl) (by kernel_rfl) (fun _ _ _ h => h) (by decide) (Or.inl ⟨by rfl, ?_⟩) hC (fun _ => hS) ?_
              rotate_left
              · (intro W hc; have hs := hc rfl; clear hc; go_simp; first | done | with_reducible rfl)
              clear hC
              intro _ hC
              try simp only [Act.put, List.getElem_toArray, List.getElem_cons_zero, List.getElem_cons_succ, List.setIfInBounds_toArray, List.set_cons_zero, List.set_cons_succ]
              refine wpT_take (i := 2) (v := ?_) rfl (by kernel_rfl) (by kernel_rfl) (by kernel_rfl) (by kernel_rfl) (fun _ _ _ h => h) (by decide) (Or.inl ⟨by rfl, ?_⟩) hC (fun _ => hS) ?_
              rotate_left
              · (intro W hc; have hs := hc rfl; clear hc; go_simp; first | done | with_reducible rfl)
              clear hC
              intro _ hC
              try simp only [Act.put, List.getElem_toArray, List.getElem_cons_zero, List.getElem_cons_succ, List.setIfInBounds_toArray, List.set_cons_zero, List.set_cons_succ]
              refine wpT_take (i := 3) (v := ?_) rfl (by kernel_rfl) (by kernel_rfl) (by kernel_rfl) (by kernel_rfl) (fun _ _ _ h => h) (by decide) (Or.inl ⟨by rfl, ?_⟩) hC (fun _ => hS) ?_
              rotate_left
              · (intro W hc; have hs := hc rfl; clear hc; go_simp; first | done | with_reducible rfl)
              clear hC
              intro _ hC
              try simp only [Act.put, List.getElem_toArray, List.getElem_cons_zero, List.getElem_cons_succ, List.setIfInBounds_toArray, List.set_cons_zero, List.set_cons_succ]
              refine wpT_take (i := 4) (v := ?_) rfl (by kernel_rfl) (by kernel_rfl) (by kernel_rfl) (by kernel_rfl) (fun _ _ _ h => h) (by decide) (Or.inl ⟨by rfl, ?_⟩) hC (fun _ => hS) ?_
              rotate_left
              · (intro W hc; have hs := hc rfl; clear hc; go_simp; first | done | with_reducible rfl)
              clear hC
              intro _ hC
              try simp only [Act.put, List.getElem_toArray, List.getElem_cons_zero, List.getElem_cons_succ, List.setIfInBounds_toArray, List.set_cons_zero, List.set_cons_succ]
              refine wpT_take (i := 5) (v := ?_) rfl (by kernel_rfl) (by kernel_rfl) (by kernel_rfl) (by kernel_rfl) (fun _ _ _ h => h) (by decide) (Or.inl ⟨by rfl, ?_⟩) hC (fun _ => hS) ?_
              rotate_left
              · (intro W hc; have hs := hc rfl; clear hc; go_simp; first | done | with_reducible rfl)
              clear hC
              intro _ hC
              try simp only [Act.put, List.getElem_toArray, List.getElem_cons_zero, List.getElem_cons_succ, List.setIfInBounds_toArray, List.set_cons_zero, List.set_cons_succ]
              refine wpT_take (i := 6) (v := ?_) rfl (by kernel_rfl) (by kernel_rfl) (by kernel_rfl) (by kernel_rfl) (fun _ _ _ h => h) (by decide) (Or.inl ⟨by rfl, ?_⟩) hC (fun _ => hS) ?_
              rotate_left
              · (intro W hc; have hs := hc rfl; clear hc; go_simp; first | done | with_reducible rfl)
              clear hC
              intro _ hC
              try simp only [Act.put, List.getElem_toArray, List.getElem_cons_zero, List.getElem_cons_succ, List.setIfInBounds_toArray, List.set_cons_zero, List.set_cons_succ]
              refine wpT_take (i := 7) (v := ?_) rfl (by kernel_rfl) (by kernel_rfl) (by kernel_rfl) (by kernel_rfl) (fun _ _ _ h => h) (by decide) (Or.inl ⟨by rfl, ?_⟩) hC (fun _ => hS) ?_
              rotate_left
              · (intro W hc; have hs := hc rfl; clear hc; go_simp; first | done | with_reducible rfl)
              clear hC
              intro _ hC
              try simp only [Act.put, List.getElem_toArray, List.getElem_cons_zero, List.getElem_cons_succ, List.setIfInBounds_toArray, List.set_cons_zero, List.set_cons_succ]
              refine wpT_take (i := 8) (v := ?_) rfl (by kernel_rfl) (by kernel_rfl) (by kernel_rfl) (by kernel_rfl) (fun _ _ _ h => h) (by decide) (Or.inl ⟨by rfl, ?_⟩) hC (fun _ => hS) ?_
              rotate_left
              · (intro W hc; have hs := hc rfl; clear hc; go_simp; first | done | with_reducible rfl)
              clear hC
              intro _ hC
              try simp only [Act.put, List.getElem_toArray, List.getElem_cons_zero, List.getElem_cons_succ, List.setIfInBounds_toArray, List.set_cons_zero, List.set_cons_succ]
              refine wpT_take (i := 9) (v := ?_) rfl (by kernel_rfl) (by kernel_rfl) (by kernel_rfl) (by kernel_rfl) (fun _ _ _ h => h) (by decide) (Or.inl ⟨by rfl, ?_⟩) hC (fun _ => hS) ?_
              rotate_left
              · (intro W hc; have hs := hc rfl; clear hc; go_simp; first | done | with_reducible rfl)
              clear hC
              intro _ hC
              try simp only [Act.put, List.getElem_toArray, List.getElem_cons_zero, List.getElem_cons_succ, List.setIfInBounds_toArray, List.set_cons_zero, List.set_cons_succ]
              refine wpT_take (i := 10) (v := ?_) rfl (by kernel_rfl) (by kernel_rfl) (by kernel_rfl) (by kernel_rfl) (fun _ _ _ h => h) (by decide) (Or.inl ⟨by rfl, ?_⟩) hC (fun _ => hS) ?_
              rotate_left
              · (intro W hc; have hs := hc rfl; clear hc; go_simp; first | done | with_reducible rfl)
              clear hC
              intro _ hC
              try simp only [Act.put, List.getElem_toArray, List.getElem_cons_zero, List.getElem_cons_succ, List.setIfInBounds_toArray, List.set_cons_zero, List.set_cons_succ]
              refine wpT_take (i := 11) (v := ?_) rfl (by kernel_rfl) (by kernel_rfl) (by kernel_rfl) (by kernel_rfl) (fun _ _ _ h => h) (by decide) (Or.inl ⟨by rfl, ?_⟩) hC (fun _ => hS) ?_
              rotate_left
              · (intro W hc; have hs := hc rfl; clear hc; go_simp; first | done | with_reducible rfl)
              clear hC
              intro _ hC
              try simp only [Act.put, List.getElem_toArray, List.getElem_cons_zero, List.getElem_cons_succ, List.setIfInBounds_toArray, List.set_cons_zero, List.set_cons_succ]
              refine wpT_take (i := 12) (v := ?_) rfl (by kernel_rfl) (by kernel_rfl) (by kernel_rfl) (by kernel_rfl) (fun _ _ _ h => h) (by decide) (Or.inl ⟨by rfl, ?_⟩) hC (fun _ => hS) ?_
              rotate_left
              · (intro W hc; have hs := hc rfl; clear hc; go_simp; first | done | with_reducible rfl)
              clear hC
              intro _ hC
              try simp only [Act.put, List.getElem_toArray, List.getElem_cons_zero, List.getElem_cons_succ, List.setIfInBounds_toArray, List.set_cons_zero, List.set_cons_succ]
              refine wpT_take (i := 13) (v := ?_) rfl (by kernel_rfl) (by kernel_rfl) (by kernel_rfl) (by kernel_rfl) (fun _ _ _ h => h) (by decide) (Or.inl ⟨by rfl, ?_⟩) hC (fun _ => hS) ?_
              rotate_left
              · (intro W hc; have hs := hc rfl; clear hc; go_simp; first | done | with_reducible rfl)
              clear hC
              intro _ hC
              try simp only [Act.put, List.getElem_toArray, List.getElem_cons_zero, List.getElem_cons_succ, List.setIfInBounds_toArray, List.set_cons_zero, List.set_cons_succ]
              refine wpT_take (i := 14) (v := ?_) rfl (by kernel_rfl) (by kernel_rfl) (by kernel_rfl) (by kernel_rfl) (fun _ _ _ h => h) (by decide) (Or.inl ⟨by rfl, ?_⟩) hC (fun _ => hS) ?_
              rotate_left
              · (intro W hc; have hs := hc rfl; clear hc; go_simp; first | done | with_reducible rfl)
              clear hC
              intro _ hC
              try simp only [Act.put, List.getElem_toArray, List.getElem_cons_zero, List.getElem_cons_succ, List.setIfInBounds_toArray, List.set_cons_zero, List.set_cons_succ]
              refine wpT_take (i := 15) (v := ?_) rfl (by kernel_rfl) (by kernel_rfl) (by kernel_rfl) (by kernel_rfl) (fun _ _ _ h => h) (by decide) (Or.inl ⟨by rfl, ?_⟩) hC (fun _ => hS) ?_
              rotate_left
              · (intro W hc; have hs := hc rfl; clear hc; go_simp; first | done | with_reducible rfl)
              clear hC
              intro _ hC
              try simp only [Act.put, List.getElem_toArray, List.getElem_cons_zero, List.getElem_cons_succ, List.setIfInBounds_toArray, List.set_cons_zero, List.set_cons_succ]
              refine wpT_take (i := 16) (v := ?_) rfl (by kernel_rfl) (by kernel_rfl) (by kernel_rfl) (by kernel_rfl) (fun _ _ _ h => h) (by decide) (Or.inl ⟨by rfl, ?_⟩) hC (fun _ => hS) ?_
              rotate_left
              · (intro W hc; have hs := hc rfl; clear hc; go_simp; first | done | with_reducible rfl)
              clear hC
              intro _ hC
              try simp only [Act.put, List.getElem_toArray, List.getElem_cons_zero, List.getElem_cons_succ, List.setIfInBounds_toArray, List.set_cons_zero, List.set_cons_succ]
              refine wpT_take (i := 17) (v := ?_) rfl (by kernel_rfl) (by kernel_rfl) (by kernel_rfl) (by kernel_rfl) (fun _ _ _ h => h) (by decide) (Or.inl ⟨by rfl, ?_⟩) hC (fun _ => hS) ?_
              rotate_left
              · (intro W hc; have hs := hc rfl; clear hc; go_simp; first | done | with_reducible rfl)
              clear hC
              intro _ hC
              try simp only [Act.put, List.getElem_toArray, List.getElem_cons_zero, List.getElem_cons_succ, List.setIfInBounds_toArray, List.set_cons_zero, List.set_cons_succ]
              refine wpT_take (i := 18) (v := ?_) rfl (by kernel_rfl) (by kernel_rfl) (by kernel_rfl) (by kernel_rfl) (fun _ _ _ h => h) (by decide) (Or.inl ⟨by rfl, ?_⟩) hC (fun _ => hS) ?_
              rotate_left
              · (intro W hc; have hs := hc rfl; clear hc; go_simp; first | done | with_reducible rfl)
              clear hC
              intro _ hC
              try simp only [Act.put, List.getElem_toArray, List.getElem_cons_zero, List.getElem_cons_succ, List.setIfInBounds_toArray, List.set_cons_zero, List.set_cons_succ]
              refine wpT_one (i := 19) (by kernel_rfl) rfl hC (fun K hK => ?_)
              go_simp
              have hS2 := hS
              refine hK.out _ _ (fun _ => hS2) (fun _ hC' => ?_)
              clear hK K hS hC 
              have hS := hS2
              have hC := hC'
              clear hS2 hC'
              try simp only [Act.put, List.getElem_toArray, List.getElem_cons_zero, List.getElem_cons_succ, List.setIfInBounds_toArray, List.set_cons_zero, List.set_cons_succ]
              refine wpT_take (i := 20) (v := ?_) rfl (by kernel_rfl) (by kernel_rfl) (by kernel_rfl) (by kernel_rfl) (fun _ _ _ h => h) (by decide) (Or.inl ⟨by rfl, ?_⟩) hC (fun _ => hS) ?_
              rotate_left
              · (intro W hc; have hs := hc rfl; clear hc; go_simp; first | done | with_reducible rfl)
              clear hC
              intro _ hC
              try simp only [Act.put, List.getElem_toArray, List.getElem_cons_zero, List.getElem_cons_succ, List.setIfInBounds_toArray, List.set_cons_zero, List.set_cons_succ]
              refine wpT_one (i := 21) (by kernel_rfl) rfl hC (fun K hK => ?_)
              go_simp
              refine hK.out _ _ (fun h => absurd h (by decide +kernel)) (fun _ hC' => ?_)
              clear hK K hC
              have hC := hC'
              clear hC'
              try simp only [Act.put, List.getElem_toArray, List.getElem_cons_zero, List.getElem_cons_succ, List.setIfInBounds_toArray, List.set_cons_zero, List.set_cons_succ]
              refine wpG_done (by kernel_rfl) ?_ _
              have hp : Fx (fun x => x = k.lb) w3.drew (w3.drew.setCell ⟨k.lb, F'.n, none⟩ (.int .i64 ((min (low3 F'.n) (low3 F.n) : Nat) : Int))) := Fx.put _ _ _ _
              have h5 := HF4.out.no ((Fx.refl No w3).drew)
              refine q_hold (fun W => FrSt w0 k N L D numS W (.slice (some ⟨g, 0, none⟩) (d' + 1) cap) (⟨F'.n, F'.nx, F'.sg ++ F.n :: F.sg⟩ :: Fs') col2 num2 (fun v => if v = F'.n then min (low3 F'.n) (low3 F.n) else low3 v) seen2 opn2 stv2 P2 B2 C2 pv2 (v5 :: vs5)) (h5.join rfl hlt (h5.s.putLow hn' _) ((HY5.out.no ((Fx.refl No w3).drew)).keep hp fun x e _ => by have e : x = k.lb := e; have := h5.s.k3; rw [← e] at this; omega)) ?_
              rintro W9 hW9
              have HW9 := Lib.hid hW9
              clear hp h5 hW9
              go_wp2
              go_roundg (2 * unseen N num2 + (Fs'.length + 1))
              case measure => (try simp only [List.length_cons]); omega
              case rel => exact ⟨_, _, _, _, _, _, _, _, _, _, _, _, rfl, HW9.out⟩
          · have hge : num2 F.n ≤ low3 F.n := by omega
            have hnd := (stk_len HF3.out.t).1
            have hsl := HF3.out.lens
            have hstk : stk (⟨F.n, [], F.sg⟩ :: Fs) = stk Fs ++ F.n :: F.sg := rfl
            rw [hstk] at hnd hsl
            go_wp2_with fail
            refine (end_part (A := stk Fs) (p := F.n :: F.sg) HF3.out.s hFn hge rfl (fun q => (List.nodup_append.1 hnd).2.2 F.n q F.n (by simp) rfl) (fun v hv => HF3.out.t.lt v (by rw [hstk]; exact List.mem_append.2 (.inr hv))) (by omega) (by omega)).mono ?_
            rintro e w3 ⟨col5, B5, C5, stv5, pv5, rfl, hs5, hcl5, hfx5⟩
            have hy5 : WayV w0 w3 col5 (.slice (some ⟨g, 0, none⟩) d cap) Fs vs4 := by
              have q := HF3.out.y
              rw [HD.out] at q ⊢
              exact (q.pop.recol hcl5).keep hfx5 fun x e hl => by rw [hcl5 x hl]; omega
            have hF4 := HF3.out.part rfl hge hs5 hy5
            clear hs5 hcl5 hfx5 hnd hsl hstk
            cases Fs with
            | nil =>
              obtain rfl : d = 0 := HD.out
              have HF4 := Lib.hid hF4
              clear hF4 hy5
              go_wp2
              go_roundg (2 * unseen N num2 + 0)
              case measure => (try simp only [List.length_cons]); omega
              case rel => exact ⟨[], _, _, _, _, _, _, _, _, _, _, _, rfl, HF4.out⟩
            | cons F' Fs' =>
              obtain ⟨d', hd'⟩ : ∃ x, x = Fs'.length := ⟨_, rfl⟩
              obtain rfl : d = d' + 1 := by rw [hd']; exact HD.out
              have HD' := Lib.hid hd'
              clear hd'
              obtain ⟨g5, cap5, v5, vs5, e5, rfl, _, _, _, _, s1, _, _, _⟩ := hy5.top
              simp only [Value.slice.injEq, Option.some.injEq, Addr.mk.injEq] at e5
              obtain ⟨⟨rfl, -, -⟩, -, rfl⟩ := e5
              rw [← HD'.out] at s1
              have hn' : F'.n < N := hF4.t.lt F'.n (by simp [stk])
              have hlow : (fun v => if v = F'.n then min (low3 F'.n) (low3 F.n) else low3 v) = low3 := by
                have q1 : low3 F'.n ≤ num2 F'.n := HF3.out.t.good.2.1.lo
                have q2 : num2 F'.n < num2 F.n := (List.pairwise_append.1 HF3.out.t.asc).2.2 F'.n (by simp [stk]) F.n (by simp)
                funext v
                by_cases e : v = F'.n
                · rw [if_pos e, e]; omega
                · rw [if_neg e]
              have HLow := Lib.hid hlow
              clear hlow
              have c3 := hF4.s.c3
              have gu := hF4.s.low F'.n hn'
              have gn := hF4.s.low F.n hFn
              have g3 : ∀ W, Fx No w3 W → W.cell? ⟨k.sb, 3, none⟩ = some (.slice (some ⟨k.lb, 0, none⟩) N N) := fun W q => q.cell' c3 (fun q => q)
              have g4 : ∀ W, Fx No w3 W → W.cell? ⟨k.lb, F'.n, none⟩ = some (.int .i64 (low3 F'.n : Nat)) := fun W q => q.cell' gu.1 (fun q => q)
              have g5 : ∀ W, Fx No w3 W → W.cell? ⟨k.lb, F.n, none⟩ = some (.int .i64 (low3 F.n : Nat)) := fun W q => q.cell' gn.1 (fun q => q)
              have g6 := gu.2
              have i1 : (0 : Int) ≤ (F'.n : Int) := by omega
              have i2 : (F'.n : Int) < (N : Int) := by omega
              have i3 : (0 : Int) ≤ (F.n : Int) := by omega
              have i4 : (F.n : Int) < (N : Int) := by omega
              have HF4 := Lib.hid hF4
              have HY5 := Lib.hid hy5
              clear hF4 hy5 c3 gu gn
              go_wp2_with fail
              refine wp_region_T 21 (fun b W => b = false → Fx No w3 W) (by kernel_rfl) (fun _ => (Fx.refl _ _).drew) ?_
              intro _ hC
              have hS : Fx No w3 w3.drew := (Fx.refl _ _).drew
              refine wpT_take (i := 0) (v := ?_) rfl (by kernel_rfl) (by kernel_rfl) (by kernel_rfl) (by kernel_rfl) (fun _ _ _ h => h) (by decide) (Or.inl ⟨by rfl, ?_⟩) hC (fun _ => hS) ?_
              rotate_left
              · (intro W hc; have hs := hc rfl; clear hc; go_simp; first | done | with_reducible rfl)
              clear hC
              intro _ hC
              try simp only [Act.put, List.getElem_toArray, List.getElem_cons_zero, List.getElem_cons_succ, List.setIfInBounds_toArray, List.set_cons_zero, List.set_cons_succ]
              refine wpT_take (i := 1) (v := ?_) rfl (by kernel_rfl) (by kernel_rfl) (by kernel_rfl) (by kernel_rfl) (fun _ _ _ h => h) (by decide) (Or.inl ⟨by rfl, ?_⟩) hC (fun _ => hS) ?_
              rotate_left
              · (intro W hc; have hs := hc rfl; clear hc; go_simp; first | done | with_reducible rfl)
              clear hC
              intro _ hC
              try simp only [Act.put, List.getElem_toArray, List.getElem_cons_zero, List.getElem_cons_succ, List.setIfInBounds_toArray, List.set_cons_zero, List.set_cons_succ]
              refine wpT_take (i := 2) (v := ?_) rfl (by kernel_rfl) (by kernel_rfl) (by kernel_rfl) (by kernel_rfl) (fun _ _ _ h => h) (by decide) (Or.inl ⟨by rfl, ?_⟩) hC (fun _ => hS) ?_
              rotate_left
              · (intro W hc; have hs := hc rfl; clear hc; go_simp; first | done | with_reducible rfl)
              clear hC
              intro _ hC
              try simp only [Act.put, List.getElem_toArray, List.getElem_cons_zero, List.getElem_cons_succ, List.setIfInBounds_toArray, List.set_cons_zero, List.set_cons_succ]
              refine wpT_take (i := 3) (v := ?_) rfl (by kernel_rfl) (by kernel_rfl) (by kernel_rfl) (by kernel_rfl) (fun _ _ _ h => h) (by decide) (Or.inl ⟨by rfl, ?_⟩) hC (fun _ => hS) ?_
              rotate_left
              · (intro W hc; have hs := hc rfl; clear hc; go_simp; first | done | with_reducible rfl)
              clear hC
              intro _ hC
              try simp only [Act.put, List.getElem_toArray, List.getElem_cons_zero, List.getElem_cons_succ, List.setIfInBounds_toArray, List.set_cons_zero, List.set_cons_succ]
              refine wpT_take (i := 4) (v := ?_) rfl (by kernel_rfl) (by kernel_rfl) (by kernel_rfl) (by kernel_rfl) (fun _ _ _ h => h) (by decide) (Or.inl ⟨by rfl, ?_⟩) hC (fun _ => hS) ?_
              rotate_left
              · (intro W hc; have hs := hc rfl; clear hc; go_simp; first | done | with_reducible rfl)
              clear hC
              intro _ hC
              try simp only [Act.put, List.getElem_toArray, List.getElem_cons_zero, List.getElem_cons_succ, List.setIfInBounds_toArray, List.set_cons_zero, List.set_cons_succ]
              refine wpT_take (i := 5) (v := ?_) rfl (by kernel_rfl) (by kernel_rfl) (by kernel_rfl) (by kernel_rfl) (fun _ _ _ h => h) (by decide) (Or.inl ⟨by rfl, ?_⟩) hC (fun _ => hS) ?_
              rotate_left
              · (intro W hc; have hs := hc rfl; clear hc; go_simp; first | done | with_reducible rfl)
              clear hC
              intro _ hC
              try simp only [Act.put, List.getElem_toArray, List.getElem_cons_zero, List.getElem_cons_succ, List.setIfInBounds_toArray, List.set_cons_zero, List.set_cons_succ]
              refine wpT_take (i := 6) (v := ?_) rfl (by kernel_rfl) (by kernel_rfl) (by kernel_rfl) (by kernel_rfl) (fun _ _ _ h => h) (by decide) (Or.inl ⟨by rfl, ?_⟩) hC (fun _ => hS) ?_
              rotate_left
              · (intro W hc; have hs := hc rfl; clear hc; go_simp; first | done | with_reducible rfl)
              clear hC
              intro _ hC
              try simp only [Act.put, List.getElem_toArray, List.getElem_cons_zero, List.getElem_cons_succ, List.setIfInBounds_toArray, List.set_cons_zero, List.set_cons_succ]
              refine wpT_take (i := 7) (v := ?_) rfl (by kernel_rfl) (by kernel_rfl) (by kernel_rfl) (by kernel_rfl) (fun _ _ _ h => h) (by decide) (Or.inl ⟨by rfl, ?_⟩) hC (fun _ => hS) ?_
              rotate_left
              · (intro W hc; have hs := hc rfl; clear hc; go_simp; first | done | with_reducible rfl)
              clear hC
              intro _ hC
              try simp only [Act.put, List.getElem_toArray, List.getElem_cons_zero, List.getElem_cons_succ, List.setIfInBounds_toArray, List.set_cons_zero, List.set_cons_succ]
              refine wpT_take (i := 8) (v := ?_) rfl (by kernel_rfl) (by kernel_rfl) (by kernel_rfl) (by kernel_rfl) (fun _ _ _ h => h) (by decide) (Or.inl ⟨by rfl, ?_⟩) hC (fun _ => hS) ?_
              rotate_left
              · (intro W hc; have hs := hc rfl; clear hc; go_simp; first | done | with_reducible rfl)
              clear hC
              intro _ hC
              try simp only [Act.put, List.getElem_toArray, List.getElem_cons_zero, List.getElem_cons_succ, List.setIfInBounds_toArray, List.set_cons_zero, List.set_cons_succ]
              refine wpT_take (i := 9) (v := ?_) rfl (by kernel_rfl) (by kernel_rfl) (by kernel_rfl) (by kernel_rfl) (fun _ _ _ h => h) (by decide) (Or.inl ⟨by rfl, ?_⟩) hC (fun _ => hS) ?_
              rotate_left
              · (intro W hc; have hs := hc rfl; clear hc; go_simp; first | done | with_reducible rfl)
              clear hC
              intro _ hC
              try simp only [Act.put, List.getElem_toArray, List.getElem_cons_zero, List.getElem_cons_succ, List.setIfInBounds_toArray, List.set_cons_zero, List.set_cons_succ]
              refine wpT_take (i := 10) (v := ?_) rfl (by kernel_rfl) (by kernel_rfl) (by kernel_rfl) (by kernel_rfl) (fun _ _ _ h => h) (by decide) (Or.inl ⟨by rfl, ?_⟩) hC (fun _ => hS) ?_
              rotate_left
              · (intro W hc; have hs := hc rfl; clear hc; go_simp; first | done | with_reducible rfl)
              clear hC
              intro _ hC
              try simp only [Act.put, List.getElem_toArray, List.getElem_cons_zero, List.getElem_cons_succ, List.setIfInBounds_toArray, List.set_cons_zero, List.set_cons_succ]
              refine wpT_take (i := 11) (v := ?_) rfl (by kernel_rfl) (by kernel_rfl) (by kernel_rfl) (by kernel_rfl) (fun _ _ _ h => h) (by decide) (Or.inl ⟨by rfl, ?_⟩) hC (fun _ => hS) ?_
              rotate_left
              · (intro W hc; have hs := hc rfl; clear hc; go_simp; first | done | with_reducible rfl)
              clear hC
              intro _ hC
              try simp only [Act.put, List.getElem_toArray, List.getElem_cons_zero, List.getElem_cons_succ, List.setIfInBounds_toArray, List.set_cons_zero, List.set_cons_succ]
              refine wpT_take (i := 12) (v := ?_) rfl (by kernel_rfl) (by kernel_rfl) (by kernel_rfl) (by kernel_rfl) (fun _ _ _ h => h) (by decide) (Or.inl ⟨by rfl, ?_⟩) hC (fun _ => hS) ?_
              rotate_left
              · (intro W hc; have hs := hc rfl; clear hc; go_simp; first | done | with_reducible rfl)
              clear hC
              intro _ hC
              try simp only [Act.put, List.getElem_toArray, List.getElem_cons_zero, List.getElem_cons_succ, List.setIfInBounds_toArray, List.set_cons_zero, List.set_cons_succ]
              refine wpT_take (i := 13) (v := ?_) rfl (by kernel_rfl) (by kernel_rfl) (by kernel_rfl) (by kernel_rfl) (fun _ _ _ h => h) (by decide) (Or.inl ⟨by rfl, ?_⟩) hC (fun _ => hS) ?_
              rotate_left
              · (intro W hc; have hs := hc rfl; clear hc; go_simp; first | done | with_reducible rfl)
              clear hC
              intro _ hC
              try simp only [Act.put, List.getElem_toArray, List.getElem_cons_zero, List.getElem_cons_succ, List.setIfInBounds_toArray, List.set_cons_zero, List.set_cons_succ]
              refine wpT_take (i := 14) (v := ?_) rfl (by kernel_rfl) (by kernel_rfl) (by kernel_rfl) (by kernel_rfl) (fun _ _ _ h => h) (by decide) (Or.inl ⟨by rfl, ?_⟩) hC (fun _ => hS) ?_
              rotate_left
              · (intro W hc; have hs := hc rfl; clear hc; go_simp; first | done | with_reducible rfl)
              clear hC
              intro _ hC
              try simp only [Act.put, List.getElem_toArray, List.getElem_cons_zero, List.getElem_cons_succ, List.setIfInBounds_toArray, List.set_cons_zero, List.set_cons_succ]
              refine wpT_take (i := 15) (v := ?_) rfl (by kernel_rfl) (by kernel_rfl) (by kernel_rfl) (by kernel_rfl) (fun _ _ _ h => h) (by decide) (Or.inl ⟨by rfl, ?_⟩) hC (fun _ => hS) ?_
              rotate_left
              · (intro W hc; have hs := hc rfl; clear hc; go_simp; first | done | with_reducible rfl)
              clear hC
              intro _ hC
              try simp only [Act.put, List.getElem_toArray, List.getElem_cons_zero, List.getElem_cons_succ, List.setIfInBounds_toArray, List.set_cons_zero, List.set_cons_succ]
              refine wpT_take (i := 16) (v := ?_) rfl (by kernel_rfl) (by kernel_rfl) (by kernel_rfl) (by kernel_rfl) (fun _ _ _ h => h) (by decide) (Or.inl ⟨by rfl, ?_⟩) hC (fun _ => hS) ?_
              rotate_left
              · (intro W hc; have hs := hc rfl; clear hc; go_simp; first | done | with_reducible rfl)
              clear hC
              intro _ hC
              try simp only [Act.put, List.getElem_toArray, List.getElem_cons_zero, List.getElem_cons_succ, List.setIfInBounds_toArray, List.set_cons_zero, List.set_cons_succ]
              refine wpT_take (i := 17) (v := ?_) rfl (by kernel_rfl) (by kernel_rfl) (by kernel_rfl) (by kernel_rfl) (fun _ _ _ h => h) (by decide) (Or.inl ⟨by rfl, ?_⟩) hC (fun _ => hS) ?_
              rotate_left
              · (intro W hc; have hs := hc rfl; clear hc; go_simp; first | done | with_reducible rfl)
              clear hC
              intro _ hC
              try simp only [Act.put, List.getElem_toArray, List.getElem_cons_zero, List.getElem_cons_succ, List.setIfInBounds_toArray, List.set_cons_zero, List.set_cons_succ]
              refine wpT_take (i := 18) (v := ?_) rfl (by kernel_rfl) (by kernel_rfl) (by kernel_rfl) (by kernel_rfl) (fun _ _ _ h => h) (by decide) (Or.inl ⟨by rfl, ?_⟩) hC (fun _ => hS) ?_
              rotate_left
              · (intro W hc; have hs := hc rfl; clear hc; go_simp; first | done | with_reducible rfl)
              clear hC
              intro _ hC
              try simp only [Act.put, List.getElem_toArray, List.getElem_cons_zero, List.getElem_cons_succ, List.setIfInBounds_toArray, List.set_cons_zero, List.set_cons_succ]
              refine wpT_one (i := 19) (by kernel_rfl) rfl hC (fun K hK => ?_)
              go_simp
              have hS2 := hS
              refine hK.out _ _ (fun _ => hS2) (fun _ hC' => ?_)
              clear hK K hS hC 
              have hS := hS2
              have hC := hC'
              clear hS2 hC'
              try simp only [Act.put, List.getElem_toArray, List.getElem_cons_zero, List.getElem_cons_succ, List.setIfInBounds_toArray, List.set_cons_zero, List.set_cons_succ]
              refine wpT_take (i := 20) (v := ?_) rfl (by kernel_rfl) (by kernel_rfl) (by kernel_rfl) (by kernel_rfl) (fun _ _ _ h => h) (by decide) (Or.inl ⟨by rfl, ?_⟩) hC (fun _ => hS) ?_
              rotate_left
              · (intro W hc; have hs := hc rfl; clear hc; go_simp; first | done | with_reducible rfl)
              clear hC
              intro _ hC
              try simp only [Act.put, List.getElem_toArray, List.getElem_cons_zero, List.getElem_cons_succ, List.setIfInBounds_toArray, List.set_cons_zero, List.set_cons_succ]
              refine wpT_one (i := 21) (by kernel_rfl) rfl hC (fun K hK => ?_)
              go_simp
              refine hK.out _ _ (fun h => absurd h (by decide +kernel)) (fun _ hC' => ?_)
              clear hK K hC
              have hC := hC'
              clear hC'
              try simp only [Act.put, List.getElem_toArray, List.getElem_cons_zero, List.getElem_cons_succ, List.setIfInBounds_toArray, List.set_cons_zero, List.set_cons_succ]
              refine wpG_done (by kernel_rfl) ?_ _
              have hp : Fx (fun x => x = k.lb) w3.drew (w3.drew.setCell ⟨k.lb, F'.n, none⟩ (.int .i64 ((min (low3 F'.n) (low3 F.n) : Nat) : Int))) := Fx.put _ _ _ _
              have h5 := HF4.out.no ((Fx.refl No w3).drew)
              have hs6 := h5.s.putLow hn' (min (low3 F'.n) (low3 F.n))
              rw [HLow.out] at hs6
              refine q_hold (fun W => FrSt w0 k N L D numS W (.slice (some ⟨g, 0, none⟩) (d' + 1) cap) (F' :: Fs') col5 num2 low3 seen2 (clrN (F.n :: F.sg) (F.n :: F.sg).length opn2) stv5 (P2 ++ [srtN (F.n :: F.sg)]) B5 C5 pv5 (v5 :: vs5)) ⟨hs6, h5.y.keep hp fun x e _ => by have e : x = k.lb := e; have := h5.s.k3; rw [← e] at this; omega, h5.t, h5.o, h5.p, h5.m, h5.c, h5.e⟩ ?_
              rintro W9 hW9
              have HW9 := Lib.hid hW9
              clear hp h5 hW9 hs6
              go_wp2
              go_roundg (2 * unseen N num2 + (Fs'.length + 1))
              case measure => (try simp only [List.length_cons]); omega
              case rel => exact ⟨_, _, _, _, _, _, _, _, _, _, _, _, rfl, HW9.out⟩
        | cons x ks =>
          obtain ⟨no3, nc3, rfl, hl9, hk⟩ := IntsV.facts t4
          obtain ⟨b3, o3, rfl, hc10, _⟩ := hk 0 (by simp [natsI])
          obtain ⟨i1, i2, i3, i4, i5⟩ := ints_tail t4
          obtain ⟨l3, hl3⟩ : ∃ l, l = ks.length := ⟨_, rfl⟩
          rw [i1, ← hl3] at t2
          rw [← hl3] at i2
          have hE := hF3.e ⟨F.n, x :: ks, F.sg⟩ (by simp) x (by simp)
          have hxN := (EG_lt HNd.out hE).2
          have hx0 : (0 : Int) ≤ (x : Int) := by omega
          have hx1 : (x : Int) < (N : Int) := by omega
          have HE := Lib.hid hE
          have HI := Lib.hid (And.intro i4 i5)
          have HL3 := Lib.hid hl3
          have HT1 := Lib.hid t1
          have n0 : b3 ≠ g := fun e => by rw [e] at hc10; have hc10 : col2 g = 10 := hc10; omega
          clear hF3 t4 hk i1 i4 i5 hE hl3 hl9 hc10
          go_upto_region 5 with fail
          go_cut [6] (fun s6 W => s6 = .int .i64 (x : Nat) ∧ ∃ v' : Value, SrV w0 W k col2 N L D num2 low3 seen2 opn2 (stk (⟨F.n, x :: ks, F.sg⟩ :: Fs)) stv2 P2 B2 C2 pv2 ∧ WayV w0 W col2 (.slice (some ⟨g, 0, none⟩) (d + 1) cap) (⟨F.n, ks, F.sg⟩ :: Fs) (v' :: vs4))
          case first =>
            have hput : ∀ v', IntsV wr (fun x => col2 x = 10) v' (natsI ks) → SrV w0 (wr.setCell ⟨g, d * 2 + 1, none⟩ v') k col2 N L D num2 low3 seen2 opn2 (stk (⟨F.n, x :: ks, F.sg⟩ :: Fs)) stv2 P2 B2 C2 pv2 ∧ WayV w0 (wr.setCell ⟨g, d * 2 + 1, none⟩ v') col2 (.slice (some ⟨g, 0, none⟩) (d + 1) cap) (⟨F.n, ks, F.sg⟩ :: Fs) (v' :: vs4) := fun v' hv => by
              have hp : Fx (fun x => x = g) wr (wr.setCell ⟨g, d * 2 + 1, none⟩ v') := Fx.put _ _ _ _
              refine ⟨HF3.out.s.keep hp fun x e _ => by have e : x = g := e; rw [e]; omega, ?_⟩
              have q := HF3.out.y
              rw [HD.out] at q ⊢
              exact WayV.put q hv
            have HPut := Lib.hid hput
            clear hput
            by_cases hnc : nc3 = 1
            · subst hnc
              obtain ⟨hk0, i6⟩ := HI.out.2 rfl
              have i6 := HPut.out _ (by rw [hk0]; exact i6)
              have HI6 := Lib.hid i6
              obtain rfl : l3 = 0 := by rw [HL3.out, hk0]; rfl
              clear i6 hk0
              go_wp2
              go_meet
              exact ⟨rfl, _, HI6.out⟩
            · have hnc2 : ¬ 1 = nc3 := fun e => hnc e.symm
              have HI6 := Lib.hid (HPut.out _ (HI.out.1 hnc))
              rw [← HL3.out] at HI6
              go_wp2
              go_meet
              exact ⟨rfl, _, HI6.out⟩
          case rest =>
            obtain ⟨rfl, v5, hS5, hY5⟩ := hcut
            have c2 := hS5.c2
            have c5 := hS5.c5
            have n5 := (hS5.num x hxN).1
            have o5 := (hS5.opn x hxN).1
            have HS5 := Lib.hid hS5
            have HY5 := Lib.hid hY5
            clear hS5 hY5
            by_cases h0 : num2 x = 0
            · rw [h0] at n5
              have hsl := HF3.out.lens
              go_wp2_with fail
              refine (begin_any HS5.out hxN (by have := hsl.2.1; simp [stk] at this ⊢; omega) (by omega)).mono ?_
              rintro e w6 ⟨nxv, stv6, col6, rfl, hs6, hf6, hcl6, hcn6, hi6⟩
              have hy6 : WayV w0 w6 col6 (.slice (some ⟨g, 0, none⟩) (d + 1) cap) (⟨F.n, ks, F.sg⟩ :: Fs) (v5 :: vs4) := (HY5.out.recol hcl6).keep hf6 fun x e hl => by rw [hcl6 x hl]; omega
              have ho6 := hy6.own
              rw [List.length_cons, ← HD.out] at ho6
              obtain ⟨no, nc, rfl, _⟩ := IntsV.facts hi6
              have HS6 := Lib.hid hs6
              have HY6 := Lib.hid hy6
              have HO6 := Lib.hid ho6
              have HI6 := Lib.hid hi6
              have z6 := hs6.fx.size
              obtain ⟨nl, hnl⟩ : ∃ y, y = (natsI (nxN L N x)).length := ⟨_, rfl⟩
              rw [← hnl]
              have HNl := Lib.hid hnl
              clear hs6 hf6 hcl6 hcn6 hi6 hy6 ho6 hnl hsl
              go_wp2_with (at_builtin; refine wpList_append_kept rfl _ _ 101 rfl w0.heap.size 99 Tryz.underlying101 his hzs hss hbs rfl (by decide) rfl (World.ownsRow.alloc HO6.out _) rfl (SlV.lit _ 99 #[.int .i64 _, .slice _ _ _] 2 1 rfl (by unfold maxLen; omega)) (by intro u hu; simp only [List.mem_cons, List.not_mem_nil, or_false] at hu; rcases hu with rfl | rfl <;> rfl) (by omega) (by unfold maxLen; omega) (by omega) (by simp; omega) ?_)
              intro v7 w7 ho7 hfx7 hk7 hb7
              have ho8 : w7.ownsRow w0.heap.size 99 2 v7 ((⟨F.n, ks, F.sg⟩ :: Fs).length + 1) (wcells (⟨F.n, ks, F.sg⟩ :: Fs) (v5 :: vs4) ++ [.int .i64 (x : Nat), .slice no nl nc]) := by
                rw [List.length_cons, ← HD.out]; exact ho7
              obtain ⟨col7, hy7, hc7, hn7⟩ := WayV.push (nx := nxN L N x) (W := w6.alloc (.cells #[.int .i64 (x : Nat), .slice no nl nc] 99)) HY6.out (by rw [HNl.out]; exact HI6.out) ((Fx.refl No w6).alloc _) hfx7 ho8 (fun g e => by have := hb7 g e; rw [World.size_alloc]; exact this) (fun x q => (HS6.out.new x q).2)
              have hs7 := ((HS6.out.no ((Fx.refl No w6).alloc (.cells #[.int .i64 (x : Nat), .slice no nl nc] 99))).keep hfx7 fun y e hl => by have := HY6.out.col9 y e; omega)
              have hs8 := hs7.recol (col' := col7) (fun y q => hc7 y (by have := (HS6.out.new y q).2; rw [World.size_alloc]; omega)) (fun y q => by rw [hc7 y (by have := HS6.out.g.lt y q; rw [World.size_alloc]; omega)]; exact HS6.out.old y q) fun y q => by
                by_cases r : y < (w6.alloc (.cells #[.int .i64 (x : Nat), .slice no nl nc] 99)).heap.size
                · rw [hc7 y r] at q; exact hs7.new y q
                · exact hn7 y (by omega) q
              obtain ⟨hF8, hu⟩ := HF3.out.push rfl HE.out hxN h0 hs8 hy7
              have HF8 := Lib.hid hF8
              clear ho7 hfx7 hk7 hb7 ho8 hy7 hc7 hn7 hs7 hs8 hF8
              go_wp2
              go_roundg (2 * unseen N (fun j => if j = x then seen2 + 1 else num2 j) + (Fs.length + 2))
              case measure => (try simp only [List.length_cons]); omega
              case rel => exact ⟨_, _, _, _, _, _, _, _, _, _, _, _, rfl, HF8.out⟩
            · obtain ⟨nx, hnx⟩ : ∃ y, y = num2 x := ⟨_, rfl⟩
              rw [← hnx] at n5 h0
              have h02 : ¬ ((nx : Int) = 0) := by omega
              have HNx := Lib.hid hnx
              clear hnx
              by_cases ho : opn2 x = true
              · rw [ho] at o5
                obtain ⟨g5, cap5, v6, vs6, e5, e6, _, _, _, _, s1, _, _, _⟩ := HY5.out.top
                simp only [Value.slice.injEq, Option.some.injEq, Addr.mk.injEq] at e5
                obtain ⟨⟨rfl, -, -⟩, -, rfl⟩ := e5
                rw [← HD.out] at s1
                have q3 := HS5.out.c3
                have q4 := HS5.out.low F.n hFn
                have g3 : ∀ W, Fx No wc W → W.cell? ⟨k.sb, 3, none⟩ = some (.slice (some ⟨k.lb, 0, none⟩) N N) := fun W q => q.cell' q3 (fun q => q)
                have g2 : ∀ W, Fx No wc W → W.cell? ⟨k.sb, 2, none⟩ = some (.slice (some ⟨k.nb, 0, none⟩) N N) := fun W q => q.cell' c2 (fun q => q)
                have g4 : ∀ W, Fx No wc W → W.cell? ⟨k.nb, x, none⟩ = some (.int .i64 (nx : Nat)) := fun W q => q.cell' n5 (fun q => q)
                have g5 : ∀ W, Fx No wc W → W.cell? ⟨k.lb, F.n, none⟩ = some (.int .i64 (low3 F.n : Nat)) := fun W q => q.cell' q4.1 (fun q => q)
                have g7 : ∀ W, Fx No wc W → W.cell? ⟨g, d * 2, none⟩ = some (.int .i64 (F.n : Nat)) := fun W q => q.cell' s1 (fun q => q)
                have g6 := q4.2
                have i1 : (0 : Int) ≤ (F.n : Int) := by omega
                have i2 : (F.n : Int) < (N : Int) := by omega
                clear q3 q4 s1 e6
                go_wp2_with fail
                refine wp_region_T 27 (fun b W => b = false → Fx No wc W) (by kernel_rfl) (fun _ => (Fx.refl _ _).drew) ?_
                intro _ hC
                have hS : Fx No wc wc.drew := (Fx.refl _ _).drew
                refine wpT_take (i := 0) (v := ?_) rfl (by kernel_rfl) (by kernel_rfl) (by kernel_rfl) (by kernel_rfl) (fun _ _ _ h => h) (by decide) (Or.inl ⟨by rfl, ?_⟩) hC (fun _ => hS) ?_
                rotate_left
                · (intro W hc; have hs := hc rfl; clear hc; go_simp; first | done | with_reducible rfl)
                clear hC
                intro _ hC
                try simp only [Act.put, List.getElem_toArray, List.getElem_cons_zero, List.getElem_cons_succ, List.setIfInBounds_toArray, List.set_cons_zero, List.set_cons_succ]
                refine wpT_take (i := 1) (v := ?_) rfl (by kernel_rfl) (by kernel_rfl) (by kernel_rfl) (by kernel_rfl) (fun _ _ _ h => h) (by decide) (Or.inl ⟨by rfl, ?_⟩) hC (fun _ => hS) ?_
                rotate_left
                · (intro W hc; have hs := hc rfl; clear hc; go_simp; first | done | with_reducible rfl)
                clear hC
                intro _ hC
                try simp only [Act.put, List.getElem_toArray, List.getElem_cons_zero, List.getElem_cons_succ, List.setIfInBounds_toArray, List.set_cons_zero, List.set_cons_succ]
                refine wpT_take (i := 2) (v := ?_) rfl (by kernel_rfl) (by kernel_rfl) (by kernel_rfl) (by kernel_rfl) (fun _ _ _ h => h) (by decide) (Or.inl ⟨by rfl, ?_⟩) hC (fun _ => hS) ?_
                rotate_left
                · (intro W hc; have hs := hc rfl; clear hc; go_simp; first | done | with_reducible rfl)
                clear hC
                intro _ hC
                try simp only [Act.put, List.getElem_toArray, List.getElem_cons_zero, List.getElem_cons_succ, List.setIfInBounds_toArray, List.set_cons_zero, List.set_cons_succ]
                refine wpT_take (i := 3) (v := ?_) rfl (by kernel_rfl) (by kernel_rfl) (by kernel_rfl) (by kernel_rfl) (fun _ _ _ h => h) (by decide) (Or.inl ⟨by rfl, ?_⟩) hC (fun _ => hS) ?_
                rotate_left
                · (intro W hc; have hs := hc rfl; clear hc; go_simp; first | done | with_reducible rfl)
                clear hC
                intro _ hC
                try simp only [Act.put, List.getElem_toArray, List.getElem_cons_zero, List.getElem_cons_succ, List.setIfInBounds_toArray, List.set_cons_zero, List.set_cons_succ]
                refine wpT_take (i := 4) (v := ?_) rfl (by kernel_rfl) (by kernel_rfl) (by kernel_rfl) (by kernel_rfl) (fun _ _ _ h => h) (by decide) (Or.inl ⟨by rfl, ?_⟩) hC (fun _ => hS) ?_
                rotate_left
                · (intro W hc; have hs := hc rfl; clear hc; go_simp; first | done | with_reducible rfl)
                clear hC
                intro _ hC
                try simp only [Act.put, List.getElem_toArray, List.getElem_cons_zero, List.getElem_cons_succ, List.setIfInBounds_toArray, List.set_cons_zero, List.set_cons_succ]
                refine wpT_take (i := 5) (v := ?_) rfl (by kernel_rfl) (by kernel_rfl) (by kernel_rfl) (by kernel_rfl) (fun _ _ _ h => h) (by decide) (Or.inl ⟨by rfl, ?_⟩) hC (fun _ => hS) ?_
                rotate_left
                · (intro W hc; have hs := hc rfl; clear hc; go_simp; first | done | with_reducible rfl)
                clear hC
                intro _ hC
                try simp only [Act.put, List.getElem_toArray, List.getElem_cons_zero, List.getElem_cons_succ, List.setIfInBounds_toArray, List.set_cons_zero, List.set_cons_succ]
                refine wpT_take (i := 6) (v := ?_) rfl (by kernel_rfl) (by kernel_rfl) (by kernel_rfl) (by kernel_rfl) (fun _ _ _ h => h) (by decide) (Or.inl ⟨by rfl, ?_⟩) hC (fun _ => hS) ?_
                rotate_left
                · (intro W hc; have hs := hc rfl; clear hc; go_simp; first | done | with_reducible rfl)
                clear hC
                intro _ hC
                try simp only [Act.put, List.getElem_toArray, List.getElem_cons_zero, List.getElem_cons_succ, List.setIfInBounds_toArray, List.set_cons_zero, List.set_cons_succ]
                refine wpT_take (i := 7) (v := ?_) rfl (by kernel_rfl) (by kernel_rfl) (by kernel_rfl) (by kernel_rfl) (fun _ _ _ h => h) (by decide) (Or.inl ⟨by rfl, ?_⟩) hC (fun _ => hS) ?_
                rotate_left
                · (intro W hc; have hs := hc rfl; clear hc; go_simp; first | done | with_reducible rfl)
                clear hC
                intro _ hC
                try simp only [Act.put, List.getElem_toArray, List.getElem_cons_zero, List.getElem_cons_succ, List.setIfInBounds_toArray, List.set_cons_zero, List.set_cons_succ]
                refine wpT_take (i := 8) (v := ?_) rfl (by kernel_rfl) (by kernel_rfl) (by kernel_rfl) (by kernel_rfl) (fun _ _ _ h => h) (by decide) (Or.inl ⟨by rfl, ?_⟩) hC (fun _ => hS) ?_
                rotate_left
                · (intro W hc; have hs := hc rfl; clear hc; go_simp; first | done | with_reducible rfl)
                clear hC
                intro _ hC
                try simp only [Act.put, List.getElem_toArray, List.getElem_cons_zero, List.getElem_cons_succ, List.setIfInBounds_toArray, List.set_cons_zero, List.set_cons_succ]
                refine wpT_take (i := 9) (v := ?_) rfl (by kernel_rfl) (by kernel_rfl) (by kernel_rfl) (by kernel_rfl) (fun _ _ _ h => h) (by decide) (Or.inl ⟨by rfl, ?_⟩) hC (fun _ => hS) ?_
                rotate_left
                · (intro W hc; have hs := hc rfl; clear hc; go_simp; first | done | with_reducible rfl)
                clear hC
                intro _ hC
                try simp only [Act.put, List.getElem_toArray, List.getElem_cons_zero, List.getElem_cons_succ, List.setIfInBounds_toArray, List.set_cons_zero, List.set_cons_succ]
                refine wpT_take (i := 10) (v := ?_) rfl (by kernel_rfl) (by kernel_rfl) (by kernel_rfl) (by kernel_rfl) (fun _ _ _ h => h) (by decide) (Or.inl ⟨by rfl, ?_⟩) hC (fun _ => hS) ?_
                rotate_left
                · (intro W hc; have hs := hc rfl; clear hc; go_simp; first | done | with_reducible rfl)
                clear hC
                intro _ hC
                try simp only [Act.put, List.getElem_toArray, List.getElem_cons_zero, List.getElem_cons_succ, List.setIfInBounds_toArray, List.set_cons_zero, List.set_cons_succ]
                refine wpT_take (i := 11) (v := ?_) rfl (by kernel_rfl) (by kernel_rfl) (by kernel_rfl) (by kernel_rfl) (fun _ _ _ h => h) (by decide) (Or.inl ⟨by rfl, ?_⟩) hC (fun _ => hS) ?_
                rotate_left
                · (intro W hc; have hs := hc rfl; clear hc; go_simp; first | done | with_reducible rfl)
                clear hC
                intro _ hC
                try simp only [Act.put, List.getElem_toArray, List.getElem_cons_zero, List.getElem_cons_succ, List.setIfInBounds_toArray, List.set_cons_zero, List.set_cons_succ]
                refine wpT_take (i := 12) (v := ?_) rfl (by kernel_rfl) (by kernel_rfl) (by kernel_rfl) (by kernel_rfl) (fun _ _ _ h => h) (by decide) (Or.inl ⟨by rfl, ?_⟩) hC (fun _ => hS) ?_
                rotate_left
                · (intro W hc; have hs := hc rfl; clear hc; go_simp; first | done | with_reducible rfl)
                clear hC
                intro _ hC
                try simp only [Act.put, List.getElem_toArray, List.getElem_cons_zero, List.getElem_cons_succ, List.setIfInBounds_toArray, List.set_cons_zero, List.set_cons_succ]
                refine wpT_take (i := 13) (v := ?_) rfl (by kernel_rfl) (by kernel_rfl) (by kernel_rfl) (by kernel_rfl) (fun _ _ _ h => h) (by decide) (Or.inl ⟨by rfl, ?_⟩) hC (fun _ => hS) ?_
                rotate_left
                · (intro W hc; have hs := hc rfl; clear hc; go_simp; first | done | with_reducible rfl)
                clear hC
                intro _ hC
                try simp only [Act.put, List.getElem_toArray, List.getElem_cons_zero, List.getElem_cons_succ, List.setIfInBounds_toArray, List.set_cons_zero, List.set_cons_succ]
                refine wpT_take (i := 14) (v := ?_) rfl (by kernel_rfl) (by kernel_rfl) (by kernel_rfl) (by kernel_rfl) (fun _ _ _ h => h) (by decide) (Or.inl ⟨by rfl, ?_⟩) hC (fun _ => hS) ?_
                rotate_left
                · (intro W hc; have hs := hc rfl; clear hc; go_simp; first | done | with_reducible rfl)
                clear hC
                intro _ hC
                try simp only [Act.put, List.getElem_toArray, List.getElem_cons_zero, List.getElem_cons_succ, List.setIfInBounds_toArray, List.set_cons_zero, List.set_cons_succ]
                refine wpT_take (i := 15) (v := ?_) rfl (by kernel_rfl) (by kernel_rfl) (by kernel_rfl) (by kernel_rfl) (fun _ _ _ h => h) (by decide) (Or.inl ⟨by rfl, ?_⟩) hC (fun _ => hS) ?_
                rotate_left
                · (intro W hc; have hs := hc rfl; clear hc; go_simp; first | done | with_reducible rfl)
                clear hC
                intro _ hC
                try simp only [Act.put, List.getElem_toArray, List.getElem_cons_zero, List.getElem_cons_succ, List.setIfInBounds_toArray, List.set_cons_zero, List.set_cons_succ]
                refine wpT_take (i := 16) (v := ?_) rfl (by kernel_rfl) (by kernel_rfl) (by kernel_rfl) (by kernel_rfl) (fun _ _ _ h => h) (by decide) (Or.inl ⟨by rfl, ?_⟩) hC (fun _ => hS) ?_
                rotate_left
                · (intro W hc; have hs := hc rfl; clear hc; go_simp; first | done | with_reducible rfl)
                clear hC
                intro _ hC
                try simp only [Act.put, List.getElem_toArray, List.getElem_cons_zero, List.getElem_cons_succ, List.setIfInBounds_toArray, List.set_cons_zero, List.set_cons_succ]
                refine wpT_take (i := 17) (v := ?_) rfl (by kernel_rfl) (by kernel_rfl) (by kernel_rfl) (by kernel_rfl) (fun _ _ _ h => h) (by decide) (Or.inl ⟨by rfl, ?_⟩) hC (fun _ => hS) ?_
                rotate_left
                · (intro W hc; have hs := hc rfl; clear hc; go_simp; first | done | with_reducible rfl)
                clear hC
                intro _ hC
                try simp only [Act.put, List.getElem_toArray, List.getElem_cons_zero, List.getElem_cons_succ, List.setIfInBounds_toArray, List.set_cons_zero, List.set_cons_succ]
                refine wpT_take (i := 18) (v := ?_) rfl (by kernel_rfl) (by kernel_rfl) (by kernel_rfl) (by kernel_rfl) (fun _ _ _ h => h) (by decide) (Or.inl ⟨by rfl, ?_⟩) hC (fun _ => hS) ?_
                rotate_left
                · (intro W hc; have hs := hc rfl; clear hc; go_simp; first | done | with_reducible rfl)
                clear hC
                intro _ hC
                try simp only [Act.put, List.getElem_toArray, List.getElem_cons_zero, List.getElem_cons_succ, List.setIfInBounds_toArray, List.set_cons_zero, List.set_cons_succ]
                refine wpT_take (i := 19) (v := ?_) rfl (by kernel_rfl) (by kernel_rfl) (by kernel_rfl) (by kernel_rfl) (fun _ _ _ h => h) (by decide) (Or.inl ⟨by rfl, ?_⟩) hC (fun _ => hS) ?_
                rotate_left
                · (intro W hc; have hs := hc rfl; clear hc; go_simp; first | done | with_reducible rfl)
                clear hC
                intro _ hC
                try simp only [Act.put, List.getElem_toArray, List.getElem_cons_zero, List.getElem_cons_succ, List.setIfInBounds_toArray, List.set_cons_zero, List.set_cons_succ]
                refine wpT_take (i := 20) (v := ?_) rfl (by kernel_rfl) (by kernel_rfl) (by kernel_rfl) (by kernel_rfl) (fun _ _ _ h => h) (by decide) (Or.inl ⟨by rfl, ?_⟩) hC (fun _ => hS) ?_
                rotate_left
                · (intro W hc; have hs := hc rfl; clear hc; go_simp; first | done | with_reducible rfl)
                clear hC
                intro _ hC
                try simp only [Act.put, List.getElem_toArray, List.getElem_cons_zero, List.getElem_cons_succ, List.setIfInBounds_toArray, List.set_cons_zero, List.set_cons_succ]
                refine wpT_take (i := 21) (v := ?_) rfl (by kernel_rfl) (by kernel_rfl) (by kernel_rfl) (by kernel_rfl) (fun _ _ _ h => h) (by decide) (Or.inl ⟨by rfl, ?_⟩) hC (fun _ => hS) ?_
                rotate_left
                · (intro W hc; have hs := hc rfl; clear hc; go_simp; first | done | with_reducible rfl)
                clear hC
                intro _ hC
                try simp only [Act.put, List.getElem_toArray, List.getElem_cons_zero, List.getElem_cons_succ, List.setIfInBounds_toArray, List.set_cons_zero, List.set_cons_succ]
                refine wpT_take (i := 22) (v := ?_) rfl (by kernel_rfl) (by kernel_rfl) (by kernel_rfl) (by kernel_rfl) (fun _ _ _ h => h) (by decide) (Or.inl ⟨by rfl, ?_⟩) hC (fun _ => hS) ?_
                rotate_left
                · (intro W hc; have hs := hc rfl; clear hc; go_simp; first | done | with_reducible rfl)
                clear hC
                intro _ hC
                try simp only [Act.put, List.getElem_toArray, List.getElem_cons_zero, List.getElem_cons_succ, List.setIfInBounds_toArray, List.set_cons_zero, List.set_cons_succ]
                refine wpT_take (i := 23) (v := ?_) rfl (by kernel_rfl) (by kernel_rfl) (by kernel_rfl) (by kernel_rfl) (fun _ _ _ h => h) (by decide) (Or.inl ⟨by rfl, ?_⟩) hC (fun _ => hS) ?_
                rotate_left
                · (intro W hc; have hs := hc rfl; clear hc; go_simp; first | done | with_reducible rfl)
                clear hC
                intro _ hC
                try simp only [Act.put, List.getElem_toArray, List.getElem_cons_zero, List.getElem_cons_succ, List.setIfInBounds_toArray, List.set_cons_zero, List.set_cons_succ]
                refine wpT_take (i := 24) (v := ?_) rfl (by kernel_rfl) (by kernel_rfl) (by kernel_rfl) (by kernel_rfl) (fun _ _ _ h => h) (by decide) (Or.inl ⟨by rfl, ?_⟩) hC (fun _ => hS) ?_
                rotate_left
                · (intro W hc; have hs := hc rfl; clear hc; go_simp; first | done | with_reducible rfl)
                clear hC
                intro _ hC
                try simp only [Act.put, List.getElem_toArray, List.getElem_cons_zero, List.getElem_cons_succ, List.setIfInBounds_toArray, List.set_cons_zero, List.set_cons_succ]
                refine wpT_one (i := 25) (by kernel_rfl) rfl hC (fun K hK => ?_)
                go_simp
                have hS2 := hS
                refine hK.out _ _ (fun _ => hS2) (fun _ hC' => ?_)
                clear hK K hS hC 
                have hS := hS2
                have hC := hC'
                clear hS2 hC'
                try simp only [Act.put, List.getElem_toArray, List.getElem_cons_zero, List.getElem_cons_succ, List.setIfInBounds_toArray, List.set_cons_zero, List.set_cons_succ]
                refine wpT_take (i := 26) (v := ?_) rfl (by kernel_rfl) (by kernel_rfl) (by kernel_rfl) (by kernel_rfl) (fun _ _ _ h => h) (by decide) (Or.inl ⟨by rfl, ?_⟩) hC (fun _ => hS) ?_
                rotate_left
                · (intro W hc; have hs := hc rfl; clear hc; go_simp; first | done | with_reducible rfl)
                clear hC
                intro _ hC
                try simp only [Act.put, List.getElem_toArray, List.getElem_cons_zero, List.getElem_cons_succ, List.setIfInBounds_toArray, List.set_cons_zero, List.set_cons_succ]
                refine wpT_one (i := 27) (by kernel_rfl) rfl hC (fun K hK => ?_)
                go_simp
                refine hK.out _ _ (fun h => absurd h (by decide +kernel)) (fun _ hC' => ?_)
                clear hK K hC
                have hC := hC'
                clear hC'
                try simp only [Act.put, List.getElem_toArray, List.getElem_cons_zero, List.getElem_cons_succ, List.setIfInBounds_toArray, List.set_cons_zero, List.set_cons_succ]
                refine wpG_done (by kernel_rfl) ?_ _
                have hp : Fx (fun x => x = k.lb) wc.drew (wc.drew.setCell ⟨k.lb, F.n, none⟩ (.int .i64 ((min (low3 F.n) nx : Nat) : Int))) := Fx.put _ _ _ _
                have h5 := HS5.out.no ((Fx.refl No wc).drew)
                refine q_hold (fun W => FrSt w0 k N L D numS W (.slice (some ⟨g, 0, none⟩) (d + 1) cap) (⟨F.n, ks, F.sg⟩ :: Fs) col2 num2 (fun v => if v = F.n then min (low3 F.n) (num2 x) else low3 v) seen2 opn2 stv2 P2 B2 C2 pv2 (v5 :: vs4)) (HF3.out.look rfl HE.out hxN (by rw [← HNx.out]; exact h0) (by rw [if_pos ho]) (by rw [← HNx.out]; exact h5.putLow hFn _) ((HY5.out.no ((Fx.refl No wc).drew)).keep hp fun y e _ => by have e : y = k.lb := e; have := h5.k3; rw [← e] at this; omega)) ?_
                rintro W9 hW9
                have HW9 := Lib.hid hW9
                clear hp h5 hW9
                go_wp2
                go_roundg ks.length
                case measure => (try simp only [List.length_cons]); omega
                case rel => exact ⟨_, _, _, rfl, rfl, HW9.out⟩
              · rw [Bool.not_eq_true] at ho
                rw [ho] at o5
                have HF9 := Lib.hid (HF3.out.look rfl HE.out hxN (by rw [← HNx.out]; exact h0) (by rw [if_neg (by rw [ho]; simp)]) HS5.out HY5.out)
                go_wp2
                go_roundg ks.length
                case measure => (try simp only [List.length_cons]); omega
                case rel => exact ⟨_, _, _, rfl, rfl, HF9.out⟩
end
#print axioms from_any
end Go.Proofs.YtdoplaijgocboaaGreat
