/- scc: slices.DeleteFunc over edges, with Within's test. | scc: Within: the edges within a component. | scc: Closed: the nodes with an edge within their component. | Plain: who reaches whom, reckoned out of the edges alone; the shrunken graph's edges: it has no closed row. | The law's rows: rows of numbers are compared, and written over. | scc: components as rows that may be written; the graph and the reference's, which a law draws. -/
import Derived.Test.YtdoplaijgocboaaGreatS4
import Derived.Test.YtdoplaijgocboaaGreatS1
import Derived.Test.YtdoplaijgocboaaGreatS2
import Derived.Test.YtdoplaijgocboaaGreatM5
import Derived.StillTailTactics
import Derived.BigRegion
import Derived.BigQuiet
import Derived.Test.YtdoplaijgocboaaGreatM7

namespace Go.Proofs.YtdoplaijgocboaaGreat
open Go.RowKit Go.Sort Go.Shelf Go.Lib
set_option linter.unusedVariables false

theorem fIdx_spec (p : Ed → Bool) : ∀ (l : List Ed) (k : Nat), (fIdx p l k = -1 ∧ ∀ x ∈ l, p x = false) ∨ ∃ a, a < l.length ∧ fIdx p l k = ((k + a : Nat) : Int) ∧ p (gt l a) = true ∧ ∀ j, j < a → p (gt l j) = false
  | [], k => .inl ⟨rfl, fun x h => by cases h⟩
  | x :: l, k => by
    unfold fIdx
    cases h : p x with
    | true => exact .inr ⟨0, by simp, by simp, by simpa [gt] using h, fun j hj => by omega⟩
    | false =>
      simp only [Bool.false_eq_true, if_false]
      rcases fIdx_spec p l (k + 1) with ⟨e, q⟩ | ⟨a, ha, e, q1, q2⟩
      · exact .inl ⟨e, fun y hy => (List.mem_cons.1 hy).elim (fun r => by rw [r]; exact h) (q y)⟩
      · refine .inr ⟨a + 1, by simp; omega, by rw [e]; congr 1; omega, by simpa [gt] using q1, fun j hj => ?_⟩
        cases j with
        | zero => simpa [gt] using h
        | succ j => have := q2 j (by omega); simpa [gt] using this
theorem icells_set : ∀ (zs : List Ed) (i : Nat) (x : Ed), i < zs.length → icells e3 (zs.set i x) = (((icells e3 zs).set (i * 3) (.int .i64 x.f)).set (i * 3 + 1) (.int .i64 x.t)).set (i * 3 + 2) (.int .i64 x.l)
  | z :: zs, 0, x, _ => by simp [icells, e3, ints]
  | z :: zs, i + 1, x, h => by
    have ih := icells_set zs i x (by simpa using h)
    have e1 : icells e3 (z :: zs) = [.int .i64 z.f, .int .i64 z.t, .int .i64 z.l] ++ icells e3 zs := by simp [icells, e3, ints]
    have e2 : icells e3 ((z :: zs).set (i + 1) x) = [.int .i64 z.f, .int .i64 z.t, .int .i64 z.l] ++ icells e3 (zs.set i x) := by simp [icells, e3, ints]
    rw [e1, e2, ih, show (i + 1) * 3 = i * 3 + 1 + 1 + 1 by omega]
    rfl
theorem own_set3 {w : World} {base g n cap i : Nat} {zs : List Ed} {x : Ed} (h : OwnT 46 e3 3 w base (.slice (some ⟨g, 0, none⟩) n cap) zs) (hn : zs.length = n) (hi : i < zs.length) :
    OwnT 46 e3 3 (((w.setCell ⟨g, i * 3, none⟩ (.int .i64 x.f)).setCell ⟨g, i * 3 + 1, none⟩ (.int .i64 x.t)).setCell ⟨g, i * 3 + 2, none⟩ (.int .i64 x.l)) base (.slice (some ⟨g, 0, none⟩) n cap) (zs.set i x) := by
  subst hn
  unfold OwnT at h ⊢
  rw [List.length_set, icells_set zs i x hi]
  exact (World.ownsRow.stored (World.ownsRow.stored (World.ownsRow.stored h (i * 3) _).1 (i * 3 + 1) _).1 (i * 3 + 2) _).1
section
variable {w w' : World} {D S T : Nat → Prop}
set_option maxRecDepth 100000 in
set_option maxHeartbeats 4000000 in
theorem deleteW_any {base : Nat} {v : Value} {xs : List Ed} {c : Value} {p : Ed → Bool} (h : OwnT 46 e3 3 w base v xs) (hC : ∀ W, Fx (fun g => v.ownBlock = some g) w W → ∀ x ∈ xs, Calls Tryz.prog 36 #[evE x, c] W fun r w' => r = .returned (.bool (p x)) ∧ Fx No W w') :
    Calls Tryz.prog 34 #[v, .func (.func 36) #[] #[c]] w fun r w' => ∃ v', r = .returned v' ∧ Fx (fun g => v.ownBlock = some g) w w' ∧ OwnT 46 e3 3 w' base v' (xs.filter fun x => !p x) := by
  have H := Lib.hid h
  have HC := Lib.hid hC
  rcases fIdx_spec p xs 0 with ⟨e, q⟩ | ⟨a, ha, e, q1, q2⟩
  · have HQ : Hid (xs.filter (fun x => !p x) = xs) := Lib.hid (List.filter_eq_self.2 fun x hx => by rw [q x hx]; rfl)
    obtain ⟨ao, cap, rfl, _⟩ := EdsV.facts (OwnT.row h)
    have CI := indexFuncW_any (OwnT.row h) (fun W hW x hx => hC W hW.no x hx)
    rw [e] at CI
    have HCI := Lib.hid CI
    clear h hC e q CI
    go_enter Tryz.func34, Tryz.ntmps34
    go_wp2_with fail
    refine HCI.out.mono ?_
    rintro r w1 ⟨rfl, hf⟩
    have HF := Lib.hid hf
    clear hf
    go_wp2
    go_ret
    exact ⟨_, rfl, HF.out.no, by rw [HQ.out]; exact H.out.no HF.out⟩
  · obtain ⟨g, cap, rfl, hb, hg⟩ := ownsRow_pos h (by omega)
    obtain ⟨n, hn⟩ : ∃ n, n = xs.length := ⟨_, rfl⟩
    have CI := indexFuncW_any (OwnT.row h) (fun W hW x hx => hC W hW.no x hx)
    rw [e, Nat.zero_add] at CI
    rw [← hn] at CI ha ⊢
    have HCI := Lib.hid CI
    have HN := Lib.hid hn
    have HQ1 := Lib.hid q1
    have HQ2 := Lib.hid q2
    have hn9 : n ≤ 9223372036854775807 := by
      obtain ⟨_, cp, e1, h2, h3, _⟩ := EdsV.facts (OwnT.row h)
      omega
    clear h hC e q1 q2 CI hn
    have a1 : ¬ ((a : Int) = -1) := by omega
    go_enter Tryz.func34, Tryz.ntmps34
    go_wp2_with fail
    refine HCI.out.mono ?_
    rintro r w1 ⟨rfl, hf⟩
    have HF := Lib.hid hf
    clear hf
    go_wp2
    have HF1 : Hid (Fx (fun x => x = g) w w1) := Lib.hid HF.out.no
    have HO1 := Lib.hid (H.out.no HF.out)
    go_loopg [5, 6] n (fun gk s5 s6 ws => ∃ (i b : Nat) (zs : List Ed), s5 = .int .i64 (i : Nat) ∧ s6 = .int .i64 (b : Nat) ∧ (n ≤ b + gk ∧ b ≤ n) ∧ i < b ∧ zs.length = n ∧ zs.take i = (xs.take b).filter (fun x => !p x) ∧ zs.drop b = xs.drop b ∧ Fx (fun x => x = g) w ws ∧ OwnT 46 e3 3 ws base (.slice (some ⟨g, 0, none⟩) n cap) zs)
    case atStart => exact ⟨a, a + 1, xs, rfl, by go_num, ⟨by omega, by omega⟩, by omega, HN.out.symm, by
        have hax : a < xs.length := by rw [← HN.out]; exact ha
        rw [take_gt hax, List.filter_append]
        have e2 : (xs.take a).filter (fun x => !p x) = xs.take a := List.filter_eq_self.2 fun x hx => by
          obtain ⟨j, hj, rfl⟩ := List.getElem_of_mem hx
          have hj' : j < a := by simp at hj; omega
          have := HQ2.out j hj'
          simpa [gt, show j < xs.length by omega] using this
        rw [e2]; simp [HQ1.out], rfl, HF1.out, by have q := HO1.out; rw [← HN.out] at q; exact q⟩
    case round =>
      obtain ⟨i, b, zs, rfl, rfl, hbg, hib, hzl, hzt, hzd, hf2, ho⟩ := hrel
      have HF2 := Lib.hid hf2
      have HO := Lib.hid ho
      have HZ := Lib.hid (And.intro hzl (And.intro hzt hzd))
      by_cases hbn : b < n
      · obtain ⟨ao, cp, e1, _, _, hk⟩ := EdsV.facts (OwnT.row ho)
        obtain ⟨g', o', e2, _, p0, p1, p2⟩ := hk b (by omega)
        simp only [Value.slice.injEq] at e1
        obtain ⟨rfl, -, rfl⟩ := e1
        simp only [Option.some.injEq, Addr.mk.injEq] at e2
        obtain ⟨rfl, rfl, -⟩ := e2
        rw [Nat.zero_add] at p0 p1 p2
        have hxe : gt zs b = gt xs b := by
          have h1 : (zs.drop b)[0]? = (xs.drop b)[0]? := by rw [hzd]
          simp only [List.getElem?_drop, Nat.add_zero] at h1
          simp only [gt, List.getD, h1]
        rw [hxe] at p0 p1 p2
        have hm := gt_mem (show b < xs.length by rw [← HN.out]; exact hbn)
        obtain ⟨x, hx⟩ : ∃ x, x = gt xs b := ⟨_, rfl⟩
        rw [← hx] at p0 p1 p2 hm
        have HXe := Lib.hid hx
        have CX : Hid (∀ W, Fx (fun x => x = g) w W → Calls Tryz.prog 36 #[.agg #[.int .i64 x.f, .int .i64 x.t, .int .i64 x.l], c] W fun r w' => r = .returned (.bool (p x)) ∧ Fx No W w') := Lib.hid fun W hW => HC.out W (hW.mono fun y _ e => by have e : y = g := e; rw [e]; rfl) x hm
        obtain ⟨px, hpx⟩ : ∃ t, t = p x := ⟨_, rfl⟩
        have HPx := Lib.hid hpx
        rw [← hpx] at CX
        have b0 : (0 : Int) ≤ (b : Int) := by omega
        have b1 : (b : Int) < (n : Int) := by omega
        have i0 : (0 : Int) ≤ (i : Int) := by omega
        have i1 : (i : Int) < (n : Int) := by omega
        clear hf2 ho hzl hzt hzd hk hx hxe hpx hm
        go_wp2_with fail
        refine (CX.out _ (HF2.out.trans ((Fx.refl _ wr).alloc _))).mono ?_
        rintro r w3 ⟨rfl, hf3⟩
        have k := fun (i : Nat) (v : Value) => new_cells (i := i) (v := v) (W := wr) (cs := #[.int .i64 x.f, .int .i64 x.t, .int .i64 x.l]) (t := 46) (b := wr.heap.size)
        have k0 := hf3.cell' (k 0 _ rfl rfl).1 (fun q => q)
        have k1 := hf3.cell' (k 1 _ rfl rfl).1 (fun q => q)
        have k2 := hf3.cell' (k 2 _ rfl rfl).1 (fun q => q)
        have HF3 : Hid (Fx No wr w3) := Lib.hid (((Fx.refl No wr).alloc _).trans hf3)
        have HO3 := Lib.hid (HO.out.no HF3.out)
        clear k hf3 p0 p1 p2 CX
        cases px
        · obtain ⟨ao5, cp5, e5, _, _, hk5⟩ := EdsV.facts (OwnT.row HO3.out)
          have hin : i < zs.length := by have := HZ.out.1; omega
          obtain ⟨g5, o5, e6, _, z0, z1, z2⟩ := hk5 i hin
          simp only [Value.slice.injEq] at e5
          obtain ⟨rfl, -, rfl⟩ := e5
          simp only [Option.some.injEq, Addr.mk.injEq] at e6
          obtain ⟨rfl, rfl, -⟩ := e6
          rw [Nat.zero_add] at z0 z1 z2
          have HO5 : w3.ownsRow base 46 3 (.slice (some ⟨g, 0, none⟩) n cap) n (icells e3 zs) := by have q := HO3.out; unfold OwnT at q; rw [HZ.out.1] at q; exact q
          have f0 := World.ownsRow.frozenAt HO5 (i * 3)
          have f1 := World.ownsRow.frozenAt HO5 (i * 3 + 1)
          have f2 := World.ownsRow.frozenAt HO5 (i * 3 + 2)
          have HS := Lib.hid (own_set3 (x := x) HO3.out HZ.out.1 hin)
          have HF4 : Hid (Fx (fun x => x = g) w (((w3.setCell ⟨g, i * 3, none⟩ (.int .i64 x.f)).setCell ⟨g, i * 3 + 1, none⟩ (.int .i64 x.t)).setCell ⟨g, i * 3 + 2, none⟩ (.int .i64 x.l))) := Lib.hid (Fx.setCell (S := fun x => x = g) (Fx.setCell (S := fun x => x = g) (Fx.setCell (S := fun x => x = g) (HF2.out.trans HF3.out.no) (a := ⟨g, i * 3, none⟩) (.inr rfl) _) (a := ⟨g, i * 3 + 1, none⟩) (.inr rfl) _) (a := ⟨g, i * 3 + 2, none⟩) (.inr rfl) _)
          clear hk5 hin HO5
          go_wp2
          go_roundg (n - (b + 1))
          case measure => omega
          case rel =>
            obtain ⟨hzl, hzt, hzd⟩ := HZ.out
            exact ⟨i + 1, b + 1, zs.set i x, by go_num, by go_num, ⟨by omega, by omega⟩, by omega, by rw [List.length_set]; exact hzl, by
              rw [take_gt (show b < xs.length by rw [← HN.out]; exact hbn), List.filter_append, ← hzt, ← HXe.out, List.take_succ_eq_append_getElem (by rw [List.length_set]; omega), List.take_set_of_le (Nat.le_refl _), List.getElem_set_self]
              simp [← HPx.out], by rw [List.drop_set_of_lt (by omega), ← List.drop_drop, ← List.drop_drop, hzd], HF4.out, HS.out⟩
        · go_wp2
          go_roundg (n - (b + 1))
          case measure => omega
          case rel =>
            obtain ⟨hzl, hzt, hzd⟩ := HZ.out
            exact ⟨i, b + 1, zs, rfl, by go_num, ⟨by omega, by omega⟩, by omega, hzl, by
              rw [take_gt (show b < xs.length by rw [← HN.out]; exact hbn), List.filter_append, ← hzt, ← HXe.out]
              simp [← HPx.out], by rw [← List.drop_drop, ← List.drop_drop, hzd], HF2.out.trans HF3.out.no, HO3.out⟩
      · obtain ⟨hzl, hzt, hzd⟩ := HZ.out
        obtain ⟨g2, cap2, cur, e1, _, hgr, h1, h2, h3, h4⟩ := ownsRow_open ho (by omega)
        simp only [Value.slice.injEq, Option.some.injEq, Addr.mk.injEq] at e1
        obtain ⟨⟨rfl, -, -⟩, -, rfl⟩ := e1
        obtain rfl : b = n := by omega
        rw [hzl] at h1 h4
        obtain ⟨z0, hz0⟩ : ∃ z, z = (Builtin.zeroCells (Value.agg #[.int .i64 0, .int .i64 0, .int .i64 0]).cells (b - i)).toList := ⟨_, rfl⟩
        have hone : Hid (One z0) := Lib.hid fun u hu => by
          rw [hz0] at hu
          simp only [Builtin.zeroCells, Array.toList_map, List.mem_map] at hu
          obtain ⟨k, _, rfl⟩ := hu
          have hk : k % 3 = 0 ∨ k % 3 = 1 ∨ k % 3 = 2 := by omega
          show (#[Value.int .i64 0, .int .i64 0, .int .i64 0][k % 3]!).oneCell' = true
          rcases hk with e | e | e <;> rw [e] <;> rfl
        have hz3 : z0.length = (b - i) * 3 := by rw [hz0]; simp [Builtin.zeroCells, Value.cells]
        have hib3 : (b - i) * 3 = b * 3 - i * 3 := by omega
        have hfit : Hid (i * 3 + z0.length ≤ cur.length) := Lib.hid (by rw [hz3, h3]; omega)
        have hres : Hid ((splice cur (i * 3) z0).take (i * 3) = icells e3 (xs.filter fun x => !p x)) := Lib.hid (by
          have e1 : (cur.take (i * 3)).length = i * 3 := by rw [List.length_take, h3]; omega
          have e2 : cur.take (i * 3) = (icells e3 zs).take (i * 3) := by rw [← h4, List.take_take]; congr 1; omega
          have e3' : xs.take b = xs := List.take_of_length_le (by rw [← HN.out]; exact Nat.le_refl _)
          unfold splice
          rw [List.take_left' e1, e2, icells_take, hzt, e3'])
        have hlen : Hid ((xs.filter fun x => !p x).length = i) := Lib.hid (by
          have e3' : xs.take b = xs := List.take_of_length_le (by rw [← HN.out]; exact Nat.le_refl _)
          have := congrArg List.length hzt
          rw [e3', List.length_take] at this
          omega)
        have HGr := Lib.hid hgr
        have H3 := Lib.hid (And.intro h2 h3)
        have HZ0 := Lib.hid hz0
        have hic : ¬ i = cap := by omega
        have hci : ¬ cap = i := by omega
        have i0 : (0 : Int) ≤ (i : Int) := by omega
        have i1 : (i : Int) ≤ (b : Int) := by omega
        have hile : i ≤ b := by omega
        have hilc : i ≤ cap := by omega
        clear hf2 ho hzl hzt hzd hgr h2 h3 h4 hz0 hz3 hib3
        go_wp2_with (with_reducible refine wpList_clear_row rfl (.tmp 38) 22 rfl 46 (.agg #[.int .i64 0, .int .i64 0, .int .i64 0]) Tryz.underlying22 zero_edge g (i * 3) (b - i) (cap - i) rfl (by omega) _ 46 HGr.out z0 HZ0.out.symm hone.out hfit.out ?_)
        intro w3 HG3 HF3
        have HO3 : Hid (OwnT 46 e3 3 w3 base (.slice (some ⟨g, 0, none⟩) i cap) (xs.filter fun x => !p x)) := Lib.hid (by
          unfold OwnT
          rw [hlen.out]
          exact ownsRow_shut (by rw [icells_length e3_len, hlen.out]) hb HG3.out hilc H3.out.1 (by rw [length_splice _ _ _ hfit.out]; exact H3.out.2) hres.out)
        have HF4 : Hid (Fx (fun x => x = g) w w3) := Lib.hid (HF2.out.trans HF3.out)
        clear HG3 HF3
        go_wp2
        go_ret
        exact ⟨_, rfl, HF4.out.mono fun y _ e => by have e : y = g := e; rw [e]; rfl, HO3.out⟩
end
#print axioms deleteW_any
end Go.Proofs.YtdoplaijgocboaaGreat

namespace Go.Proofs.YtdoplaijgocboaaGreat
open Go.RowKit Go.Sort Go.Shelf Go.Lib
set_option linter.unusedVariables false

section
variable {w : World} {N gb : Nat} {L : List Ed} {D : Nat → Prop} {sm : Nat → Nat → Bool}
set_option maxRecDepth 100000 in
set_option maxHeartbeats 4000000 in
theorem within_any (hg : GraphV w D gb N L) (h : Eqv sm N) (hsm : ∀ i j, i < N → j < N → (sm i j = true ↔ Sm (EG L) i j)) :
    Calls Tryz.prog 12 #[.pointer (some ⟨gb, 0, none⟩)] w fun e w' => ∃ v', e = .returned v' ∧ Fx No w w' ∧ OwnT 46 e3 3 w' w.heap.size v' (L.filter fun x => !outE2 (cno sm) x) := by
  have HG := Lib.hid hg
  have HE := Lib.hid h
  have HSm := Lib.hid hsm
  clear hg h hsm
  go_enter Tryz.func12, Tryz.ntmps12
  go_upto_region 4 with (go_at_call 16; refine (sof_any HG.out HE.out HSm.out).mono ?_; rintro e w2 ⟨g, rfl, hf2, hg1, hg2, hnb⟩; have HNb := Lib.hid hnb; have HF0 := Lib.hid hf2; clear hf2 hnb hg1 hg2)
  refine wp_hold (fun W => Fx No w W ∧ W.cell? ⟨w2.heap.size, 0, none⟩ = some (.slice (some ⟨g, 0, none⟩) N N) ∧ NumB W g N (cno sm)) ⟨HF0.out.trans ((Fx.refl No w2).alloc _), (new_cells rfl rfl).1, HNb.out.keep ((Fx.refl No w2).alloc _) (fun q => q)⟩ ?_
  rintro w3 ⟨hf3, ho3, hn3⟩
  have HF3 := Lib.hid hf3
  have HO3 := Lib.hid ho3
  have HN3 := Lib.hid hn3
  clear hf3 ho3 hn3
  go_wp2_with fail
  refine (gEdges_any (HG.out.no HF3.out)).mono ?_
  rintro e w4 ⟨v4, rfl, hf4, hv4⟩
  have HV := Lib.hid hv4
  have HF4 := Lib.hid hf4
  have CD : Hid (Calls Tryz.prog 34 #[v4, .func (.func 36) #[] #[.pointer (some ⟨w2.heap.size, 0, none⟩)]] w4 fun r w' => ∃ v', r = .returned v' ∧ Fx (fun g => v4.ownBlock = some g) w4 w' ∧ OwnT 46 e3 3 w' w3.heap.size v' (L.filter fun x => !outE2 (cno sm) x)) := Lib.hid (deleteW_any hv4 fun W hW x hx => by
    have hlo : ∀ b, v4.ownBlock = some b → w3.heap.size ≤ b := fun b e => (OwnT.lt hv4 e).1
    have l1 := World.block_lt_of_cell? w3 _ HO3.out
    have l1 : w2.heap.size < w3.heap.size := l1
    have c1 := hW.cell' (hf4.cell' HO3.out (fun q => q)) (fun e => by have := hlo _ e; have q : w3.heap.size ≤ w2.heap.size := this; omega)
    have c2 : NumB W g N (cno sm) := fun i hi => by
      have h1 := HN3.out i hi
      have l2 := World.block_lt_of_cell? w3 _ h1.1
      have l2 : g < w3.heap.size := l2
      have h2 := hf4.cellF h1.1 h1.2 (fun q => q)
      exact hW.cellF h2.1 h2.2 (fun e => by have q : w3.heap.size ≤ g := hlo _ e; omega)
    exact closW_any c1 c2 (HG.out.nodes x hx))
  clear hf4 hv4
  go_wp2_with fail
  refine CD.out.mono ?_
  rintro e w5 ⟨v5, rfl, hf5, hv5⟩
  have HF5 : Hid (Fx No w w5) := Lib.hid ((HF3.out.trans HF4.out).trans' hf5 fun j e hl => by have q := (OwnT.lt HV.out e).1; have := HF3.out.size; omega)
  have HV5 := Lib.hid hv5
  clear hf5 hv5
  go_wp2
  go_ret
  exact ⟨_, rfl, HF5.out, OwnT.base HV5.out HF3.out.size⟩
end
#print axioms within_any
end Go.Proofs.YtdoplaijgocboaaGreat

namespace Go.Proofs.YtdoplaijgocboaaGreat
open Go.RowKit Go.Sort Go.Shelf Go.Lib
set_option linter.unusedVariables false

section
variable {w : World} {N gb : Nat} {L : List Ed} {D : Nat → Prop} {sm : Nat → Nat → Bool}
set_option maxRecDepth 100000 in
set_option maxHeartbeats 4000000 in
theorem sclosed_any (hg : GraphV w D gb N L) (h : Eqv sm N) (hsm : ∀ i j, i < N → j < N → (sm i j = true ↔ Sm (EG L) i j)) :
    Calls Tryz.prog 17 #[.pointer (some ⟨gb, 0, none⟩)] w fun e w' => ∃ v' l, e = .returned v' ∧ Fx No w w' ∧ w'.ownsRow w.heap.size 3 1 v' l.length (ints l) ∧ Up1 l ((L.filter fun x => !outE2 (cno sm) x).map (·.f)) := by
  obtain ⟨ii, hi, hz, hs, hb⟩ := info_parts info_int'
  have HG := Lib.hid hg
  have HE := Lib.hid h
  have HSm := Lib.hid hsm
  have hsmall := hg.small
  obtain ⟨xs, hxs⟩ : ∃ xs, xs = L.filter fun x => !outE2 (cno sm) x := ⟨_, rfl⟩
  have HXs := Lib.hid hxs
  have hxl : xs.length ≤ 1000000 := by rw [hxs]; exact Nat.le_trans (List.length_filter_le _ _) hsmall
  have hasc : xs.Pairwise fun a b => a.f ≤ b.f := by
    rw [hxs]
    exact (hg.asc.filter _).imp fun {a b} q => by simp only [Ed.lt] at q; omega
  have HAs := Lib.hid hasc
  rw [← hxs]
  clear hg h hsm hxs hasc hsmall
  go_enter Tryz.func17, Tryz.ntmps17
  go_wp2_with (go_at_call 12; refine (within_any HG.out HE.out HSm.out).mono ?_; rintro e w1 ⟨v1, rfl, hf1, hv1⟩; rw [← HXs.out] at hv1; obtain ⟨ao, cap, rfl, hc1, hc2, hk⟩ := EdsV.facts (OwnT.row hv1); have HF1 := Lib.hid hf1; have HK := Lib.hid hk; clear hf1 hv1 hk)
  obtain ⟨n, hn⟩ : ∃ n, n = xs.length := ⟨_, rfl⟩
  rw [← hn]
  have HN := Lib.hid hn
  have hn6 : n ≤ 1000000 := by omega
  clear hn hxl hc1 hc2
  go_loopg [2, 8] n (fun gk lv sv ws => ∃ (q : Nat) (l : List Int), sv = .int .i64 (q : Nat) ∧ (n ≤ q + gk ∧ q ≤ n) ∧ l.length ≤ q ∧ Fx No w1 ws ∧ ws.ownsRow w1.heap.size 3 1 lv l.length (ints l) ∧ Up1 l ((xs.take q).map (·.f)))
  case atStart => exact ⟨0, [], rfl, ⟨by omega, by omega⟩, Nat.le_refl _, Fx.refl _ _, World.ownsRow_nil _ _ _ _, by simpa using Up1.nil⟩
  case round =>
    obtain ⟨q, l, rfl, hq, hlq, hf2, ho, hu⟩ := hrel
    have HF2 := Lib.hid hf2
    have HO := Lib.hid ho
    have HU := Lib.hid hu
    obtain ⟨lo, lc, rfl, _⟩ := SlV.ofOwns ho
    by_cases hqn : q < n
    · obtain ⟨b3, o3, rfl, _, p0, p1, p2⟩ := HK.out q (by rw [← HN.out]; exact hqn)
      obtain ⟨x, hx⟩ : ∃ x, x = gt xs q := ⟨_, rfl⟩
      rw [← hx] at p0 p1 p2
      have k0 := hf2.cell' p0 (fun q => q)
      have k1 := hf2.cell' p1 (fun q => q)
      have k2 := hf2.cell' p2 (fun q => q)
      have q0 : (0 : Int) ≤ (q : Int) := by omega
      have q1 : (q : Int) < (n : Int) := by omega
      have hUp : Hid (Up1 (addL1 l x.f) ((xs.take (q + 1)).map (·.f))) := Lib.hid (by
        have hqx : q < xs.length := by rw [← HN.out]; exact hqn
        rw [take_gt hqx, List.map_append, ← hx]
        refine hu.snoc fun y hy => ?_
        obtain ⟨e, he, rfl⟩ := List.mem_map.1 hy
        obtain ⟨j, hj, rfl⟩ := List.getElem_of_mem he
        have hjq : j < q := by simp at hj; omega
        have := (List.pairwise_iff_getElem.1 HAs.out) j q (by omega) hqx hjq
        rw [hx]
        simpa [gt, hqx] using this)
      clear p0 p1 p2 hx hf2 ho hu
      by_cases hl0 : l = []
      · subst hl0
        go_wp2
        go_quiet (fail)
        refine q_hold (fun W => Fx No wr W ∧ W.cell? ⟨wr.heap.size, 0, none⟩ = some (.int .i64 x.f)) ⟨((Fx.refl No wr).alloc _).drewN _, ((Fx.refl No _).drewN _).cell' (new_cells (W := wr) (cs := #[.int .i64 x.f, .int .i64 x.t, .int .i64 x.l]) (i := 0) rfl rfl).1 (fun q => q)⟩ ?_
        rintro w5 ⟨hf5, hb5⟩
        have HF5 := Lib.hid hf5
        have HO5 : Hid (w5.ownsRow w1.heap.size 3 1 (.slice lo ([] : List Int).length lc) ([] : List Int).length (ints [])) := Lib.hid (ownsRow_fx HO.out hf5 fun _ _ e => e)
        have z5 := hf5.size
        have z2 := HF2.out.size
        clear hf5
        go_wp2_with (at_builtin; refine wpList_append_kept rfl _ _ 23 rfl w1.heap.size 3 Tryz.underlying23 hi hz hs hb rfl (by decide) rfl (World.ownsRow.alloc HO5.out _) rfl (SlV.lit _ 3 #[.int .i64 _] 1 1 rfl (by unfold maxLen; omega)) (ints_one [_]) (by omega) (by unfold maxLen; simp) (by simp) (by simp; omega) ?_)
        intro v6 w6 ho6 hf6 hk6 hb6
        have HR : Hid (Fx No w1 w6 ∧ w6.ownsRow w1.heap.size 3 1 v6 (addL1 [] x.f).length (ints (addL1 [] x.f))) := Lib.hid ⟨((HF2.out.trans HF5.out).trans ((Fx.refl No w5).alloc _)).trans' hf6 fun j e hl => by have := (World.ownsRow.lt HO5.out j e).1; omega, ho6⟩
        clear ho6 hf6 hk6 hb6
        go_wp2
        go_roundg (n - (q + 1))
        case measure => omega
        case rel => exact ⟨q + 1, _, by go_num, ⟨by omega, by omega⟩, by simp [addL1], HR.out.1, HR.out.2, hUp.out⟩
      · obtain ⟨m, hm⟩ : ∃ m, l.length = m + 1 := ⟨l.length - 1, by have := List.length_pos_iff.2 hl0; omega⟩
        obtain ⟨g, gc, e1, hgb, hgl⟩ := ownsRow_pos HO.out (by omega)
        simp only [Value.slice.injEq] at e1
        obtain ⟨rfl, -, rfl⟩ := e1
        have cl := HO.out.cells (g := g) rfl m (.int .i64 (gi l m)) (by simp [ints, gi, show m < l.length by omega])
        rw [Addr.add_lit, Nat.zero_add] at cl
        obtain ⟨z, hze⟩ : ∃ z, z = gi l m := ⟨_, rfl⟩
        rw [← hze] at cl
        have hlast : Hid (l.getLast? = some z) := Lib.hid (by rw [List.getLast?_eq_getElem?, hm, hze]; simp [gi, show m < l.length by omega])
        have cl2 := cell?_alloc_some' cl (.cells #[.int .i64 x.f, .int .i64 x.t, .int .i64 x.l] 46)
        have hml : m + 1 ≤ 1000000 := by omega
        have hm0 : ((m : Int) + 1 == 0) = false := by simp; omega
        have hm1 : (((m + 1 : Nat) : Int) == 0) = false := by simp; omega
        have hm2 : (0 : Int) ≤ (m : Int) := by omega
        have hm3 : (m : Int) < ((m + 1 : Nat) : Int) := by omega
        rw [hm]
        by_cases hzx : z = x.f
        · have HA : Hid (addL1 l x.f = l) := Lib.hid (by unfold addL1; rw [if_pos (by rw [hlast.out, hzx])])
          clear hze
          go_wp2
          go_quiet (fail)
          refine q_hold (fun W => Fx No wr W ∧ W.cell? ⟨wr.heap.size, 0, none⟩ = some (.int .i64 x.f)) ⟨((Fx.refl No wr).alloc _).drewN _, ((Fx.refl No _).drewN _).cell' (new_cells (W := wr) (cs := #[.int .i64 x.f, .int .i64 x.t, .int .i64 x.l]) (i := 0) rfl rfl).1 (fun q => q)⟩ ?_
          rintro w5 ⟨hf5, hb5⟩
          have HF5 := Lib.hid hf5
          have HO5 : Hid (w5.ownsRow w1.heap.size 3 1 (.slice (some ⟨g, 0, none⟩) (m + 1) lc) (m + 1) (ints l)) := Lib.hid (by rw [← hm]; exact ownsRow_fx HO.out hf5 fun _ _ e => e)
          have z5 := hf5.size
          have z2 := HF2.out.size
          clear hf5
          go_wp2
          go_roundg (n - (q + 1))
          case measure => omega
          case rel => exact ⟨q + 1, l, by go_num, ⟨by omega, by omega⟩, by omega, HF2.out.trans HF5.out, by rw [hm]; exact HO5.out, by have := hUp.out; rw [HA.out] at this; exact this⟩
        · have HA : Hid (addL1 l x.f = l ++ [x.f]) := Lib.hid (by unfold addL1; rw [if_neg (by rw [hlast.out]; intro q; exact hzx (Option.some.inj q))])
          clear hze
          go_wp2
          go_quiet (fail)
          refine q_hold (fun W => Fx No wr W ∧ W.cell? ⟨wr.heap.size, 0, none⟩ = some (.int .i64 x.f)) ⟨((Fx.refl No wr).alloc _).drewN _, ((Fx.refl No _).drewN _).cell' (new_cells (W := wr) (cs := #[.int .i64 x.f, .int .i64 x.t, .int .i64 x.l]) (i := 0) rfl rfl).1 (fun q => q)⟩ ?_
          rintro w5 ⟨hf5, hb5⟩
          have HF5 := Lib.hid hf5
          have HO5 : Hid (w5.ownsRow w1.heap.size 3 1 (.slice (some ⟨g, 0, none⟩) (m + 1) lc) (m + 1) (ints l)) := Lib.hid (by rw [← hm]; exact ownsRow_fx HO.out hf5 fun _ _ e => e)
          have z5 := hf5.size
          have z2 := HF2.out.size
          clear hf5
          go_wp2_with (at_builtin; refine wpList_append_kept rfl _ _ 23 rfl w1.heap.size 3 Tryz.underlying23 hi hz hs hb rfl (by decide) rfl (World.ownsRow.alloc HO5.out _) rfl (SlV.lit _ 3 #[.int .i64 _] 1 1 rfl (by unfold maxLen; omega)) (ints_one [_]) (by omega) (by unfold maxLen; omega) (by omega) (by simp; omega) ?_)
          intro v6 w6 ho6 hf6 hk6 hb6
          have HR : Hid (Fx No w1 w6 ∧ w6.ownsRow w1.heap.size 3 1 v6 (l ++ [x.f]).length (ints (l ++ [x.f]))) := Lib.hid ⟨((HF2.out.trans HF5.out).trans ((Fx.refl No w5).alloc _)).trans' hf6 fun j e hl => by have := (World.ownsRow.lt HO5.out j e).1; omega, by rw [List.length_append, hm, show ints (l ++ [x.f]) = ints l ++ ints [x.f] from List.map_append]; exact ho6⟩
          clear ho6 hf6 hk6 hb6
          go_wp2
          go_roundg (n - (q + 1))
          case measure => omega
          case rel => exact ⟨q + 1, l ++ [x.f], by go_num, ⟨by omega, by omega⟩, by simp; omega, HR.out.1, HR.out.2, by have := hUp.out; rw [HA.out] at this; exact this⟩
    · obtain rfl : q = n := by omega
      have HFA : Hid (Fx No w wr) := Lib.hid (HF1.out.trans hf2)
      have HOA := Lib.hid (ownsRow_base ho HF1.out.size)
      have hte : xs.take q = xs := List.take_of_length_le (by rw [← HN.out]; exact Nat.le_refl _)
      have HUA : Hid (Up1 l (xs.map (·.f))) := Lib.hid (by rw [hte] at hu; exact hu)
      clear hf2 ho hu hte
      go_wp2
      go_ret
      exact ⟨_, l, rfl, HFA.out, HOA.out, HUA.out⟩
end
#print axioms sclosed_any
end Go.Proofs.YtdoplaijgocboaaGreat

namespace Go.Proofs.YtdoplaijgocboaaGreat
open Go.RowKit
set_option linter.unusedVariables false

/-- an edge, as a truth -/
def eB (L : List Ed) (i j : Nat) : Bool := L.any fun e => decide (e.f = (i : Int)) && decide (e.t = (j : Int))
theorem eB_iff {L : List Ed} {i j : Nat} : eB L i j = true ↔ EG L i j := by
  unfold eB EG
  rw [List.any_eq_true]
  simp only [Bool.and_eq_true, decide_eq_true_eq]
/-- the rows of edges by the nodes below k, as truths -/
def wkB (e : Nat → Nat → Bool) : Nat → Nat → Nat → Bool
  | 0, i, j => e i j
  | k + 1, i, j => wkB e k i j || (wkB e k i k && wkB e k k j)
theorem wkB_iff {L : List Ed} : ∀ {k i j : Nat}, wkB (eB L) k i j = true ↔ WK (EG L) k i j
  | 0, i, j => eB_iff
  | k + 1, i, j => by
    unfold wkB WK
    rw [Bool.or_eq_true, Bool.and_eq_true, wkB_iff, wkB_iff, wkB_iff]
/-- who reaches whom -/
def rL (L : List Ed) (N : Nat) (i j : Nat) : Bool := wkB (eB L) N i j
section
variable {L : List Ed} {N : Nat}
def NdL (L : List Ed) (N : Nat) : Prop := ∀ x ∈ L, (0 ≤ x.f ∧ x.f < (N : Int)) ∧ 0 ≤ x.t ∧ x.t < (N : Int)
theorem rL_iff (h : NdL L N) {i j : Nat} : rL L N i j = true ↔ Way (EG L) i j := by
  unfold rL
  rw [wkB_iff, ← way_WK fun i j q => EG_lt h q]
theorem rL_eqv (h : NdL L N) : Eqv (smR (rL L N)) N := eqv_smR (E := EG L) fun i j _ _ => rL_iff h
theorem rL_sm (h : NdL L N) : ∀ i j, i < N → j < N → (smR (rL L N) i j = true ↔ Sm (EG L) i j) := fun i j hi hj => smR_iff (fun i j _ _ => rL_iff h) hi hj
end
/-- an edge between components -/
def quoE (c : Nat → Nat) (x : Ed) : Ed := ⟨(c x.f.toNat : Nat), (c x.t.toNat : Nat), 0⟩
def shrL (c : Nat → Nat) (L : List Ed) : List Ed := (L.filter (outE2 c)).map (quoE c)
theorem shrL_snoc (c : Nat → Nat) (L : List Ed) (x : Ed) : shrL c (L ++ [x]) = shrL c L ++ if outE2 c x = true then [quoE c x] else [] := by
  unfold shrL
  rw [List.filter_append, List.map_append]
  congr 1
  by_cases h : outE2 c x = true <;> simp [h]
theorem mem_shrL {c : Nat → Nat} {L : List Ed} {y : Ed} : y ∈ shrL c L ↔ ∃ x ∈ L, c x.f.toNat ≠ c x.t.toNat ∧ y = quoE c x := by
  unfold shrL outE2
  simp only [List.mem_map, List.mem_filter, decide_eq_true_eq]
  constructor
  · rintro ⟨x, ⟨h1, h2⟩, h3⟩; exact ⟨x, h1, h2, h3.symm⟩
  · rintro ⟨x, h1, h2, h3⟩; exact ⟨x, ⟨h1, h2⟩, h3.symm⟩
theorem shrL_len (c : Nat → Nat) (L : List Ed) : (shrL c L).length ≤ L.length := by unfold shrL; rw [List.length_map]; exact List.length_filter_le _ _
section
variable {L : List Ed} {N : Nat} {sm : Nat → Nat → Bool}
/-- the shrunken graph's edges -/
def shrM (c : Nat → Nat) (L : List Ed) : List Ed := addL [] (shrL c L)
theorem mem_shrM {c : Nat → Nat} {L : List Ed} {y : Ed} : y ∈ shrM c L ↔ ∃ x ∈ L, c x.f.toNat ≠ c x.t.toNat ∧ y = quoE c x := by
  unfold shrM
  rw [mem_addL, mem_shrL]
  simp
theorem EG_shrM {c : Nat → Nat} {a b : Nat} : EG (shrM c L) a b ↔ ∃ x ∈ L, c x.f.toNat ≠ c x.t.toNat ∧ c x.f.toNat = a ∧ c x.t.toNat = b := by
  unfold EG
  constructor
  · rintro ⟨y, hy, h1, h2⟩
    obtain ⟨x, hx, hc, rfl⟩ := mem_shrM.1 hy
    simp only [quoE] at h1 h2
    exact ⟨x, hx, hc, by omega, by omega⟩
  · rintro ⟨x, hx, hc, h1, h2⟩
    exact ⟨quoE c x, mem_shrM.2 ⟨x, hx, hc, rfl⟩, by simp [quoE, h1], by simp [quoE, h2]⟩
theorem shr_nd (h : Eqv sm N) (hL : NdL L N) : NdL (shrM (cno sm) L) (canon sm N).length := fun y hy => by
  obtain ⟨x, hx, _, rfl⟩ := mem_shrM.1 hy
  obtain ⟨⟨a, b⟩, c, d⟩ := hL x hx
  have h1 := cno_lt h (show x.f.toNat < N by omega)
  have h2 := cno_lt h (show x.t.toNat < N by omega)
  have e : (canon sm N).length = (reps sm N).length := by simp [canon]
  rw [e]
  simp only [quoE]
  omega
theorem shr_lift (h : Eqv sm N) (hsm : ∀ i j, i < N → j < N → (sm i j = true ↔ Sm (EG L) i j)) (hL : NdL L N) {a b : Nat} (hw : Way (EG (shrM (cno sm) L)) a b) : ∀ u v, u < N → v < N → cno sm u = a → cno sm v = b → Rch (EG L) u v := by
  have key : ∀ u v, u < N → v < N → cno sm u = cno sm v → Rch (EG L) u v := fun u v hu hv e => ((hsm u v hu hv).1 ((cno_same h hu hv).1 e)).1
  have edge : ∀ x ∈ L, x.f.toNat < N ∧ x.t.toNat < N ∧ Rch (EG L) x.f.toNat x.t.toNat := fun x hx => by
    obtain ⟨⟨a, b⟩, c, d⟩ := hL x hx
    exact ⟨by omega, by omega, Rch.one ⟨x, hx, by omega, by omega⟩⟩
  induction hw with
  | one he =>
    intro u v hu hv e1 e2
    obtain ⟨x, hx, _, h1, h2⟩ := EG_shrM.1 he
    obtain ⟨g1, g2, g3⟩ := edge x hx
    exact (key u _ hu g1 (by rw [e1, h1])).trans (g3.trans (key _ v g2 hv (by rw [e2, h2])))
  | more he _ ih =>
    intro u v hu hv e1 e2
    obtain ⟨x, hx, _, h1, h2⟩ := EG_shrM.1 he
    obtain ⟨g1, g2, g3⟩ := edge x hx
    exact (key u _ hu g1 (by rw [e1, h1])).trans (g3.trans (ih _ v g2 hv h2 e2))
theorem shr_acyc (h : Eqv sm N) (hsm : ∀ i j, i < N → j < N → (sm i j = true ↔ Sm (EG L) i j)) (hL : NdL L N) (a : Nat) : ¬ Way (EG (shrM (cno sm) L)) a a := by
  intro hw
  obtain ⟨k, h1, h2⟩ := hw.first
  obtain ⟨x, hx, hne, e1, e2⟩ := EG_shrM.1 h1
  obtain ⟨⟨a1, b1⟩, c1, d1⟩ := hL x hx
  have hf : x.f.toNat < N := by omega
  have ht : x.t.toNat < N := by omega
  have hback : Rch (EG L) x.t.toNat x.f.toNat := by
    rcases h2 with e | e
    · exact absurd (by rw [e1, e2, e]) hne
    · exact shr_lift h hsm hL e _ _ ht hf e2 e1
  exact hne ((cno_same h hf ht).2 ((hsm _ _ hf ht).2 ⟨Rch.one ⟨x, hx, by omega, by omega⟩, hback⟩))
end
/-- a graph without closed rows: each node is a component of its own -/
structure Acy (M : List Ed) (K : Nat) (sm : Nat → Nat → Bool) : Prop where
  eqv : Eqv sm K
  sm_iff : ∀ i j, i < K → j < K → (sm i j = true ↔ Sm (EG M) i j)
  id : ∀ i j, i < K → j < K → (sm i j = true ↔ i = j)
theorem acy_of {M : List Ed} {K : Nat} (hM : NdL M K) (hc : ∀ a, ¬ Way (EG M) a a) : Acy M K (smR (rL M K)) := by
  refine ⟨rL_eqv hM, rL_sm hM, fun i j hi hj => ?_⟩
  rw [rL_sm hM i j hi hj]
  constructor
  · rintro ⟨h1 | h1, h2 | h2⟩
    · exact h1
    · exact h1
    · exact h2.symm
    · exact absurd (h1.trans h2) (hc i)
  · rintro rfl; exact Sm.refl _ _
section
variable {M : List Ed} {K : Nat} {sm : Nat → Nat → Bool}
theorem Acy.rep (h : Acy M K sm) {i : Nat} (hi : i < K) : repB sm i = true := repB_iff.2 fun k hk => by
  rw [Bool.eq_false_iff]
  intro q
  have := (h.id i k hi (by omega)).1 q
  omega
theorem Acy.reps (h : Acy M K sm) : ∀ {i : Nat}, i ≤ K → (reps sm i).length = i
  | 0, _ => rfl
  | i + 1, hi => by rw [reps_succ, if_pos (h.rep (by omega)), List.length_append, h.reps (by omega)]; rfl
theorem Acy.cno (h : Acy M K sm) {i : Nat} (hi : i < K) : cno sm i = i := by
  have : lst sm i = i := by
    rcases lst_spec (sm := sm) i with ⟨e, _⟩ | ⟨e1, e2, _⟩
    · exact e
    · have := (h.id _ _ hi (by omega)).1 e2; omega
  unfold Go.Proofs.YtdoplaijgocboaaGreat.cno
  rw [this]
  exact h.reps (by omega)
theorem Acy.canon_len (h : Acy M K sm) : (canon sm K).length = K := by
  simp only [canon, List.length_map]
  exact h.reps (Nat.le_refl _)
theorem Acy.out (h : Acy M K sm) (hM : NdL M K) (hn : ∀ x ∈ M, x.f ≠ x.t) : ∀ x ∈ M, outE2 (Go.Proofs.YtdoplaijgocboaaGreat.cno sm) x = true := fun x hx => by
  obtain ⟨⟨a, b⟩, c, d⟩ := hM x hx
  unfold outE2
  rw [h.cno (by omega), h.cno (by omega), decide_eq_true_eq]
  have := hn x hx
  omega
theorem Acy.within (h : Acy M K sm) (hM : NdL M K) (hn : ∀ x ∈ M, x.f ≠ x.t) : (M.filter fun x => !outE2 (Go.Proofs.YtdoplaijgocboaaGreat.cno sm) x) = [] := by
  rw [List.filter_eq_nil_iff]
  intro x hx
  rw [h.out hM hn x hx]
  simp
theorem Acy.shrL (h : Acy M K sm) (hM : NdL M K) (hn : ∀ x ∈ M, x.f ≠ x.t) (h0 : ∀ x ∈ M, x.l = 0) : shrL (Go.Proofs.YtdoplaijgocboaaGreat.cno sm) M = M := by
  unfold Go.Proofs.YtdoplaijgocboaaGreat.shrL
  rw [List.filter_eq_self.2 fun x hx => h.out hM hn x hx]
  conv => rhs; rw [← List.map_id M]
  refine List.map_congr_left fun x hx => ?_
  obtain ⟨⟨a, b⟩, c, d⟩ := hM x hx
  have := h0 x hx
  unfold quoE
  rw [h.cno (by omega), h.cno (by omega)]
  refine Ed.ext' ?_ ?_ ?_ <;> simp <;> omega
end
theorem shr_ne {c : Nat → Nat} {L : List Ed} : ∀ x ∈ shrM c L, x.f ≠ x.t ∧ x.l = 0 := fun y hy => by
  obtain ⟨x, _, hne, rfl⟩ := mem_shrM.1 hy
  exact ⟨by simp only [quoE]; omega, rfl⟩
theorem shr_asc (c : Nat → Nat) (L : List Ed) : Asc (shrM c L) := addL_asc Asc.nil _
theorem shr_len (c : Nat → Nat) (L : List Ed) : (shrM c L).length ≤ L.length := by
  have h1 := (addL_len [] (shrL c L)).2
  have h2 := shrL_len c L
  unfold shrM
  simp only [List.length_nil] at h1
  omega
#print axioms rL_sm
#print axioms Acy.shrL
#print axioms shr_acyc
end Go.Proofs.YtdoplaijgocboaaGreat

namespace Go.Proofs.YtdoplaijgocboaaGreat
open Go.RowKit
set_option linter.unusedVariables false

def rg (R : List (List Int)) (i : Nat) : List Int := R.getD i []
theorem rg_ext {a b : List (List Int)} (h : a.length = b.length) (hg : ∀ k, k < a.length → rg a k = rg b k) : a = b := by
  apply List.ext_getElem h
  intro k h1 h2
  have := hg k h1
  simpa [rg, h1, h2] using this
/-- rows of numbers that are read -/
structure RowsR (w : World) (E : Nat → Prop) (v : Value) (R : List (List Int)) (V : Nat → Value) : Prop where
  hd : SlV w E v 1 R.length ((List.range R.length).map V)
  el : ∀ i, i < R.length → IntsV w E (V i) (rg R i)
/-- rows of numbers that may be written -/
structure RowsW (w : World) (D : Nat → Prop) (v : Value) (R : List (List Int)) (B : Nat → Nat) (V : Nat → Value) : Prop extends RowsR w D v R V where
  pl : ∀ i, i < R.length → 0 < (rg R i).length → ∃ c, V i = .slice (some ⟨B i, 0, none⟩) (rg R i).length c
  ce : ∀ i, i < R.length → 0 < (rg R i).length → CellsI w (B i) 0 (rg R i)
  inj : ∀ i j, i < R.length → j < R.length → i ≠ j → 0 < (rg R i).length → 0 < (rg R j).length → B i ≠ B j
theorem RowsR.facts {w : World} {E : Nat → Prop} {v : Value} {R : List (List Int)} {V : Nat → Value} (h : RowsR w E v R V) : ∃ ao cap, v = .slice ao R.length cap ∧ R.length ≤ 9223372036854775807 ∧ ∀ i, i < R.length → ∃ g o, ao = some ⟨g, o, none⟩ ∧ E g ∧ w.cell? ⟨g, o + i, none⟩ = some (V i) := by
  obtain ⟨ao, cap, h1, h2, h3, h4, h5, h6⟩ := h.hd
  unfold maxLen at h3
  refine ⟨ao, cap, h1, by omega, fun i hi => ?_⟩
  obtain ⟨b, o, h7, h8, h9⟩ := h6.addr (by simp; omega)
  have := h9 i (by simpa using hi)
  exact ⟨b, o, h7, h8, by rw [this]; simp [hi]⟩
theorem RowsR.keep {w w' : World} {E S : Nat → Prop} {v : Value} {R : List (List Int)} {V : Nat → Value} (h : RowsR w E v R V) (hf : Fx S w w') (hd : ∀ k, E k → ¬ S k) : RowsR w' E v R V :=
  ⟨h.hd.keep hf hd, fun i hi => (h.el i hi).keep hf hd⟩
theorem IntsV.recell {w ws : World} {D : Nat → Prop} {v : Value} {l : List Int} {B : Nat} (h : IntsV w D v l) (hat : 0 < l.length → ∃ c, v = .slice (some ⟨B, 0, none⟩) l.length c) (hc : 0 < l.length → CellsI ws B 0 l) : IntsV ws D v l := by
  obtain ⟨ao, cap, h1, h2, h3, h4, h5, h6⟩ := h
  refine ⟨ao, cap, h1, h2, h3, h4, h5, ?_⟩
  rcases Nat.eq_zero_or_pos l.length with h0 | h0
  · obtain rfl := List.eq_nil_of_length_eq_zero h0
    exact .inl rfl
  · obtain ⟨c, e⟩ := hat h0
    rw [h1] at e
    simp only [Value.slice.injEq] at e
    obtain ⟨rfl, -, rfl⟩ := e
    obtain ⟨b, o, h7, h8, h9⟩ := h6.addr (by simp [ints]; omega)
    simp only [Option.some.injEq, Addr.mk.injEq] at h7
    obtain ⟨rfl, rfl, -⟩ := h7
    refine .inr ⟨B, 0, rfl, h8, fun k hk => ?_⟩
    have hk' : k < l.length := by simpa [ints] using hk
    rw [(hc h0 k hk').1]
    simp [ints, gi, hk']
theorem RowsW.no {w w' : World} {D : Nat → Prop} {v : Value} {R : List (List Int)} {B : Nat → Nat} {V : Nat → Value} (h : RowsW w D v R B V) (hf : Fx No w w') : RowsW w' D v R B V :=
  ⟨h.toRowsR.keep hf No.disj, h.pl, fun i hi h0 k hk => hf.cellF (h.ce i hi h0 k hk).1 (h.ce i hi h0 k hk).2 (fun q => q), h.inj⟩
theorem RowsR.mono {w : World} {E T : Nat → Prop} {v : Value} {R : List (List Int)} {V : Nat → Value} (h : RowsR w E v R V) (hd : ∀ k, E k → T k) : RowsR w T v R V := ⟨h.hd.mono hd, fun i hi => (h.el i hi).mono hd⟩
theorem RowsW.mono {w : World} {D T : Nat → Prop} {v : Value} {R : List (List Int)} {B : Nat → Nat} {V : Nat → Value} (h : RowsW w D v R B V) (hd : ∀ k, D k → T k) : RowsW w T v R B V := ⟨h.toRowsR.mono hd, h.pl, h.ce, h.inj⟩
/-- rows that are written out -/
theorem RowsR.lit {w : World} {E : Nat → Prop} {R : List (List Int)} (U : Nat → Value) (t : TypeId) (h : ∀ i, i < R.length → IntsV w E (U i) (rg R i)) (hR : R.length ≤ 1000000) :
    RowsR (w.alloc (.cells ((List.range R.length).map U).toArray t)) (fun k => E k ∨ k = w.heap.size) (.slice (some ⟨w.heap.size, 0, none⟩) R.length R.length) R U := by
  refine ⟨⟨some ⟨w.heap.size, 0, none⟩, R.length, rfl, Nat.le_refl _, by unfold maxLen; omega, by simp, by simp, .inr ⟨w.heap.size, 0, rfl, .inr rfl, fun i hi => ?_⟩⟩, fun i hi => ((h i hi).mono fun _ => .inl).no ((Fx.refl No w).alloc _)⟩
  have hi' : i < R.length := by simpa using hi
  simp [hi']
/-- the rows behind i are as they were -/
structure RwS (w ws : World) (D : Nat → Prop) (ao : Option Addr) (R : List (List Int)) (B : Nat → Nat) (V : Nat → Value) (i : Nat) : Prop where
  fx : Fx D w ws
  hd : ∀ j, j < R.length → ∃ g o, ao = some ⟨g, o, none⟩ ∧ ws.cell? ⟨g, o + j, none⟩ = some (V j)
  el : ∀ j, i ≤ j → j < R.length → IntsV ws D (V j) (rg R j)
  ce : ∀ j, i ≤ j → j < R.length → 0 < (rg R j).length → CellsI ws (B j) 0 (rg R j)
theorem RwS.no {w ws w' : World} {D : Nat → Prop} {ao : Option Addr} {R : List (List Int)} {B : Nat → Nat} {V : Nat → Value} {i : Nat} (h : RwS w ws D ao R B V i) (hf : Fx No ws w') : RwS w w' D ao R B V i :=
  ⟨h.fx.trans hf.no, fun j hj => by obtain ⟨g, o, e, c⟩ := h.hd j hj; exact ⟨g, o, e, hf.cell' c (fun q => q)⟩, fun j hj hl => (h.el j hj hl).no hf, fun j hj hl h0 k hk => hf.cellF (h.ce j hj hl h0 k hk).1 (h.ce j hj hl h0 k hk).2 (fun q => q)⟩
set_option maxRecDepth 100000 in
set_option maxHeartbeats 4000000 in
theorem rows_any {w : World} {D E : Nat → Prop} {v u : Value} {R Q : List (List Int)} {B : Nat → Nat} {V U : Nat → Value} (h : RowsW w D v R B V) (h' : RowsR w E u Q U) (hE : ∀ k, E k → ¬ D k) :
    Calls Tryz.prog 14 #[v, u] w fun e w' => e = .returned (.bool (decide (R = Q))) ∧ Fx D w w' := by
  obtain ⟨ao, cap, rfl, hal, hc⟩ := h.toRowsR.facts
  obtain ⟨bo, bcap, rfl, hbl, hc'⟩ := h'.facts
  have H := Lib.hid h
  have HR := Lib.hid h'
  have HE := Lib.hid hE
  have HC' := Lib.hid hc'
  have HS0 : Hid (RwS w w D ao R B V 0) := Lib.hid ⟨Fx.refl _ _, fun j hj => by obtain ⟨g, o, e, _, c⟩ := hc j hj; exact ⟨g, o, e, c⟩, fun j _ hj => h.el j hj, fun j _ hj h0 => h.ce j hj h0⟩
  clear h h' hE hc hc'
  by_cases hl : R.length = Q.length
  · have hn : ((R.length : Int) != (Q.length : Int)) = false := by rw [hl]; simp
    have HL := Lib.hid hl
    obtain ⟨n, hnn⟩ : ∃ n, n = R.length := ⟨_, rfl⟩
    have HN := Lib.hid hnn
    rw [← hl] at hn ⊢
    rw [← hnn] at hn hal ⊢
    clear hl hnn hbl
    go_enter Tryz.func14, Tryz.ntmps14
    go_wp2
    go_loopw [5] (fun i ws => ∃ k : Nat, k ≤ n ∧ i = .int .i64 k ∧ (∀ j, j < k → rg R j = rg Q j) ∧ RwS w ws D ao R B V k) (fun i _ => n - (intOf i).toNat)
    case atStart => exact ⟨0, Nat.zero_le _, rfl, fun j hj => by omega, HS0.out⟩
    case round =>
      obtain ⟨i, hi, rfl, hq, hs⟩ := hrel
      have HQ := Lib.hid hq
      have HS := Lib.hid hs
      clear hq hs
      by_cases hlt : i < n
      · have hiR : i < R.length := by have := HN.out; omega
        have hiQ : i < Q.length := by have := HL.out; omega
        obtain ⟨g, o, rfl, hcell⟩ := HS.out.hd i hiR
        obtain ⟨g', o', rfl, hg', hcell'⟩ := HC'.out i hiQ
        have hcell' := HS.out.fx.cell' hcell' (HE.out _ hg')
        have hV := Lib.hid (HS.out.el i (Nat.le_refl _) hiR)
        have hU := Lib.hid (IntsV.keep (HR.out.el i hiQ) HS.out.fx HE.out)
        obtain ⟨vo, vc, hve, hvl, _⟩ := IntsV.facts hV.out
        obtain ⟨x, hx⟩ : ∃ x, x = V i := ⟨_, rfl⟩
        obtain ⟨y, hy⟩ : ∃ y, y = U i := ⟨_, rfl⟩
        rw [← hx] at hcell hve hV
        rw [← hy] at hcell' hU
        have HX := Lib.hid hx
        have HVe := Lib.hid hve
        have i0 : (0 : Int) ≤ (i : Int) := by omega
        have i1 : (i : Int) < (n : Int) := by omega
        obtain ⟨t, ht⟩ : ∃ t, t = (rg R i == rg Q i) := ⟨_, rfl⟩
        have HT := Lib.hid ht
        have CS : Hid (∀ W, Fx No wr W → Calls Tryz.prog 29 #[x, y] W fun e w' => e = .returned (.bool t) ∧ Fx No W w') := Lib.hid fun W hf => by rw [HT.out]; exact sameInts_any (hV.out.no hf) (hU.out.no hf)
        clear hx hy hve ht
        go_wp2_with fail
        go_still_tail 8, (by kernel_rfl)
        change wpList _ _ _ _ _ wr.drew
        go_wp2_with fail
        refine (CS.out _ (Fx.refl No wr).drew).mono ?_
        rintro e w1 ⟨rfl, hf1⟩
        have HS1 := Lib.hid (HS.out.no ((Fx.refl No wr).drew.trans hf1))
        clear hf1 CS hcell hcell'
        cases t
        · have HB : Hid (decide (R = Q) = false) := Lib.hid (decide_eq_false fun e => by
            have := HT.out
            rw [e, beq_self_eq_true] at this; cases this)
          go_wp2
          go_ret
          exact ⟨by rw [HB.out]; rfl, HS1.out.fx⟩
        · have HQ2 : Hid (∀ j, j < i + 1 → rg R j = rg Q j) := Lib.hid fun j hj => by
            by_cases e : j = i
            · rw [e]; exact eq_of_beq HT.out.symm
            · exact HQ.out j (by omega)
          clear HQ HT HS hV hU
          obtain ⟨m, hm⟩ : ∃ m, m = (rg R i).length := ⟨_, rfl⟩
          have HM := Lib.hid hm
          rw [← hm] at hvl
          clear hm
          have HO := Lib.hid (H.out.pl i hiR)
          have HDx : Hid (0 < m → D (B i)) := Lib.hid fun h0 => by
            obtain ⟨c, e⟩ := H.out.pl i hiR (by rw [← HM.out]; exact h0)
            obtain ⟨ao2, cap2, q1, _, q3⟩ := (H.out.toRowsR.el i hiR).facts
            obtain ⟨b2, o2, q4, q5, _⟩ := q3 0 (by rw [← HM.out]; exact h0)
            rw [e] at q1
            simp only [Value.slice.injEq] at q1
            rw [← q1.1] at q4
            simp only [Option.some.injEq, Addr.mk.injEq] at q4
            rw [q4.1]; exact q5
          rw [← HM.out] at HVe
          go_wp2
          go_loopw [6] (fun k ws => ∃ q : Nat, q ≤ m ∧ k = .int .i64 q ∧ RwS w ws D (some ⟨g, o, none⟩) R B V (i + 1) ∧ (∀ p, p < m → ∃ z, ws.cell? ⟨B i, p, none⟩ = some (.int .i64 z) ∧ ws.frozen? ⟨B i, p, none⟩ = false)) (fun k _ => m - (intOf k).toNat)
          case atStart => exact ⟨0, Nat.zero_le _, rfl, ⟨HS1.out.fx, HS1.out.hd, fun j hj => HS1.out.el j (by omega), fun j hj => HS1.out.ce j (by omega)⟩, fun p hp => by
            have := HS1.out.ce i (Nat.le_refl _) hiR (by rw [← HM.out]; omega) p (by rw [← HM.out]; exact hp)
            rw [Nat.zero_add] at this
            exact ⟨_, this⟩⟩
          case round =>
            obtain ⟨q, hqm, rfl, hs, hcs⟩ := hrel
            have HS2 := Lib.hid hs
            have HCs := Lib.hid hcs
            obtain ⟨g2, o2, e2, hcell⟩ := hs.hd i hiR
            simp only [Option.some.injEq, Addr.mk.injEq] at e2
            obtain ⟨rfl, rfl, -⟩ := e2
            rw [← HX.out, HVe.out] at hcell
            clear hs hcs
            by_cases hq : q < m
            · obtain ⟨c, e⟩ := HO.out (by rw [← HM.out]; omega)
              rw [← HX.out, HVe.out] at e
              simp only [Value.slice.injEq] at e
              obtain ⟨rfl, -, -⟩ := e
              obtain ⟨z, hz, hzf⟩ := HCs.out q hq
              have q0 : (0 : Int) ≤ (q : Int) := by omega
              have q1 : (q : Int) < (m : Int) := by omega
              have HW : Hid (RwS w (wr.setCell ⟨B i, q, none⟩ (.int .i64 77)) D (some ⟨g, o, none⟩) R B V (i + 1) ∧ ∀ p, p < m → ∃ z, (wr.setCell ⟨B i, q, none⟩ (.int .i64 77)).cell? ⟨B i, p, none⟩ = some (.int .i64 z) ∧ (wr.setCell ⟨B i, q, none⟩ (.int .i64 77)).frozen? ⟨B i, p, none⟩ = false) := Lib.hid (by
                have hne : ∀ j, i + 1 ≤ j → j < R.length → 0 < (rg R j).length → B i ≠ B j := fun j hj hl h0 => H.out.inj i j hiR hl (by omega) (by rw [← HM.out]; omega) h0
                have hfx : Fx (fun x => x = B i) wr (wr.setCell ⟨B i, q, none⟩ (.int .i64 77)) := Fx.put _ _ _ _
                have hce : ∀ j, i + 1 ≤ j → j < R.length → 0 < (rg R j).length → CellsI (wr.setCell ⟨B i, q, none⟩ (.int .i64 77)) (B j) 0 (rg R j) := fun j hj hl h0 k hk => hfx.cellF (HS2.out.ce j hj hl h0 k hk).1 (HS2.out.ce j hj hl h0 k hk).2 (fun e => hne j hj hl h0 (by have e : B j = B i := e; exact e.symm))
                refine ⟨⟨HS2.out.fx.setCell (.inr (HDx.out (by omega))) _, fun j hj => ?_, fun j hj hl => (HS2.out.el j hj hl).recell (H.out.pl j hl) (hce j hj hl), hce⟩, fun p hp => ?_⟩
                · obtain ⟨g3, o3, e3, c3⟩ := HS2.out.hd j hj
                  refine ⟨g3, o3, e3, ?_⟩
                  rw [World.cell?_setCell_other _ _ _ _ ?_]
                  · exact c3
                  · intro e4
                    obtain ⟨a4, c4, v4, _⟩ := (H.out.toRowsR.el j hj).facts
                    rw [← e4, hz, v4] at c3
                    cases c3
                · obtain ⟨z2, hz2, hf2⟩ := HCs.out p hp
                  by_cases e : p = q
                  · rw [e]
                    exact ⟨77, World.cell?_setCell_same _ _ _ hz, by simpa using hzf⟩
                  · exact ⟨z2, by rw [World.cell?_setCell_other _ _ _ _ (by intro e2; injection e2 with e3 e4; exact e e4.symm)]; exact hz2, by simpa using hf2⟩)
              go_wp2
              go_roundw
              case rel => exact ⟨q + 1, by omega, by go_num, HW.out.1, HW.out.2⟩
              case measure => simp [intOf]; omega
            · obtain rfl : q = m := by omega
              go_wp2
              go_roundw
              case rel => exact ⟨i + 1, by omega, by go_num, HQ2.out, HS2.out⟩
              case measure => simp [intOf]; omega
      · have HB : Hid (decide (R = Q) = true) := Lib.hid (decide_eq_true (rg_ext HL.out fun j hj => HQ.out j (by have := HN.out; omega)))
        obtain rfl : i = n := by omega
        go_wp2
        go_ret
        exact ⟨by rw [HB.out]; rfl, HS.out.fx⟩
  · have hn : ((R.length : Int) != (Q.length : Int)) = true := by simp; omega
    have HB : Hid (decide (R = Q) = false) := Lib.hid (decide_eq_false fun e => hl (by rw [e]))
    clear hl
    go_enter Tryz.func14, Tryz.ntmps14
    go_wp2
    go_ret
    exact ⟨by rw [HB.out]; rfl, Fx.refl _ _⟩
#print axioms rows_any
end Go.Proofs.YtdoplaijgocboaaGreat

namespace Go.Proofs.YtdoplaijgocboaaGreat
open Go.RowKit
set_option linter.unusedVariables false

/-- a graph, and the reference's, in a variable: they stay -/
structure GS (w0 ws : World) (rb gb N : Nat) (L : List Ed) (ro : Option Addr) (rc : Nat) (D R : Nat → Prop) : Prop where
  fx : Fx No w0 ws
  g : GraphV ws D gb N L
  row : EdsV ws R (.slice ro L.length rc) L
  r0 : ws.cell? ⟨rb, 0, none⟩ = some (.int .i64 (N : Nat))
  r1 : ws.cell? ⟨rb, 1, none⟩ = some (.slice ro L.length rc)
theorem GS.no {w0 ws w' : World} {rb gb N : Nat} {L : List Ed} {ro : Option Addr} {rc : Nat} {D R : Nat → Prop} (h : GS w0 ws rb gb N L ro rc D R) (hf : Fx No ws w') : GS w0 w' rb gb N L ro rc D R :=
  ⟨h.fx.trans hf, h.g.no hf, RowV.no h.row hf, hf.cell' h.r0 (fun q => q), hf.cell' h.r1 (fun q => q)⟩
theorem GS.start {w w1 : World} {gb N : Nat} {L : List Ed} {ro : Option Addr} {rc : Nat} {D R : Nat → Prop} (h : Drw w w1 gb N L (.slice ro L.length rc) D R) :
    GS w (w1.alloc (.cells #[.int .i64 (N : Nat), .slice ro L.length rc] 28)) w1.heap.size gb N L ro rc D R :=
  ⟨h.fx.alloc _, h.g.no ((Fx.refl No _).alloc _), RowV.no h.row ((Fx.refl No _).alloc _), by simp, by simp⟩
theorem NdL.of {w : World} {D : Nat → Prop} {b N : Nat} {L : List Ed} (h : GraphV w D b N L) : ∀ x ∈ L, (0 ≤ x.f ∧ x.f < (N : Int)) ∧ 0 ≤ x.t ∧ x.t < (N : Int) := h.nodes
theorem IntsV.ofCells {w : World} {D : Nat → Prop} {B c : Nat} {l : List Int} (h : CellsI w B 0 l) (hl : l.length ≤ c) (hc : c ≤ maxLen) (hD : D B) : IntsV w D (.slice (some ⟨B, 0, none⟩) l.length c) l := by
  refine ⟨some ⟨B, 0, none⟩, c, rfl, hl, hc, by simp [ints], by simp, .inr ⟨B, 0, rfl, hD, fun k hk => ?_⟩⟩
  have hk' : k < l.length := by simpa [ints] using hk
  rw [(h k hk').1]
  simp [ints, gi, hk']
/-- components, as rows that may be written -/
theorem PtsV.rowsW {base : Nat} {w : World} {v : Value} {P : List (List Nat)} {E : Nat → Nat → Prop} (h : PtsV base w v P) (hp : PtOk E P) : ∃ B V, RowsW w (Iv base w.heap.size) v (P.map natsI) B V := by
  obtain ⟨B, C, hs, hB⟩ := h
  have hg : ∀ i, i < P.length → rg (P.map natsI) i = natsI (P.getD i []) := fun i hi => by simp [rg, List.getD, hi]
  have hlen : (P.map natsI).length = P.length := List.length_map _
  refine ⟨B, fun i => .slice (some ⟨B i, 0, none⟩) (P.getD i []).length (C i), ⟨?_, fun i hi => ?_⟩, fun i hi h0 => ?_, fun i hi h0 => ?_, fun i j hi hj hne h1 h2 e => ?_⟩
  · rw [hlen]; exact hs.bound
  · rw [hlen] at hi
    obtain ⟨b1, b2, b3, b4, b5⟩ := hB i hi
    rw [hg i hi]
    have := IntsV.ofCells (c := C i) b3 (by rw [natsI_len]; exact b4) b5 (D := Iv base w.heap.size) ⟨b1, b2⟩
    rw [natsI_len] at this
    exact this
  · rw [hlen] at hi
    exact ⟨C i, by rw [hg i hi, natsI_len]⟩
  · rw [hlen] at hi
    rw [hg i hi]
    exact (hB i hi).2.2.1
  · rw [hlen] at hi hj
    rw [hg i hi, natsI_len] at h1
    rw [hg j hj, natsI_len] at h2
    have c1 := ((hB i hi).2.2.1 0 (by rw [natsI_len]; exact h1)).1
    have c2 := ((hB j hj).2.2.1 0 (by rw [natsI_len]; exact h2)).1
    rw [← e, c1] at c2
    rw [gi_natsI h1, gi_natsI h2] at c2
    simp only [Option.some.injEq, Value.int.injEq, true_and] at c2
    have e2 : (P.getD i [])[0] = (P.getD j [])[0] := by omega
    have m1 : (P.getD i [])[0] ∈ P.getD i [] := List.getElem_mem _
    have m2 : (P.getD i [])[0] ∈ P.getD j [] := by rw [e2]; exact List.getElem_mem _
    have gi' : P.getD i [] = P[i] := by simp [List.getD, hi]
    have gj' : P.getD j [] = P[j] := by simp [List.getD, hj]
    have hd := List.pairwise_iff_getElem.1 hp.dj
    rcases Nat.lt_or_gt_of_ne hne with q | q
    · exact hd i j hi hj q _ (by rw [← gi']; exact m1) (by rw [← gj']; exact m2)
    · exact hd j i hj hi q _ (by rw [← gj']; exact m2) (by rw [← gi']; exact m1)
section
variable {w : World} {N gb : Nat} {L : List Ed} {D : Nat → Prop} {sm : Nat → Nat → Bool}
/-- Parts, as rows that may be written -/
theorem partsW_any (hg : GraphV w D gb N L) (h : Eqv sm N) (hsm : ∀ i j, i < N → j < N → (sm i j = true ↔ Sm (EG L) i j)) :
    Calls Tryz.prog 15 #[.pointer (some ⟨gb, 0, none⟩)] w fun e w' => ∃ (pv : Value) (B : Nat → Nat) (V : Nat → Value), e = .returned pv ∧ Fx No w w' ∧ RowsW w' (Iv w.heap.size w'.heap.size) pv ((canon sm N).map natsI) B V := by
  refine (parts_any hg).mono ?_
  rintro e w1 ⟨pv, P, rfl, hf, hv, hP, hC, hS⟩
  obtain rfl := parts_canon h hsm hP hC hS
  obtain ⟨B, V, hW⟩ := hv.rowsW hP
  exact ⟨pv, B, V, rfl, hf, hW⟩
/-- Closed, as one row -/
theorem closedU_any (hg : GraphV w D gb N L) (h : Eqv sm N) (hsm : ∀ i j, i < N → j < N → (sm i j = true ↔ Sm (EG L) i j)) (l : List Int) (hl : Up1 l ((L.filter fun x => !outE2 (cno sm) x).map (·.f))) :
    Calls Tryz.prog 17 #[.pointer (some ⟨gb, 0, none⟩)] w fun e w' => ∃ v', e = .returned v' ∧ Fx No w w' ∧ w'.ownsRow w.heap.size 3 1 v' l.length (ints l) := by
  refine (sclosed_any hg h hsm).mono ?_
  rintro e w1 ⟨v', l', rfl, hf, ho, hu⟩
  obtain rfl : l' = l := asc_extI hu.asc hl.asc fun x => by rw [hu.mem, hl.mem]
  exact ⟨v', rfl, hf, ho⟩
end
#print axioms partsW_any
#print axioms closedU_any
end Go.Proofs.YtdoplaijgocboaaGreat
