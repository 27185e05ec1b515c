/- Contracts: the reference's all and All. -/
import Derived.Test.YtddpdjbgidmdlaaClosed
namespace Go.Proofs.Ytddpdjbgidmdlaa
open Go.RowKit
set_option linter.unusedVariables false

/-- append of nothing -/
theorem wpList_append_nil {P : Program} {w : World} {ops : Array Oper} {rest : List Oper} {o : Oper} {a : Act} {Q : Exit → Act → World → Prop} (hgd : o.guard = none) (s x : Operand) (t : TypeId)
    (ho : o.op = .call { callee := .builtin .append, args := #[s, x], argTypes := #[t, t] })
    (base : Nat) (e : TypeId) {i : TypeInfo} {size : Nat} (ht : P.underlying t = some (.slice e)) (hi : P.info? e = some i) (hsize : i.size = size)
    {v : Value} {n : Nat} {xs : List Value} (hs : a.eval s = v) (hown : w.ownsRow base e size v n xs) (hx : a.eval x = .slice none 0 0)
    (h : wpList P ops Q rest (a.put o.dst v) w) : wpList P ops Q (o :: rest) a w := by
  refine wpList_plain hgd fun K hK => ?_
  have hrun := run_append_owned_none (P := P) w base t o.type e i size ht hi v n xs hown
  unfold Oper.wp
  simp [execOp, ho, resolve, invoke, builtin, hs, hx, hrun, Result.andThen]
  exact hK _ _ h
/-- values that read as rows -/
def RowsOf (w : World) (D : Nat → Prop) : List Value → List (List Int) → Prop
  | [], [] => True
  | v :: vs, r :: rs => IntsV w D v r ∧ RowsOf w D vs rs
  | _, _ => False
theorem RowsOf.length {w : World} {D : Nat → Prop} : ∀ {vs : List Value} {rs : List (List Int)}, RowsOf w D vs rs → vs.length = rs.length
  | [], [], _ => rfl
  | v :: vs, r :: rs, h => by rw [List.length_cons, List.length_cons, RowsOf.length h.2]
theorem RowsOf.append {w : World} {D : Nat → Prop} : ∀ {vs us : List Value} {rs ss : List (List Int)}, RowsOf w D vs rs → RowsOf w D us ss → RowsOf w D (vs ++ us) (rs ++ ss)
  | [], _, [], _, _, h => h
  | v :: vs, _, r :: rs, _, h, h' => ⟨h.1, RowsOf.append h.2 h'⟩
theorem RowsOf.fx {w w' : World} {S D E : Nat → Prop} (hf : Fx S w w') (hd : ∀ b, D b → ¬ S b) (hm : ∀ b, D b → E b) : ∀ {vs : List Value} {rs : List (List Int)}, RowsOf w D vs rs → RowsOf w' E vs rs
  | [], [], _ => trivial
  | v :: vs, r :: rs, h => ⟨(h.1.keep hf hd).mono hm, RowsOf.fx hf hd hm h.2⟩
theorem RowsOf.at {w : World} {D : Nat → Prop} : ∀ {vs : List Value} {rs : List (List Int)} {k : Nat}, RowsOf w D vs rs → k < rs.length → ∃ v, vs[k]? = some v ∧ IntsV w D v (rs.getD k [])
  | [], [], _, _, hk => by simp at hk
  | [], _ :: _, _, h, _ => h.elim
  | _ :: _, [], _, h, _ => h.elim
  | v :: vs, r :: rs, 0, h, _ => ⟨v, rfl, h.1⟩
  | v :: vs, r :: rs, k + 1, h, hk => by
    obtain ⟨u, h1, h2⟩ := RowsOf.at (k := k) h.2 (by simpa using hk)
    exact ⟨u, by simpa using h1, by simpa using h2⟩
theorem RowsOf.one {w : World} {D : Nat → Prop} : ∀ {vs : List Value} {rs : List (List Int)}, RowsOf w D vs rs → One vs
  | [], [], _ => fun u hu => by simp at hu
  | v :: vs, r :: rs, h => fun u hu => by
    rcases List.mem_cons.1 hu with e | e
    · subst e
      obtain ⟨ao, c, rfl, _⟩ := h.1.facts
      rfl
    · exact RowsOf.one h.2 u e
/-- the rows of the first numbers -/
def allTo (ps : List (Int × Int)) (n m : Nat) (row : List Int) (j : Nat) : List (List Int) := ((List.range j).filter fun i : Nat => decide (placeI row (i : Int) < 0)).flatMap fun i : Nat => allL ps n m (row ++ [(i : Int)])
theorem allTo_succ (ps : List (Int × Int)) (n m : Nat) (row : List Int) (j : Nat) : allTo ps n m row (j + 1) = allTo ps n m row j ++ if placeI row (j : Int) < 0 then allL ps n m (row ++ [(j : Int)]) else [] := by
  unfold allTo
  rw [List.range_succ, List.filter_append, List.flatMap_append]
  congr 1
  by_cases h : placeI row (j : Int) < 0
  · rw [if_pos h, List.filter_cons, if_pos (decide_eq_true h)]; simp
  · rw [if_neg h, List.filter_cons, if_neg (by simpa using h)]; simp
theorem allL_succ (ps : List (Int × Int)) (n m : Nat) (row : List Int) : allL ps n (m + 1) row = allTo ps n m row n := rfl
theorem allTo_len {ps : List (Int × Int)} {n m : Nat} {row : List Int} {c : Nat} (h : ∀ r, (allL ps n m r).length ≤ c) : ∀ j, (allTo ps n m row j).length ≤ j * c
  | 0 => by simp [allTo]
  | j + 1 => by
    rw [allTo_succ, List.length_append, Nat.succ_mul]
    have h1 := allTo_len (row := row) h j
    have h2 := h (row ++ [(j : Int)])
    split
    · omega
    · simp only [List.length_nil]; omega
theorem allL_len (ps : List (Int × Int)) (n : Nat) : ∀ m row, (allL ps n m row).length ≤ n ^ m
  | 0, row => by
    show (if respB row ps then [row] else []).length ≤ 1
    split <;> simp
  | m + 1, row => by
    rw [allL_succ, Nat.pow_succ, Nat.mul_comm]
    exact allTo_len (fun r => allL_len ps n m r) n
theorem pow_bound {n m : Nat} (hn : n ≤ 6) (hm : m ≤ 6) : n ^ m ≤ 46656 := Nat.le_trans (Nat.pow_le_pow_left hn m) (Nat.pow_le_pow_right (n := 6) (i := m) (j := 6) (by omega) hm)
/-- what all tells -/
def AllR (ps : List (Int × Int)) (n m : Nat) (row : List Int) (D : Nat → Prop) (w : World) (e : Ending) (w' : World) : Prop :=
  ∃ v vals, e = .returned v ∧ Fx No w w' ∧ (vals = [] → v = .slice none 0 0) ∧ w'.ownsRow w.heap.size 29 1 v vals.length vals ∧ RowsOf w' (fun b => (D b ∨ w.heap.size ≤ b) ∧ b < w'.heap.size ∧ v.ownBlock ≠ some b) vals (allL ps n m row)
set_option maxRecDepth 100000 in
set_option maxHeartbeats 4000000 in
theorem all_any {E : Nat → Prop} {u : Value} {ps : List (Int × Int)} {N : Nat} (hN : N ≤ 6) : ∀ (m : Nat) (w : World) (D : Nat → Prop) (v : Value) (r : List Int), IntsV w D v r → PairsV w E u ps → r.length + m = N →
    Calls Try.prog 45 #[v, .int .i64 (N : Int), u] w (AllR ps N m r D w) := by
  intro m
  induction m with
  | zero =>
    intro w D v r h h' hm
    have HP := Lib.hid h'
    obtain ⟨ao, cap, rfl, hl, _⟩ := h.facts
    have H := Lib.hid h.bound
    have hrN : r.length = N := by omega
    rw [hrN] at H ⊢
    clear h h'
    have HrN := Lib.hid hrN
    clear hrN hm
    go_enter Try.func45, Try.ntmps45
    go_wp2_with fail
    refine (refRespects_any H.out HP.out (by rw [HrN.out]; omega)).mono ?_
    rintro e w1 ⟨rfl, hf⟩
    have HF1 := Lib.hid hf
    obtain ⟨R, hR⟩ : ∃ R, R = respB r ps := ⟨_, rfl⟩
    rw [← hR]
    have HR := Lib.hid hR
    clear hf hR
    rcases Bool.eq_false_or_eq_true R with rfl | rfl
    · go_wp2
      go_ret
      have hz := HF1.out.size
      refine ⟨_, [.slice ao N cap], rfl, HF1.out.alloc _, fun h => (by cases h), ?_, ?_⟩
      · exact World.ownsRow_lit w1 #[.slice ao N cap] 1 hz (by unfold maxLen; omega) rfl
      · have e1 : allL ps N 0 r = [r] := if_pos HR.out.symm
        rw [e1]
        refine ⟨(H.out.no (HF1.out.alloc _)).mono fun b hb => ⟨.inl hb.1, by simp only [World.size_alloc]; omega, by simp [Value.ownBlock]; omega⟩, trivial⟩
    · go_wp2
      go_ret
      refine ⟨_, [], rfl, HF1.out, fun _ => rfl, World.ownsRow_nil _ _ _ _, ?_⟩
      have e1 : allL ps N 0 r = [] := if_neg (by rw [← HR.out]; simp)
      rw [e1]
      trivial
  | succ m ih =>
    intro w D v r h h' hm
    obtain ⟨ii, hi, hz, hs, hb⟩ := info_parts info_int
    obtain ⟨ir, hir, hzr, hsr, hbr⟩ := info_parts info_ints
    have HP := Lib.hid h'
    obtain ⟨ao, cap, rfl, hl, _⟩ := h.facts
    have H := Lib.hid h
    obtain ⟨len, hlen⟩ : ∃ k, k = r.length := ⟨_, rfl⟩
    rw [← hlen] at hl H hm ⊢
    have HLen := Lib.hid hlen
    have hne : ((len : Int) == (N : Int)) = false := by simp; omega
    have HSl : Hid (SlV w D (.slice ao len cap) 1 len (ints r)) := by
      have := H.out
      unfold IntsV at this
      rw [← HLen.out] at this
      exact this
    have HOne := Lib.hid (ints_one r)
    have IH := Lib.hid ih
    clear h h' hlen ih
    have hlen6 : len ≤ 6 := by omega
    go_enter Try.func45, Try.ntmps45
    go_wp2
    go_loopw [7, 8] (fun o i ws => ∃ (j : Nat) (vals : List Value), i = .int .i64 j ∧ j ≤ N ∧ Fx No w ws ∧ (vals = [] → o = .slice none 0 0) ∧ ws.ownsRow w.heap.size 29 1 o vals.length vals ∧ RowsOf ws (fun b => w.heap.size ≤ b ∧ b < ws.heap.size ∧ o.ownBlock ≠ some b) vals (allTo ps N m r j)) (fun _ i _ => N - (intOf i).toNat)
    case atStart => exact ⟨0, [], rfl, Nat.zero_le _, Fx.refl _ _, fun _ => rfl, World.ownsRow_nil _ _ _ _, trivial⟩
    case round =>
      obtain ⟨j, vals, rfl, hj, hf, hnil, ho, hR⟩ := hrel
      have HF := Lib.hid hf
      have HNil := Lib.hid hnil
      have HO := Lib.hid ho
      have HR := Lib.hid hR
      have hwz := hf.size
      clear hf hnil ho hR
      by_cases hlt : j < N
      · have hst := allTo_succ ps N m r j
        by_cases hpl : placeI r (j : Int) < 0
        · rw [if_pos hpl] at hst
          have d1 : decide (placeI r (j : Int) < 0) = true := decide_eq_true hpl
          have HSt := Lib.hid hst
          clear hst hpl
          go_wp2_with fail
          refine (refPlace_any (IntsV.no (l := r) H.out HF.out) (j : Int)).mono ?_
          rintro e w0 ⟨rfl, rfl⟩
          go_wp2_with (at_builtin; refine wpList_append_sl rfl _ _ 29 rfl wr.heap.size 3 Try.underlying29 hi hz hs hb rfl (by decide) rfl (World.ownsRow_nil _ _ _ _) rfl (HSl.out.keep HF.out No.disj) HOne.out (by unfold maxLen; omega) (by omega) (by simp) ?_)
          intro v1 w1 hown1 hf1 hnil1
          have hfa : Fx No wr w1 := (Fx.refl No wr).trans' hf1 (by simp [Value.ownBlock])
          have HFa := Lib.hid hfa
          have HN1 : Hid (w1.ownsRow wr.heap.size 3 1 v1 len (ints r)) := by
            show World.ownsRow _ _ _ _ _ _ _
            simpa using hown1
          have hz1 := hfa.size
          clear hown1 hf1 hnil1 hfa
          go_wp2_with (at_builtin; refine wpList_append_sl rfl _ _ 29 rfl wr.heap.size 3 Try.underlying29 hi hz hs hb rfl (by decide) rfl (World.ownsRow.alloc HN1.out _) rfl (SlV.lit _ 3 #[.int .i64 _] 1 1 rfl (by unfold maxLen; omega)) (ints_one [_]) (by unfold maxLen; omega) (by omega) (by simp; omega) ?_)
          intro v2 w2 hown2 hf2 hnil2
          have HN2 : Hid (OwnI w2 wr.heap.size v2 (r ++ [(j : Int)])) := by
            show OwnI _ _ _ _
            unfold OwnI
            rw [List.length_append, ← HLen.out]
            simpa [ints] using hown2
          have hfb : Fx (fun b => v1.ownBlock = some b) w1 w2 := ((Fx.refl _ w1).alloc _).trans hf2
          have HFb : Hid (Fx No wr w2) := HFa.out.trans' hfb fun g e hl => by have := (World.ownsRow.lt HN1.out g e).1; omega
          have HF2 : Hid (Fx No w w2) := HF.out.trans HFb.out
          clear hown2 hf2 hnil2 hfb
          go_wp2_with fail
          refine (IH.out _ _ _ _ (OwnI.own HN2.out) (HP.out.no HF2.out) (by rw [List.length_append, List.length_singleton, ← HLen.out]; omega)).mono ?_
          rintro e w3 ⟨v3, vals3, rfl, hf3, hn3, ho3, hR3⟩
          have HFc : Hid (Fx No wr w3) := HFb.out.trans hf3
          have HF3 : Hid (Fx No w w3) := HF2.out.trans hf3
          have hz2 := HFb.out.size
          have hz3 := HFc.out.size
          have HO3 : Hid (w3.ownsRow w.heap.size 29 1 u7 vals.length vals) := ownsRow_fx HO.out HFc.out fun _ _ h => h
          have hRk : RowsOf w3 (fun b => w.heap.size ≤ b ∧ b < w3.heap.size ∧ u7.ownBlock ≠ some b) vals (allTo ps N m r j) := RowsOf.fx HFc.out (fun _ _ h => h) (fun b hb => ⟨hb.1, by omega, hb.2.2⟩) HR.out
          have hRn : RowsOf w3 (fun b => w.heap.size ≤ b ∧ b < w3.heap.size ∧ u7.ownBlock ≠ some b) vals3 (allL ps N m (r ++ [(j : Int)])) := RowsOf.fx (Fx.refl No _) (fun _ _ h => h) (fun b hb => by
            have h1 : wr.heap.size ≤ b := by
              rcases hb.1 with e | e
              · exact (OwnI.lt HN2.out e).1
              · omega
            refine ⟨by omega, hb.2.1, fun e => ?_⟩
            have := (World.ownsRow.lt HO.out b e).2
            omega) hR3
          have HAll := Lib.hid (RowsOf.append hRk hRn)
          have hl1 : vals.length ≤ 6 * 46656 := by
            rw [hRk.length]
            refine Nat.le_trans (allTo_len (fun r => allL_len ps N m r) j) ?_
            exact Nat.mul_le_mul (by omega) (pow_bound hN (by omega))
          have hl2 : vals3.length ≤ 46656 := by
            rw [hRn.length]
            exact Nat.le_trans (allL_len ps N m _) (pow_bound hN (by omega))
          have HOne3 := Lib.hid hRn.one
          have HS3 := Lib.hid (SlV.ofOwns ho3)
          clear hRk hRn hR3 hf3 ho3
          cases vals3 with
          | nil =>
            obtain rfl := hn3 rfl
            clear hn3 hl1 hl2
            go_wp2_with (at_builtin; refine wpList_append_nil rfl _ _ 48 rfl w.heap.size 29 Try.underlying48 hir hsr rfl HO3.out rfl ?_)
            go_wp2
            go_roundw
            case rel => exact ⟨j + 1, vals, by go_num, by omega, HF3.out, HNil.out, HO3.out, by rw [HSt.out]; simpa using HAll.out⟩
            case measure => simp [intOf]; omega
          | cons x vals3 =>
            have hpos : 0 < (x :: vals3).length := by simp
            obtain ⟨vs, hvs⟩ : ∃ vs, vs = x :: vals3 := ⟨_, rfl⟩
            rw [← hvs] at hl2 HOne3 HS3 HAll hpos
            clear hn3 hvs
            go_wp2_with (at_builtin; refine wpList_append_kept rfl _ _ 48 rfl w.heap.size 29 Try.underlying48 hir hzr hsr hbr rfl (by decide) rfl HO3.out rfl HS3.out HOne3.out hpos (by unfold maxLen; omega) (by omega) (by omega) ?_)
            intro v4 w4 ho4 hf4 hk4 hb4
            have HF4 : Hid (Fx No w w4) := HF3.out.trans' hf4 fun g e hl => by have := (World.ownsRow.lt HO3.out g e).1; omega
            have hz4 := hf4.size
            have HR4 : Hid (RowsOf w4 (fun b => w.heap.size ≤ b ∧ b < w4.heap.size ∧ v4.ownBlock ≠ some b) (vals ++ vs) (allTo ps N m r (j + 1))) := by
              rw [HSt.out]
              refine RowsOf.fx hf4 (fun b hb => hb.2.2) (fun b hb => ⟨hb.1, by omega, fun e => ?_⟩) HAll.out
              rcases hb4 b e with h | h
              · exact hb.2.2 h
              · omega
            have HO4 : Hid (w4.ownsRow w.heap.size 29 1 v4 (vals ++ vs).length (vals ++ vs)) := by rw [List.length_append]; exact ho4
            clear ho4 hf4 hk4 hb4
            go_wp2
            go_roundw
            case rel => exact ⟨j + 1, vals ++ vs, by go_num, by omega, HF4.out, fun h => (by have := congrArg List.length h; rw [List.length_append, List.length_nil] at this; omega), HO4.out, HR4.out⟩
            case measure => simp [intOf]; omega
        · rw [if_neg hpl, List.append_nil] at hst
          have d1 : decide (placeI r (j : Int) < 0) = false := decide_eq_false hpl
          have HSt := Lib.hid hst
          clear hst hpl
          go_wp2_with fail
          refine (refPlace_any (IntsV.no (l := r) H.out HF.out) (j : Int)).mono ?_
          rintro e w0 ⟨rfl, rfl⟩
          go_wp2
          go_roundw
          case rel => exact ⟨j + 1, vals, by go_num, by omega, HF.out, HNil.out, HO.out, by rw [HSt.out]; exact HR.out⟩
          case measure => simp [intOf]; omega
      · obtain rfl : j = N := by omega
        go_wp2
        go_ret
        exact ⟨_, vals, rfl, HF.out, HNil.out, HO.out, RowsOf.fx (Fx.refl No _) (fun _ _ h => h) (fun b hb => ⟨.inr hb.1, hb.2⟩) HR.out⟩
#print axioms all_any
end Go.Proofs.Ytddpdjbgidmdlaa
