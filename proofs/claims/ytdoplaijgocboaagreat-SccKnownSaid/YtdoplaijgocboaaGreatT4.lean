/- No graph: what the functions answer; a long row and a long round. | The law SccKnown. -/
import Derived.Test.YtdoplaijgocboaaGreatS6
import Derived.Test.YtdoplaijgocboaaGreatS7
import Derived.Test.YtdoplaijgocboaaGreatS8
import Derived.Test.YtdoplaijgocboaaGreatT3

namespace Go.Proofs.YtdoplaijgocboaaGreat
open Go.RowKit
set_option linter.unusedVariables false

theorem nilOf_any (w : World) : Calls Tryz.prog 16 #[.pointer none] w fun e w' => e = .returned (.slice none 0 0) ∧ Fx No w w' := by
  go_enter Tryz.func16, Tryz.ntmps16
  go_wp2
  go_ret
  exact ⟨rfl, Fx.refl _ _⟩
theorem nilParts_any (w : World) : Calls Tryz.prog 15 #[.pointer none] w fun e w' => e = .returned (.slice none 0 0) ∧ Fx No w w' := by
  go_enter Tryz.func15, Tryz.ntmps15
  go_wp2
  go_ret
  exact ⟨rfl, Fx.refl _ _⟩
theorem nilWithin_any (w : World) : Calls Tryz.prog 12 #[.pointer none] w fun e w' => e = .returned (.slice none 0 0) ∧ Fx No w w' := by
  go_enter Tryz.func12, Tryz.ntmps12
  go_wp2
  go_ret
  exact ⟨rfl, Fx.refl _ _⟩
theorem nilShrink_any (w : World) : Calls Tryz.prog 13 #[.pointer none] w fun e w' => e = .returned (.pointer none) ∧ Fx No w w' := by
  go_enter Tryz.func13, Tryz.ntmps13
  go_wp2
  go_ret
  exact ⟨rfl, Fx.refl _ _⟩
theorem nilClosed_any (w : World) : Calls Tryz.prog 17 #[.pointer none] w fun e w' => e = .returned (.slice none 0 0) ∧ Fx No w w' := by
  go_enter Tryz.func17, Tryz.ntmps17
  go_wp2_with fail
  refine (nilWithin_any w).mono ?_
  rintro e w1 ⟨rfl, hf⟩
  have HF := Lib.hid hf
  clear hf
  go_wp2
  go_loopw [2, 8] (fun l i ws => l = .slice none 0 0 ∧ i = .int .i64 0 ∧ Fx No w ws) (fun _ i _ => 0)
  case atStart => exact ⟨rfl, rfl, HF.out⟩
  case round =>
    obtain ⟨rfl, rfl, hf⟩ := hrel
    have HF := Lib.hid hf
    clear hf
    go_wp2
    go_ret
    exact ⟨rfl, HF.out⟩
theorem closJnil_any {W : World} {bo : Nat} {y : Value} (h1 : W.cell? ⟨bo, 0, none⟩ = some (.slice none 0 0)) (z : Int) :
    Calls Tryz.prog 46 #[.int .i64 z, .pointer (some ⟨bo, 0, none⟩), y] W fun r w' => r = .returned (.bool true) ∧ Fx No W w' := by
  by_cases r1 : z < 0
  · have d1 : decide (z < 0) = true := decide_eq_true r1
    go_enter Tryz.func46, Tryz.ntmps46
    go_wp2
    go_quiet (fail)
    go_wp2
    go_ret
    exact ⟨rfl, (Fx.refl No _).drewN _⟩
  · have d1 : decide (z < 0) = false := decide_eq_false r1
    have d2 : decide (0 ≤ z) = true := decide_eq_true (by omega)
    go_enter Tryz.func46, Tryz.ntmps46
    go_wp2
    go_quiet (fail)
    go_wp2
    go_ret
    exact ⟨rfl, (Fx.refl No _).drewN _⟩
set_option maxRecDepth 100000 in
theorem nilJoined_any {w : World} {D : Nat → Prop} {v : Value} {xs : List Int} (h : IntsV w D v xs) : Calls Tryz.prog 24 #[.pointer none, v] w fun e w' => e = .returned (.bool (!xs.any fun _ => true)) ∧ Fx No w w' := by
  have HX := Lib.hid h
  obtain ⟨ao, cap, rfl, _⟩ := IntsV.facts h
  obtain ⟨t, ht⟩ : ∃ t, t = xs.any fun _ => true := ⟨_, rfl⟩
  rw [← ht]
  have HT := Lib.hid ht
  clear h ht
  go_enter Tryz.func24, Tryz.ntmps24
  go_upto_region 2 with (go_at_call 16; refine (nilOf_any _).mono ?_; rintro e w2 ⟨rfl, hf2⟩; have HF0 := Lib.hid (((Fx.refl No w).alloc (.cells #[.slice ao xs.length cap] 23)).trans hf2); have HBi := Lib.hid (hf2.cell' (new_cells (W := w) (cs := #[.slice ao xs.length cap]) (t := 23) (b := w.heap.size) (i := 0) rfl rfl).1 (fun q => q)); clear hf2)
  refine wp_hold (fun W => Fx No w W ∧ W.cell? ⟨w2.heap.size, 0, none⟩ = some (.slice none 0 0) ∧ W.cell? ⟨w.heap.size, 0, none⟩ = some (.slice ao xs.length cap)) ⟨HF0.out.trans ((Fx.refl No w2).alloc _), (new_cells rfl rfl).1, ((Fx.refl No w2).alloc _).cell' HBi.out (fun q => q)⟩ ?_
  rintro w3 ⟨hf3, ho3, hi3⟩
  have HF3 := Lib.hid hf3
  have CC : Hid (Calls Tryz.prog 45 #[.slice ao xs.length cap, .func (.func 46) #[] #[.pointer (some ⟨w2.heap.size, 0, none⟩), .pointer (some ⟨w.heap.size, 0, none⟩)]] w3 fun r w' => r = .returned (.bool t) ∧ Fx No w3 w') := Lib.hid (by
    rw [HT.out]
    exact containsFuncJ_any (IntsV.keep HX.out hf3 No.disj) fun W hW k hk hpr => closJnil_any (hW.cell' ho3 (fun q => q)) _)
  clear hf3
  go_wp2_with fail
  refine CC.out.mono ?_
  rintro e w4 ⟨rfl, hf4⟩
  have HF4 := Lib.hid (HF3.out.trans hf4)
  clear hf4
  go_wp2
  go_ret
  exact ⟨rfl, HF4.out⟩
/-! a long row, a long round -/
def pathE (q : Nat) : List Ed := (List.range q).map fun i => ⟨(i : Nat), ((i + 1 : Nat) : Int), 0⟩
theorem mem_pathE {q : Nat} {x : Ed} : x ∈ pathE q ↔ ∃ i, i < q ∧ x = ⟨(i : Nat), ((i + 1 : Nat) : Int), 0⟩ := by
  unfold pathE
  rw [List.mem_map]
  constructor
  · rintro ⟨i, hi, rfl⟩; exact ⟨i, List.mem_range.1 hi, rfl⟩
  · rintro ⟨i, hi, rfl⟩; exact ⟨i, List.mem_range.2 hi, rfl⟩
theorem pathE_succ (q : Nat) : pathE (q + 1) = pathE q ++ [⟨(q : Nat), ((q + 1 : Nat) : Int), 0⟩] := by simp [pathE, List.range_succ]
theorem pathE_len (q : Nat) : (pathE q).length = q := by simp [pathE]
theorem asc_snoc {L : List Ed} {x : Ed} (h : Asc L) (hx : ∀ y ∈ L, y.f < x.f) : Asc (L ++ [x]) := by
  refine List.pairwise_append.2 ⟨h, by simp, fun a ha b hb => ?_⟩
  rw [List.mem_singleton] at hb
  subst hb
  exact .inl (hx a ha)
theorem pathE_asc : ∀ q, Asc (pathE q)
  | 0 => Asc.nil
  | q + 1 => by
    rw [pathE_succ]
    refine asc_snoc (pathE_asc q) fun y hy => ?_
    obtain ⟨i, hi, rfl⟩ := mem_pathE.1 hy
    show (i : Int) < (q : Int)
    omega
theorem add_snoc {L : List Ed} {x : Ed} (h : Asc L) (hx : ∀ y ∈ L, y.f < x.f) : addL L [x] = L ++ [x] :=
  Asc.same (addL_asc h _) (asc_snoc h hx) fun y => by rw [mem_addL, List.mem_append]
theorem pathE_add (q : Nat) : addL (pathE q) [⟨(q : Nat), ((q + 1 : Nat) : Int), 0⟩] = pathE (q + 1) := by
  rw [pathE_succ]
  refine add_snoc (pathE_asc q) fun y hy => ?_
  obtain ⟨i, hi, rfl⟩ := mem_pathE.1 hy
  show (i : Int) < (q : Int)
  omega
theorem pathE_way {q a b : Nat} (h : Way (EG (pathE q)) a b) : a < b := by
  induction h with
  | one h =>
    obtain ⟨e, he, h1, h2⟩ := h
    obtain ⟨i, hi, rfl⟩ := mem_pathE.1 he
    simp only at h1 h2
    omega
  | more h _ ih =>
    obtain ⟨e, he, h1, h2⟩ := h
    obtain ⟨i, hi, rfl⟩ := mem_pathE.1 he
    simp only at h1 h2
    omega
theorem pathE_acy (q : Nat) : ∀ a, ¬ Way (EG (pathE q)) a a := fun a h => by have := pathE_way h; omega
theorem pathE_nd {q n : Nat} (h : q < n) : NdL (pathE q) n := fun x hx => by
  obtain ⟨i, hi, rfl⟩ := mem_pathE.1 hx
  simp only
  omega
/-- a row of edges, and one back -/
def ringE (q : Nat) : List Ed := pathE q ++ [⟨(q : Nat), 0, 0⟩]
theorem ringE_add (q : Nat) : addL (pathE q) [⟨(q : Nat), 0, 0⟩] = ringE q := by
  refine add_snoc (pathE_asc q) fun y hy => ?_
  obtain ⟨i, hi, rfl⟩ := mem_pathE.1 hy
  show (i : Int) < (q : Int)
  omega
theorem ringE_nd (q : Nat) : NdL (ringE q) (q + 1) := fun x hx => by
  rcases List.mem_append.1 hx with h | h
  · exact pathE_nd (by omega) x h
  · rw [List.mem_singleton] at h
    subst h
    simp only
    omega
theorem ringE_upD {q a : Nat} : ∀ d, a + d ≤ q → Rch (EG (ringE q)) a (a + d)
  | 0, _ => Rch.refl _ _
  | d + 1, h => (ringE_upD d (by omega)).trans (Rch.one ⟨⟨((a + d : Nat) : Int), ((a + d + 1 : Nat) : Int), 0⟩, List.mem_append_left _ (mem_pathE.2 ⟨a + d, by omega, rfl⟩), rfl, rfl⟩)
theorem ringE_up {q a b : Nat} (hab : a ≤ b) (hb : b ≤ q) : Rch (EG (ringE q)) a b := by
  have := ringE_upD (q := q) (a := a) (b - a) (by omega)
  rwa [show a + (b - a) = b by omega] at this
theorem ringE_rch {q a b : Nat} (ha : a ≤ q) (hb : b ≤ q) : Rch (EG (ringE q)) a b :=
  ((ringE_up ha (Nat.le_refl q)).trans (Rch.one ⟨⟨(q : Nat), 0, 0⟩, by simp [ringE], rfl, rfl⟩)).trans (ringE_up (Nat.zero_le b) hb)
section
variable {q : Nat}
theorem ringE_sm {i j : Nat} (hi : i ≤ q) (hj : j ≤ q) : smR (rL (ringE q) (q + 1)) i j = true := (rL_sm (ringE_nd q) i j (by omega) (by omega)).2 ⟨ringE_rch hi hj, ringE_rch hj hi⟩
theorem ringE_reps : ∀ m, m ≤ q + 1 → reps (smR (rL (ringE q) (q + 1))) m = if m = 0 then [] else [0]
  | 0, _ => rfl
  | m + 1, hm => by
    rw [reps_succ, ringE_reps m (by omega)]
    by_cases e : m = 0
    · subst e
      have : repB (smR (rL (ringE q) (q + 1))) 0 = true := repB_iff.2 fun k hk => by omega
      simp [this]
    · have : repB (smR (rL (ringE q) (q + 1))) m = false := by
        rw [Bool.eq_false_iff]
        intro h
        have := repB_iff.1 h 0 (by omega)
        rw [ringE_sm (by omega) (by omega)] at this; cases this
      simp [this, e]
theorem ringE_canon : (canon (smR (rL (ringE q) (q + 1))) (q + 1)).length = 1 := by
  simp only [canon, List.length_map]
  rw [ringE_reps (q + 1) (Nat.le_refl _)]
  simp
theorem ringE_clo : Up1 ((List.range (q + 1)).map fun i => ((i : Nat) : Int)) (((ringE q).filter fun x => !outE2 (cno (smR (rL (ringE q) (q + 1)))) x).map (·.f)) := by
  have hin : ((ringE q).filter fun x => !outE2 (cno (smR (rL (ringE q) (q + 1)))) x) = ringE q := by
    rw [List.filter_eq_self]
    intro x hx
    obtain ⟨⟨a, b⟩, c, d⟩ := ringE_nd q x hx
    have e := (cno_same (rL_eqv (ringE_nd q)) (i := x.f.toNat) (j := x.t.toNat) (by omega) (by omega)).2 (ringE_sm (by omega) (by omega))
    unfold outE2
    rw [e]
    simp
  rw [hin]
  have hm : (ringE q).map (·.f) = (List.range (q + 1)).map fun i => ((i : Nat) : Int) := by
    unfold ringE pathE
    rw [List.map_append, List.map_map, List.range_succ, List.map_append]
    rfl
  rw [hm]
  refine ⟨?_, fun x => Iff.rfl, fun x hx y hy => ?_⟩
  · rw [List.pairwise_map]
    exact (List.pairwise_lt_range (n := q + 1)).imp fun {a b} h => by omega
  · rw [List.range_succ, List.map_append, List.map_cons, List.map_nil, List.getLast?_append] at hx
    simp only [List.getLast?_singleton, Option.some_or, Option.some.injEq] at hx
    obtain ⟨i, hi, rfl⟩ := List.mem_map.1 hy
    have := List.mem_range.1 hi
    omega
end
#print axioms nilJoined_any
#print axioms ringE_clo
end Go.Proofs.YtdoplaijgocboaaGreat

namespace Go.Proofs.YtdoplaijgocboaaGreat
open Go.RowKit
set_option linter.unusedVariables false

theorem ok_small {x : Int} (h0 : 0 ≤ x) (h1 : x ≤ 1000000) : Ok64 x := by unfold Ok64; omega
theorem ed_small {a b c : Nat} (h1 : a ≤ 1000000) (h2 : b ≤ 1000000) (h3 : c ≤ 1000000) : (⟨(a : Int), (b : Int), (c : Int)⟩ : Ed).ok := ⟨ok_small (x := (a : Int)) (by omega) (by omega), ok_small (x := (b : Int)) (by omega) (by omega), ok_small (x := (c : Int)) (by omega) (by omega)⟩
theorem snoc_ok {xs : List Ed} {x : Ed} (h : ∀ y ∈ xs, y.ok) (hx : x.ok) : ∀ y ∈ xs ++ [x], y.ok := fun y hy => by
  rcases List.mem_append.1 hy with q | q
  · exact h y q
  · rw [List.mem_singleton] at q; rw [q]; exact hx
set_option maxRecDepth 100000 in
set_option maxHeartbeats 16000000 in
theorem known_any (w : World) : Calls Tryz.prog 4 #[] w fun e w' => e = .returned (.bool true) ∧ Fx No w w' := by
  obtain ⟨iie, hie, hze, hse, hbe⟩ := info_edge'
  have CT : Hid (∀ (W : World) (E E2 : Nat → Prop) (l : List Ed) (zs : List Int) (v u : Value) (n : Int), EdsV W E v l → (∀ x ∈ l, x.ok) → IntsV W E2 u zs → Calls Tryz.prog 3 #[.int .i64 n, v, u] W fun e w' => e = .returned (.bool true) ∧ Fx No W w') := Lib.hid fun W E E2 l zs v u n h1 h2 h3 => tells_any n h1 h2 h3
  have CR : Hid (∀ (W : World) (E : Nat → Prop) (l : List Ed) (v : Value) (n : Int), EdsV W E v l → (∀ x ∈ l, x.ok) → Calls Tryz.prog 26 #[.int .i64 n, v] W fun e w' => e = .returned (.bool true) ∧ Fx No W w') := Lib.hid fun W E l v n h1 h2 => reach_any n h1 h2
  have CS : Hid (∀ (W : World) (E : Nat → Prop) (l : List Ed) (v : Value) (n : Int), EdsV W E v l → (∀ x ∈ l, x.ok) → Calls Tryz.prog 27 #[.int .i64 n, v] W fun e w' => e = .returned (.bool true) ∧ Fx No W w') := Lib.hid fun W E l v n h1 h2 => shrinks_any n h1 h2
  go_enter Tryz.func4, Tryz.ntmps4
  go_wp2
  go_loopw [1, 2] (fun kk ii ws => ∃ κ i : Nat, kk = .int .i64 κ ∧ κ < 100003 ∧ ii = .int .i64 i ∧ i ≤ 120 ∧ Fx No w ws) (fun _ ii _ => 120 - (intOf ii).toNat)
  case atStart => exact ⟨1, 0, rfl, by omega, rfl, by omega, Fx.refl _ _⟩
  case round =>
    obtain ⟨κ, i, rfl, hκ, rfl, hi60, hf⟩ := hrel
    have HF := Lib.hid hf
    obtain ⟨wa, hwa⟩ : ∃ x, x = wr := ⟨_, rfl⟩
    subst hwa
    clear hf
    by_cases hil : i < 120
    · have di : decide ((i : Int) < 120) = true := decide_eq_true (by omega)
      have HI := Lib.hid hil
      clear hil
      obtain ⟨m16, hm16⟩ : ∃ q, q = i % 16 := ⟨_, rfl⟩
      have a1 : (i : Int).tmod 16 = (m16 : Int) := by rw [hm16]; rfl
      have a2 : (i : Int) % 16 = (m16 : Int) := by omega
      have hm15 : m16 ≤ 15 := by omega
      clear hm16
      go_wp2
      go_loopw [1, 3, 4] (fun kk lv nn ws => ∃ (κ n : Nat) (Ls : List Ed), kk = .int .i64 κ ∧ κ < 100003 ∧ nn = .int .i64 n ∧ n ≤ m16 ∧ Fx No wa ws ∧ OwnT 46 e3 3 ws wa.heap.size lv Ls ∧ Ls.length = n ∧ ∀ x ∈ Ls, x.ok) (fun _ _ nn _ => m16 - (intOf nn).toNat)
      case atStart => exact ⟨κ, 0, [], rfl, hκ, rfl, Nat.zero_le _, Fx.refl _ _, OwnT.nil _ _, rfl, by simp⟩
      case round =>
        clear hκ
        obtain ⟨κ, n, Ls, rfl, hκ, rfl, hn, hfn, ho, hLl, hLk⟩ := hrel
        obtain ⟨wb, hwb⟩ : ∃ x, x = wr := ⟨_, rfl⟩
        subst hwb
        have HFn := Lib.hid hfn
        have HLl := Lib.hid hLl
        have HLk := Lib.hid hLk
        have hzb := hfn.size
        obtain ⟨lo, lc, rfl, _⟩ := OwnT.row ho
        have HN := Lib.hid hn
        unfold OwnT at ho
        rw [hLl] at ho ⊢
        have HO := Lib.hid ho
        have HOe : Hid (EdsV wb (Iv wa.heap.size wb.heap.size) (.slice lo n lc) Ls) := Lib.hid (by rw [← hLl] at ho ⊢; exact OwnT.row ho)
        clear hfn ho hLk hLl
        by_cases hnl : n < m16
        · have dn : decide ((n : Int) < (m16 : Int)) = true := decide_eq_true (by omega)
          have dn2 : decide (n < m16) = true := decide_eq_true hnl
          obtain ⟨x1, hx1⟩ : ∃ q, q = κ % 9 := ⟨_, rfl⟩
          have c1 : (κ : Int).tmod 9 = (x1 : Int) := by rw [hx1]; rfl
          have c2 : (κ : Int) % 9 = (x1 : Int) := by omega
          obtain ⟨d9, hd9⟩ : ∃ q, q = κ / 9 := ⟨_, rfl⟩
          have e1 : (κ : Int).tdiv 9 = (d9 : Int) := by rw [hd9]; rfl
          have e2 : (κ : Int) / 9 = (d9 : Int) := by omega
          obtain ⟨x2, hx2⟩ : ∃ q, q = d9 % 9 := ⟨_, rfl⟩
          have f1 : (d9 : Int).tmod 9 = (x2 : Int) := by rw [hx2]; rfl
          have f2 : (d9 : Int) % 9 = (x2 : Int) := by omega
          obtain ⟨x3, hx3⟩ : ∃ q, q = κ % 2 := ⟨_, rfl⟩
          have h1 : (κ : Int).tmod 2 = (x3 : Int) := by rw [hx3]; rfl
          have h2 : (κ : Int) % 2 = (x3 : Int) := by omega
          obtain ⟨κ', hκ'⟩ : ∃ q, q = (κ * 31 + 7 * n + 11) % 100003 := ⟨_, rfl⟩
          have k1 : ((κ : Int) * 31 + 7 * (n : Int) + 11).tmod 100003 = (κ' : Int) := by rw [hκ']; rfl
          have k2 : ((κ : Int) * 31 + 7 * (n : Int) + 11) % 100003 = (κ' : Int) := by omega
          have hκl : κ' < 100003 := by omega
          have hd9l : d9 ≤ 100003 := by omega
          have HXo := Lib.hid (ed_small (a := x1) (b := x2) (c := x3) (by omega) (by omega) (by omega))
          have HNl := Lib.hid hnl
          clear hx1 hd9 hx2 hx3 hκ' hnl
          go_wp2_with (at_builtin; refine wpList_append_kept rfl _ _ 22 rfl wa.heap.size 46 Tryz.underlying22 hie hze hse hbe rfl (by decide) rfl (World.ownsRow.alloc HO.out _) rfl (SlV.lit _ 46 #[.int .i64 (x1 : Nat), .int .i64 (x2 : Nat), .int .i64 (x3 : Nat)] 3 1 rfl (by unfold maxLen; omega)) (ints_one [_, _, _]) (by omega) (by unfold maxLen; omega) (by omega) (by simp; omega) ?_)
          intro lv' w1 ho hf _ hb
          have HN1 : Hid (Fx No wa w1 ∧ OwnT 46 e3 3 w1 wa.heap.size lv' (Ls ++ [⟨(x1 : Int), (x2 : Int), (x3 : Int)⟩])) := Lib.hid ⟨(HFn.out.trans ((Fx.refl No _).alloc _)).trans' hf (fun j e hl => by have := (World.ownsRow.lt HO.out j e).1; omega), OwnT.snoc (by rw [HLl.out]; exact ho)⟩
          clear ho hf hb
          go_wp2
          go_roundw
          case rel => exact ⟨κ', n + 1, _, by first | rfl | go_num, hκl, by go_num, by have := HNl.out; omega, HN1.out.1, HN1.out.2, by have := HLl.out; simp; omega, snoc_ok HLk.out HXo.out⟩
          case measure => have := HNl.out; simp [intOf]; omega
        · obtain rfl : n = m16 := by omega
          have dn : decide ((n : Int) < (n : Int)) = false := decide_eq_false (by omega)
          have dn2 : decide (n < n) = false := decide_eq_false (by omega)
          obtain ⟨i11, hi11⟩ : ∃ q, q = i % 11 := ⟨_, rfl⟩
          have n1 : (i : Int).tmod 11 = (i11 : Int) := by rw [hi11]; rfl
          have n2 : (i : Int) % 11 = (i11 : Int) := by omega
          obtain ⟨i10, hi10⟩ : ∃ q, q = i % 10 := ⟨_, rfl⟩
          have n3 : (i : Int).tmod 10 = (i10 : Int) := by rw [hi10]; rfl
          have n4 : (i : Int) % 10 = (i10 : Int) := by omega
          obtain ⟨κ9, hκ9⟩ : ∃ q, q = κ % 9 := ⟨_, rfl⟩
          have n5 : (κ : Int).tmod 9 = (κ9 : Int) := by rw [hκ9]; rfl
          have n6 : (κ : Int) % 9 = (κ9 : Int) := by omega
          have HKap := Lib.hid hκ
          have HZ : Hid (IntsV (wb.alloc (.cells #[.int .i64 (κ9 : Nat), .int .i64 (i10 : Nat)] 3)) (fun k => k = wb.heap.size) (.slice (some ⟨wb.heap.size, 0, none⟩) 2 2) [(κ9 : Int), (i10 : Int)]) := Lib.hid (IntsV.lit wb 3 [(κ9 : Int), (i10 : Int)] (by simp))
          clear hκ9 hi11 hi10 hκ hn
          go_wp2_with fail
          refine (CT.out _ _ _ _ _ _ _ _ (RowV.no HOe.out ((Fx.refl No wb).alloc _)) HLk.out HZ.out).mono ?_
          rintro e w1 ⟨rfl, hf1⟩
          have HF1 := Lib.hid (((Fx.refl No wb).alloc _).trans hf1)
          clear hf1 HZ
          go_wp2_with fail
          refine (CR.out _ _ _ _ _ (RowV.no HOe.out HF1.out) HLk.out).mono ?_
          rintro e w2 ⟨rfl, hf2⟩
          have HF2 := Lib.hid (HF1.out.trans hf2)
          clear hf2 HF1
          go_wp2_with fail
          refine (CS.out _ _ _ _ _ (RowV.no HOe.out HF2.out) HLk.out).mono ?_
          rintro e w3 ⟨rfl, hf3⟩
          have HF3 := Lib.hid (HF.out.trans (HFn.out.trans (HF2.out.trans hf3)))
          clear hf3 HF2
          go_wp2
          go_roundw
          case rel => exact ⟨κ, i + 1, rfl, HKap.out, by go_num, by have := HI.out; omega, HF3.out⟩
          case measure => have := HI.out; simp [intOf]; omega
    · obtain rfl : i = 120 := by omega
      have di : decide (((120 : Nat) : Int) < 120) = false := by decide
      clear hκ
      go_wp2_with fail
      refine (gNew_any 3000 wa (by omega)).mono ?_
      rintro e w1 ⟨gb, rfl, hf1, hg1⟩
      have HF1 := Lib.hid hf1
      have HG1 := Lib.hid hg1
      clear hf1 hg1
      go_wp2
      go_loopw [7] (fun ii ws => ∃ (q : Nat) (D : Nat → Prop), ii = .int .i64 q ∧ q ≤ 2999 ∧ Fx No wa ws ∧ GraphV ws D gb 3000 (pathE q) ∧ ∀ x, D x → wa.heap.size ≤ x) (fun ii _ => 2999 - (intOf ii).toNat)
      case atStart => exact ⟨0, _, rfl, by omega, HF1.out, HG1.out, fun x hx => hx.1⟩
      case round =>
        obtain ⟨q, D, rfl, hq, hfq, hgq, hdq⟩ := hrel
        have HFq := Lib.hid hfq
        have HGq := Lib.hid hgq
        have HDq := Lib.hid hdq
        clear hfq hgq hdq
        by_cases hql : q < 2999
        · have dq : decide ((q : Int) < 2999) = true := decide_eq_true (by omega)
          have HX : Hid (EdsV (wr.alloc (.cells #[.int .i64 (q : Nat), .int .i64 ((q : Int) + 1), .int .i64 0] 46)) (Iv wr.heap.size (wr.heap.size + 1)) (.slice (some ⟨wr.heap.size, 0, none⟩) 1 1) [⟨(q : Nat), (q : Int) + 1, 0⟩]) := Lib.hid (EdsV.lit [⟨(q : Nat), (q : Int) + 1, 0⟩] (by simp))
          have HPl : Hid ((pathE q).length ≤ 2999) := Lib.hid (by rw [pathE_len]; omega)
          go_wp2_with fail
          refine (gAdd_any (HGq.out.no ((Fx.refl No wr).alloc _)) HX.out (fun k hk hd => by have h1 := HGq.out.lt k hd; have h2 := hk.1; omega) (fun x hx => by rw [List.mem_singleton] at hx; subst hx; exact ⟨by unfold Ok64; simp only; omega, by unfold Ok64; simp only; omega, by unfold Ok64; simp only; omega⟩) (good_mk fun x hx => by rw [List.mem_singleton] at hx; subst hx; exact ⟨⟨by simp only; omega, by simp only; omega⟩, by simp only; omega, by simp only; omega⟩) (by have := HPl.out; simp only [List.length_singleton]; omega)).mono ?_
          have hpe : addL (pathE q) [⟨(q : Nat), (q : Int) + 1, 0⟩] = pathE (q + 1) := pathE_add q
          rw [hpe]
          rintro e w2 ⟨rfl, hf2, hg2⟩
          have HF2 : Hid (Fx No wa w2) := Lib.hid ((HFq.out.trans ((Fx.refl No wr).alloc _)).trans' hf2 fun j h1 h2 => by have := HDq.out j h1; omega)
          have HG2 : Hid (∃ D, GraphV w2 D gb 3000 (pathE (q + 1)) ∧ ∀ x, D x → wa.heap.size ≤ x) := Lib.hid ⟨_, hg2, fun x hx => by
            rcases hx with hx | hx
            · exact HDq.out x hx
            · have h1 := hx.1; have h2 := HFq.out.size; rw [World.size_alloc] at h1; omega⟩
          clear hf2 hg2 HX hpe
          go_wp2
          obtain ⟨D2, hg2, hd2⟩ := HG2.out
          go_roundw
          case rel => exact ⟨q + 1, D2, by go_num, by omega, HF2.out, hg2, hd2⟩
          case measure => simp [intOf]; omega
        · obtain rfl : q = 2999 := by omega
          have dq : decide (((2999 : Nat) : Int) < 2999) = false := by decide
          have HAc : Hid (Acy (pathE 2999) 3000 (smR (rL (pathE 2999) 3000))) := Lib.hid (acy_of (pathE_nd (by omega)) (pathE_acy 2999))
          have HRd : Hid (NdL (ringE 2999) 3000) := Lib.hid (ringE_nd 2999)
          have HRc : Hid ((canon (smR (rL (ringE 2999) 3000)) 3000).length = 1) := Lib.hid (ringE_canon (q := 2999))
          have HRl : Hid (Up1 ((List.range 3000).map fun i => ((i : Nat) : Int)) (((ringE 2999).filter fun x => !outE2 (cno (smR (rL (ringE 2999) 3000))) x).map (·.f))) := Lib.hid (ringE_clo (q := 2999))
          have HPa : Hid (addL (pathE 2999) [⟨2999, 0, 0⟩] = ringE 2999) := Lib.hid (ringE_add 2999)
          have HPl : Hid ((pathE 2999).length = 2999) := Lib.hid (pathE_len 2999)
          obtain ⟨PL, hPL⟩ : ∃ x, x = pathE 2999 := ⟨_, rfl⟩
          obtain ⟨RL, hRL⟩ : ∃ x, x = ringE 2999 := ⟨_, rfl⟩
          obtain ⟨RG, hRG⟩ : ∃ x : List Int, x = (List.range 3000).map fun i => ((i : Nat) : Int) := ⟨_, rfl⟩
          have HRGl : Hid (RG.length = 3000) := Lib.hid (by rw [hRG, List.length_map, List.length_range])
          rw [← hPL] at HAc HPa HPl HGq
          rw [← hRL] at HRd HRc HRl HPa
          rw [← hRG] at HRl
          clear hPL hRL hRG
          go_wp2_with fail
          refine (parts_len HGq.out HAc.out.eqv HAc.out.sm_iff).mono ?_
          rw [HAc.out.canon_len]
          rintro e w2 ⟨a2, c2, rfl, hf2⟩
          have HF2 := Lib.hid (HFq.out.trans hf2)
          have HG2 := Lib.hid (HGq.out.no hf2)
          have HX : Hid (EdsV (w2.alloc (.cells #[.int .i64 2999, .int .i64 0, .int .i64 0] 46)) (Iv w2.heap.size (w2.heap.size + 1)) (.slice (some ⟨w2.heap.size, 0, none⟩) 1 1) [⟨2999, 0, 0⟩]) := Lib.hid (EdsV.lit [⟨2999, 0, 0⟩] (by simp))
          clear hf2
          go_wp2_with fail
          refine (gAdd_any (HG2.out.no ((Fx.refl No w2).alloc _)) HX.out (fun k hk hd => by have h1 := HG2.out.lt k hd; have h2 := hk.1; omega) (fun x hx => by rw [List.mem_singleton] at hx; subst hx; exact ⟨by unfold Ok64; decide, by unfold Ok64; decide, by unfold Ok64; decide⟩) (good_mk fun x hx => by rw [List.mem_singleton] at hx; subst hx; decide) (by have := HPl.out; simp only [List.length_singleton]; omega)).mono ?_
          rw [HPa.out]
          rintro e w3 ⟨rfl, hf3, hg3⟩
          have HF3 : Hid (Fx No wa w3) := Lib.hid ((HF2.out.trans ((Fx.refl No w2).alloc _)).trans' hf3 fun j h1 h2 => by have := HDq.out j h1; omega)
          have HG3 := Lib.hid hg3
          have HEr : Hid (Eqv (smR (rL RL 3000)) 3000) := Lib.hid (rL_eqv HRd.out)
          have HSr : Hid (∀ i j, i < 3000 → j < 3000 → (smR (rL RL 3000) i j = true ↔ Sm (EG RL) i j)) := Lib.hid (rL_sm HRd.out)
          clear hf3 hg3 HX
          go_wp2_with fail
          refine (parts_len HG3.out HEr.out HSr.out).mono ?_
          rw [HRc.out]
          rintro e w4 ⟨a4, c4, rfl, hf4⟩
          have HF4 := Lib.hid (HF3.out.trans hf4)
          have HG4 := Lib.hid (HG3.out.no hf4)
          clear hf4
          go_wp2_with fail
          refine (closedU_any HG4.out HEr.out HSr.out RG HRl.out).mono ?_
          rintro e w5 ⟨v5, rfl, hf5, ho5⟩
          rw [HRGl.out] at ho5
          obtain ⟨a5, c5, rfl, _⟩ := SlV.ofOwns ho5
          have HF5 := Lib.hid (HF4.out.trans hf5)
          clear hf5 ho5
          go_wp2_with fail
          refine (nilParts_any _).mono ?_
          rintro e w6 ⟨rfl, hf6⟩
          have HF6 := Lib.hid (HF5.out.trans hf6)
          clear hf6
          go_wp2_with fail
          refine (nilOf_any _).mono ?_
          rintro e w7 ⟨rfl, hf7⟩
          have HF7 := Lib.hid (HF6.out.trans hf7)
          clear hf7
          go_wp2_with fail
          refine (nilJoined_any (D := fun _ => True) (xs := []) (SlV.nil _ _ _)).mono ?_
          rintro e w8 ⟨rfl, hf8⟩
          have HF8 := Lib.hid (HF7.out.trans hf8)
          have dd : (!([] : List Int).any fun _ => true) = true := rfl
          rw [dd]
          clear hf8 dd
          have HX : Hid (IntsV (w8.alloc (.cells #[.int .i64 0] 3)) (fun k => k = w8.heap.size) (.slice (some ⟨w8.heap.size, 0, none⟩) 1 1) [0]) := Lib.hid (IntsV.lit w8 3 [0] (by decide))
          go_wp2_with fail
          refine (nilJoined_any HX.out).mono ?_
          rintro e w9 ⟨rfl, hf9⟩
          have HF9 := Lib.hid (HF8.out.trans (((Fx.refl No w8).alloc _).trans hf9))
          have dd : (!([0] : List Int).any fun _ => true) = false := rfl
          rw [dd]
          clear hf9 dd HX
          go_wp2_with fail
          refine (nilClosed_any _).mono ?_
          rintro e w10 ⟨rfl, hf10⟩
          have HF10 := Lib.hid (HF9.out.trans hf10)
          clear hf10
          go_wp2_with fail
          refine (nilShrink_any _).mono ?_
          rintro e w11 ⟨rfl, hf11⟩
          have HF11 := Lib.hid (HF10.out.trans hf11)
          clear hf11
          go_wp2_with fail
          refine (nilWithin_any _).mono ?_
          rintro e w12 ⟨rfl, hf12⟩
          have HF12 := Lib.hid (HF11.out.trans hf12)
          clear hf12
          go_wp2_with fail
          refine (works_any _).mono ?_
          rintro e w13 ⟨rfl, hf13⟩
          have HF13 := Lib.hid (HF.out.trans (HF12.out.trans hf13))
          clear hf13
          go_wp2
          go_ret
          exact ⟨rfl, HF13.out⟩
#print axioms known_any
end Go.Proofs.YtdoplaijgocboaaGreat
