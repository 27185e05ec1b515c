/- The law PermKnown. -/
import Derived.Test.YtddpdjbgidmdlaaWalks
import Derived.Test.YtddpdjbgidmdlaaRanks
namespace Go.Proofs.Ytddpdjbgidmdlaa
open Go.RowKit
set_option linter.unusedVariables false

theorem pcells_append (a b : List (Int × Int)) : pcells (a ++ b) = pcells a ++ pcells b := List.flatMap_append
/-- a row of pairs of the call's own -/
def OwnPr (w : World) (base : Nat) (v : Value) (ps : List (Int × Int)) : Prop := w.ownsRow base 47 2 v ps.length (pcells ps)
theorem OwnPr.pairs {w : World} {base : Nat} {v : Value} {ps : List (Int × Int)} (h : OwnPr w base v ps) : PairsV w (Iv base w.heap.size) v ps := SlV.ofOwns h
theorem OwnPr.no {w w' : World} {base : Nat} {v : Value} {ps : List (Int × Int)} (h : OwnPr w base v ps) (hf : Fx No w w') : OwnPr w' base v ps := ownsRow_fx h hf fun _ _ h => h
theorem OwnPr.nil (w : World) (base : Nat) : OwnPr w base (.slice none 0 0) [] := World.ownsRow_nil _ _ _ _
theorem OwnPr.snoc {w : World} {base : Nat} {v : Value} {ps : List (Int × Int)} {x y : Int} (h : w.ownsRow base 47 2 v (ps.length + 1) (pcells ps ++ [.int .i64 x, .int .i64 y])) : OwnPr w base v (ps ++ [(x, y)]) := by
  unfold OwnPr
  rw [List.length_append, pcells_append]
  exact h
theorem CellsF.reads {w : World} {g n : Nat} {A : Nat → Int} (h : CellsF w g n A) (hn : n ≤ 1000) {i : Nat} (hi : i ≤ n) : IntsV w (fun _ => True) (.slice (some ⟨g, 0, none⟩) i n) ((List.range i).map A) := by
  unfold IntsV
  rw [List.length_map, List.length_range]
  refine ⟨_, n, rfl, hi, by unfold maxLen; omega, by simp [ints], by simp, .inr ⟨g, 0, rfl, trivial, fun k hk => ?_⟩⟩
  have hk' : k < i := by simpa [ints] using hk
  rw [Nat.zero_add, (h k (by omega)).1]
  simp [ints, List.getD, hk']
set_option maxRecDepth 100000 in
set_option maxHeartbeats 4000000 in
theorem known_any (w : World) : Calls Try.prog 7 #[] w fun e w' => e = .returned (.bool true) ∧ Fx No w w' := by
  obtain ⟨ii, hi, hz, hs, hb⟩ := info_parts info_pair
  go_enter Try.func7, Try.ntmps7
  go_wp2
  go_loopw [1] (fun i ws => ∃ n : Nat, i = .int .i64 n ∧ n ≤ 6 ∧ Fx No w ws) (fun i _ => 6 - (intOf i).toNat)
  case atStart => exact ⟨0, rfl, by omega, Fx.refl _ _⟩
  case round =>
    obtain ⟨n, rfl, hn, hf⟩ := hrel
    have HF := Lib.hid hf
    clear hf
    by_cases hlt : n < 6
    · have hd6 : decide ((n : Int) < 6) = true := decide_eq_true (by omega)
      go_wp2
      go_loopw [2] (fun i ws => ∃ k : Nat, i = .int .u64 k ∧ k ≤ fact n + 1 ∧ Fx No w ws) (fun i _ => fact n + 1 - (intOf i).toNat)
      case atStart => exact ⟨0, rfl, Nat.zero_le _, HF.out⟩
      case round =>
        obtain ⟨k, rfl, hk, hf⟩ := hrel
        have HF2 := Lib.hid hf
        clear hf
        have hfn : fact n ≤ 720 := Nat.le_trans (fact_mono' (m := 6) (by omega)) (by decide)
        go_wp2_with fail
        refine (refFactor_any (n : Int) wr (by omega)).mono ?_
        rintro e w2 ⟨rfl, rfl⟩
        rw [Int.toNat_natCast]
        obtain ⟨f, hfe⟩ : ∃ f, f = fact n := ⟨_, rfl⟩
        rw [← hfe] at hk hfn ⊢
        have HFe := Lib.hid hfe
        clear hfe
        by_cases hle : k ≤ f
        · have dle : decide ((k : Int) ≤ (f : Int)) = true := decide_eq_true (by omega)
          have hk64 : k < 18446744073709551616 := by omega
          have HK64 := Lib.hid hk64
          have hw : IntKind.u64.wrap ((k : Int) + 1) = (k : Int) + 1 := by rw [IntKind.wrap_u64]; omega
          go_wp2_with fail
          refine (refUnrank_any (n : Int) k wr HK64.out).mono ?_
          rintro e w3 ⟨u, rfl, hf, hu⟩
          have HF3 : Hid (Fx No w w3) := HF2.out.trans hf
          have HU3 := Lib.hid hu
          clear hf hu
          go_wp2_with fail
          refine (ranks_core HU3.out (n : Int) k HK64.out).mono ?_
          rintro e w4 ⟨rfl, hf⟩
          have HF4 : Hid (Fx No w w4) := HF3.out.trans hf
          have HU4 := Lib.hid (HU3.out.no hf)
          clear hf
          go_wp2_with fail
          refine (asks_any (HU4.out.no ((Fx.refl No _).alloc _)) (n : Int) (pairs_lit w4 47 [(0, _), (2, 1)] (by simp))).mono ?_
          rintro e w5 ⟨rfl, hf⟩
          have HF5 : Hid (Fx No w w5) := (HF4.out.alloc _).trans hf
          clear hf
          go_wp2
          go_roundw
          case rel => first | exact ⟨k + 1, by go_num, by have := HFe.out; omega, HF5.out⟩ | ((repeat apply Exists.intro); exact ⟨⟨k + 1, by go_num, by have := HFe.out; omega, HF5.out⟩, rfl⟩)
          case measure => have := HFe.out; simp [intOf]; omega
        · have dle : decide ((k : Int) ≤ (f : Int)) = false := decide_eq_false (by omega)
          go_wp2
          go_roundw
          case rel => exact ⟨n + 1, by go_num, by omega, HF2.out⟩
          case measure => simp [intOf]; omega
    · obtain rfl : n = 6 := by omega
      have h6 : ((6 : Nat) : Int) = 6 := rfl
      rw [h6]
      clear h6
      go_wp2
      go_loopw [5, 6] (fun k i ws => ∃ κ ν : Nat, k = .int .i64 κ ∧ κ < 100003 ∧ i = .int .i64 ν ∧ ν ≤ 120 ∧ Fx No w ws) (fun _ i _ => 120 - (intOf i).toNat)
      case atStart => exact ⟨1, 0, rfl, by omega, rfl, by omega, HF.out⟩
      case round =>
        obtain ⟨κ, ν, rfl, hκ, rfl, hν, hf⟩ := hrel
        have HF2 := Lib.hid hf
        clear hf
        by_cases hlt3 : ν < 120
        · have hd120 : decide ((ν : Int) < 120) = true := decide_eq_true (by omega)
          go_wp2
          obtain ⟨n, hn⟩ : ∃ n : Nat, (1 : Int) + (ν : Int) % 6 = (n : Int) := ⟨1 + ν % 6, by omega⟩
          have hn1 : 1 ≤ n ∧ n ≤ 6 := by omega
          rw [hn]
          clear hn
          go_loopw [5, 7, 9] (fun k pv m ws => ∃ (κ m' : Nat) (ps : List (Int × Int)), k = .int .i64 κ ∧ κ < 100003 ∧ m = .int .i64 m' ∧ m' ≤ ν % 7 ∧ ps.length = m' ∧ OwnPr ws w.heap.size pv ps ∧ Fx No w ws) (fun _ _ m _ => ν % 7 - (intOf m).toNat)
          case atStart => exact ⟨κ, 0, [], rfl, hκ, rfl, Nat.zero_le _, rfl, OwnPr.nil _ _, HF2.out⟩
          case round =>
            obtain ⟨κ1, m, ps, rfl, hκ1, rfl, hm, hpl, hO, hf⟩ := hrel
            have HO := Lib.hid hO
            have HF3 := Lib.hid hf
            clear hO hf
            by_cases hltm : m < ν % 7
            · have dm : decide ((m : Int) < (ν : Int) % 7) = true := decide_eq_true (by omega)
              have hn0 : ¬ n = 0 := by omega
              obtain ⟨a1, ha1⟩ : ∃ a, a = κ1 % n := ⟨_, rfl⟩
              obtain ⟨q1, hq1⟩ : ∃ a, a = κ1 / 7 := ⟨_, rfl⟩
              obtain ⟨b1, hb1⟩ : ∃ a, a = q1 % n := ⟨_, rfl⟩
              have t1 : (κ1 : Int).tmod (n : Int) = (a1 : Int) := by rw [ha1]; rfl
              have t2 : (κ1 : Int).tdiv 7 = (q1 : Int) := by rw [hq1]; rfl
              have t3 : (q1 : Int).tmod (n : Int) = (b1 : Int) := by rw [hb1]; rfl
              have l1 : a1 < n := by rw [ha1]; exact Nat.mod_lt _ (by omega)
              have l2 : b1 < n := by rw [hb1]; exact Nat.mod_lt _ (by omega)
              have l3 : q1 ≤ κ1 := by rw [hq1]; exact Nat.div_le_self _ _
              have y1 : IntKind.i64.wrap (a1 : Int) = (a1 : Int) := IntWalk.i64_in _ (by omega)
              have y2 : IntKind.i64.wrap (q1 : Int) = (q1 : Int) := IntWalk.i64_in _ (by omega)
              have y3 : IntKind.i64.wrap (b1 : Int) = (b1 : Int) := IntWalk.i64_in _ (by omega)
              clear ha1 hq1 hb1
              have hOo := fun W (h : Fx No wr W) => (HO.out.no h : OwnPr W w.heap.size u7 ps)
              have HOw := Lib.hid hOo
              have hz3 := HF3.out.size
              clear hOo
              go_wp2_with fail
              go_region_law (refine step_append_kept rfl (.tmp 63) (.tmp 72) 22 rfl w.heap.size 47 Try.underlying22 hi hz hs hb rfl (by decide) u7 ps.length (pcells ps) (by simp [Act.eval, Act.put]) (HOw.out _ (by repeat (first | exact Fx.refl _ _ | apply Fx.drew | apply Fx.drewN | apply Fx.alloc))) (Up wr) (.slice (some ⟨wr.heap.size, 0, none⟩) 1 1) 1 (pcells [((a1 : Int), (b1 : Int))]) (by simp [Act.eval, Act.put]) (by first | exact SlV.new wr 47 #[.int .i64 (a1 : Int), .int .i64 (b1 : Int)] 2 1 rfl (by unfold maxLen; omega) | exact (SlV.new wr 47 #[.int .i64 (a1 : Int), .int .i64 (b1 : Int)] 2 1 rfl (by unfold maxLen; omega)).keep ((Fx.refl No _).drewN _) No.disj) (pcells_one _) (by omega) (by unfold maxLen; omega) (by omega) (by simp; omega) ?_; intro v' w2 ho hfx hk hb2)
              all_goals
                have HO2 : Hid (OwnPr w2 w.heap.size v' (ps ++ [((a1 : Int), (b1 : Int))])) := OwnPr.snoc ho
                have HF4 : Hid (Fx No w w2) := (HF3.out.trans (by repeat (first | exact Fx.refl No _ | apply Fx.drew | apply Fx.drewN | apply Fx.alloc) : Fx No wr _)).trans' hfx fun g e hl => by have := (World.ownsRow.lt HO.out g e).1; omega
                clear ho hfx hk hb2 t1 t2 t3 y1 y2 y3
                go_wp2
                go_roundw
                case rel => first | exact ⟨(κ1 * 31 + 7 * m + 11) % 100003, m + 1, _, congrArg (Value.int .i64) (by omega), by omega, by go_num, by omega, by simp [hpl], HO2.out, HF4.out⟩ | ((repeat apply Exists.intro); exact ⟨⟨(κ1 * 31 + 7 * m + 11) % 100003, m + 1, _, congrArg (Value.int .i64) (by omega), by omega, by go_num, by omega, by simp [hpl], HO2.out, HF4.out⟩, rfl⟩)
                case measure => simp [intOf]; omega
            · have dm : decide ((m : Int) < (ν : Int) % 7) = false := decide_eq_false (by omega)
              have HP : Hid (PairsV wr (fun k => w.heap.size ≤ k ∧ k < wr.heap.size) u7 ps) := HO.out.pairs.mono fun k hk => hk
              have hz3 := HF3.out.size
              go_wp2
              obtain ⟨L, hL⟩ : ∃ L : Nat, (2 : Int) + (ν : Int) % 39 = (L : Int) := ⟨2 + ν % 39, by omega⟩
              have hL1 : 2 ≤ L ∧ L ≤ 40 := by omega
              rw [hL]
              clear hL HO
              obtain ⟨wo, hwo⟩ : ∃ wo, wo = wr := ⟨_, rfl⟩
              subst hwo
              go_loopw [5, 11, 12] (fun k pv m ws => ∃ (κ m' : Nat) (ps : List (Int × Int)), k = .int .i64 κ ∧ κ < 100003 ∧ m = .int .i64 m' ∧ m' ≤ ν % 50 ∧ ps.length ≤ m' ∧ OwnPr ws wo.heap.size pv ps ∧ Fx No wo ws) (fun _ _ m _ => ν % 50 - (intOf m).toNat)
              case atStart => exact ⟨κ1, 0, [], rfl, hκ1, rfl, Nat.zero_le _, Nat.zero_le _, OwnPr.nil _ _, Fx.refl _ _⟩
              case round =>
                obtain ⟨κ2, m2, qs, rfl, hκ2, rfl, hm2, hql, hO, hf⟩ := hrel
                have HO := Lib.hid hO
                have HF5 := Lib.hid hf
                have hz5 := hf.size
                clear hO hf
                by_cases hlt5 : m2 < ν % 50
                · have dm5 : decide ((m2 : Int) < (ν : Int) % 50) = true := decide_eq_true (by omega)
                  have hL0 : ¬ L = 0 := by omega
                  obtain ⟨a1, ha1⟩ : ∃ a, a = κ2 % L := ⟨_, rfl⟩
                  obtain ⟨q1, hq1⟩ : ∃ a, a = κ2 / 41 := ⟨_, rfl⟩
                  obtain ⟨b1, hb1⟩ : ∃ a, a = q1 % L := ⟨_, rfl⟩
                  have t1 : (κ2 : Int).tmod (L : Int) = (a1 : Int) := by rw [ha1]; rfl
                  have t2 : (κ2 : Int).tdiv 41 = (q1 : Int) := by rw [hq1]; rfl
                  have t3 : (q1 : Int).tmod (L : Int) = (b1 : Int) := by rw [hb1]; rfl
                  have l1 : a1 < L := by rw [ha1]; exact Nat.mod_lt _ (by omega)
                  have l2 : b1 < L := by rw [hb1]; exact Nat.mod_lt _ (by omega)
                  have l3 : q1 ≤ κ2 := by rw [hq1]; exact Nat.div_le_self _ _
                  have y1 : IntKind.i64.wrap (a1 : Int) = (a1 : Int) := IntWalk.i64_in _ (by omega)
                  have y2 : IntKind.i64.wrap (q1 : Int) = (q1 : Int) := IntWalk.i64_in _ (by omega)
                  have y3 : IntKind.i64.wrap (b1 : Int) = (b1 : Int) := IntWalk.i64_in _ (by omega)
                  clear ha1 hq1 hb1
                  go_wp2_with fail
                  go_quiet (fail)
                  have HF6 : Hid (Fx No wo (wr.drewN nq)) := HF5.out.drewN nq
                  have HO6 : Hid (OwnPr (wr.drewN nq) wo.heap.size u11 qs) := HO.out.no ((Fx.refl No _).drewN nq)
                  have hz6 := HF6.out.size
                  generalize wr.drewN nq = wr at *
                  clear t1 t2 t3 y1 y2 y3
                  obtain ⟨z9, hz9⟩ : ∃ z : Nat, z = ν % 9 := ⟨_, rfl⟩
                  have t9 : (ν : Int).tmod 9 = (z9 : Int) := by rw [hz9]; rfl
                  have y9 : IntKind.i64.wrap (z9 : Int) = (z9 : Int) := IntWalk.i64_in _ (by omega)
                  have y9b : (ν : Int) % 9 = (z9 : Int) := by omega
                  clear hz9
                  have hcase : ((decide (a1 < b1) = true) ∨ (decide (a1 < b1) = false ∧ ((z9 : Int) == 0) = true)) ∨ (decide (a1 < b1) = false ∧ ((z9 : Int) == 0) = false) := by
                    cases decide (a1 < b1) <;> cases ((z9 : Int) == 0) <;> simp
                  rcases hcase with hc | hc
                  · rcases hc with c1 | ⟨c1, c2⟩
                    all_goals
                      go_wp2_with (at_builtin; refine wpList_append_sl rfl _ _ 22 rfl wo.heap.size 47 Try.underlying22 hi hz hs hb rfl (by decide) rfl (World.ownsRow.alloc HO6.out _) rfl (SlV.lit _ 47 #[.int .i64 _, .int .i64 _] 2 1 rfl (by unfold maxLen; omega)) (pcells_one [(_, _)]) (by unfold maxLen; omega) (by omega) (by simp; omega) ?_)
                      intro v' w2 ho hfx _
                      have HO7 : Hid (OwnPr w2 wo.heap.size v' (qs ++ [((a1 : Int), (b1 : Int))])) := OwnPr.snoc ho
                      have HF7 : Hid (Fx No wo w2) := (HF6.out.alloc _).trans' hfx fun g e hl => by have := (World.ownsRow.lt HO6.out g e).1; omega
                      clear ho hfx
                      go_wp2
                      go_roundw
                      case rel => first | exact ⟨(κ2 * 31 + 7 * m2 + 11) % 100003, m2 + 1, _, congrArg (Value.int .i64) (by omega), by omega, by go_num, by omega, by simp; omega, HO7.out, HF7.out⟩ | ((repeat apply Exists.intro); exact ⟨⟨(κ2 * 31 + 7 * m2 + 11) % 100003, m2 + 1, _, congrArg (Value.int .i64) (by omega), by omega, by go_num, by omega, by simp; omega, HO7.out, HF7.out⟩, rfl⟩)
                      case measure => simp [intOf]; omega
                  · obtain ⟨c1, c2⟩ := hc
                    go_wp2
                    go_roundw
                    case rel => first | exact ⟨(κ2 * 31 + 7 * m2 + 11) % 100003, m2 + 1, _, congrArg (Value.int .i64) (by omega), by omega, by go_num, by omega, by omega, HO6.out, HF6.out⟩ | ((repeat apply Exists.intro); exact ⟨⟨(κ2 * 31 + 7 * m2 + 11) % 100003, m2 + 1, _, congrArg (Value.int .i64) (by omega), by omega, by go_num, by omega, by omega, HO6.out, HF6.out⟩, rfl⟩)
                    case measure => simp [intOf]; omega
                · have dm5 : decide ((m2 : Int) < (ν : Int) % 50) = false := decide_eq_false (by omega)
                  have HQ : Hid (PairsV wr (Iv wo.heap.size wr.heap.size) u11 qs) := HO.out.pairs
                  have HP2 := Lib.hid (HP.out.keep HF5.out No.disj)
                  go_wp2_with fail
                  refine (walks_any (n : Int) HP2.out).mono ?_
                  rintro e w1 ⟨rfl, hf⟩
                  have HP3 := Lib.hid (HP2.out.keep hf No.disj)
                  have HQ3 := Lib.hid (HQ.out.keep hf No.disj)
                  have HFa := Lib.hid (HF5.out.trans hf)
                  clear hf HP2 HQ
                  go_wp2_with fail
                  refine (walks_any _ HP3.out).mono ?_
                  rintro e w2 ⟨rfl, hf⟩
                  have HP4 := Lib.hid (HP3.out.keep hf No.disj)
                  have HQ4 := Lib.hid (HQ3.out.keep hf No.disj)
                  have HFb := Lib.hid (HFa.out.trans hf)
                  clear hf HP3 HQ3
                  go_wp2_with fail
                  refine (long_any _ HQ4.out).mono ?_
                  rintro e w3 ⟨rfl, hf⟩
                  have HP5 := Lib.hid (HP4.out.keep hf No.disj)
                  have HFc := Lib.hid (HFb.out.trans hf)
                  clear hf HP4 HQ4
                  go_wp2_with fail
                  refine (asks_any (ints_lit w3 [(ν : Int) % 3, (κ2 : Int) % 3, 0] (by unfold maxLen; simp)) 3 (HP5.out.keep ((Fx.refl No _).alloc _) No.disj)).mono ?_
                  rintro e w4 ⟨rfl, hf⟩
                  have HFd := Lib.hid ((HFc.out.alloc _).trans hf)
                  clear hf HP5
                  go_wp2
                  go_roundw
                  case rel => first | exact ⟨κ2, ν + 1, rfl, hκ2, by go_num, by omega, HF3.out.trans HFd.out⟩ | ((repeat apply Exists.intro); exact ⟨⟨κ2, ν + 1, rfl, hκ2, by go_num, by omega, HF3.out.trans HFd.out⟩, rfl⟩)
                  case measure => simp [intOf]; omega
        · obtain rfl : ν = 120 := by omega
          have hm := makeInts (E := 21) (k := 21) (by omega) (by omega) rfl
          go_wp2
          obtain ⟨W1, hW1⟩ : ∃ W, W = wr.alloc (.cells (zeroInts 21) 3) := ⟨_, rfl⟩
          obtain ⟨nb, hnb⟩ : ∃ b, b = wr.heap.size := ⟨_, rfl⟩
          have hC0 : CellsF W1 nb 21 (fun _ => 0) := by
            have eb := heap_alloc_new wr (.cells (zeroInts 21) 3)
            rw [hW1, hnb]
            exact fun j hj => ⟨by rw [cell_of_row _ _ _ _ _ _ eb]; simp [zeroInts, hj], frozen_of_row _ _ _ _ _ eb⟩
          have HC0 := Lib.hid hC0
          have hF1 : Fx No w W1 := by rw [hW1]; exact HF2.out.alloc _
          have HF1 := Lib.hid hF1
          have hnw : w.heap.size ≤ nb := by rw [hnb]; exact HF2.out.size
          rw [← hW1, ← hnb]
          clear hC0 hF1 hm hW1 hnb
          go_loopw [16] (fun i ws => ∃ (k : Nat) (A : Nat → Int), i = .int .i64 k ∧ k ≤ 21 ∧ Fx No w ws ∧ CellsF ws nb 21 A) (fun i _ => 21 - (intOf i).toNat)
          case atStart => exact ⟨0, _, rfl, Nat.zero_le _, HF1.out, HC0.out⟩
          case round =>
            obtain ⟨k, A, rfl, hk, hf, hC⟩ := hrel
            have HF := Lib.hid hf
            have HC := Lib.hid hC
            clear hf hC
            by_cases hlk : k < 21
            · have dk : decide ((k : Int) < 21) = true := decide_eq_true (by omega)
              obtain ⟨c1, c2⟩ := HC.out k hlk
              go_wp2
              go_roundw
              case rel => first | exact ⟨k + 1, _, by go_num, by omega, HF.out.setCell (.inl hnw) _, HC.out.set hlk _⟩ | ((repeat apply Exists.intro); exact ⟨⟨k + 1, _, by go_num, by omega, HF.out.setCell (.inl hnw) _, HC.out.set hlk _⟩, rfl⟩)
              case measure => simp [intOf]; omega
            · obtain rfl : k = 21 := by omega
              obtain ⟨wo, hwo⟩ : ∃ wo, wo = wr := ⟨_, rfl⟩
              subst hwo
              obtain ⟨f, hf20⟩ : ∃ f : Int, f = ((fact 20 : Nat) : Int) := ⟨_, rfl⟩
              obtain ⟨g, hg⟩ : ∃ g : Int, g = IntKind.u64.wrap (f - 1) := ⟨_, rfl⟩
              have wf1 : Hid ((Lit.int .u64 f).wf = true) := Lib.hid (by rw [hf20]; decide +kernel)
              have wf2 : Hid ((Lit.int .u64 g).wf = true) := Lib.hid (by rw [hg, hf20]; decide +kernel)
              have CF : Hid (∀ (w' : World), Calls Try.prog 30 #[.int .i64 20] w' fun e w'' => e = .returned (.int .u64 f) ∧ w' = w'') := Lib.hid fun w' => (refFactor_any 20 w' (by omega)).mono fun e w'' h => by rw [hf20]; exact h
              have hw : IntKind.u64.wrap (f - 1) = g := hg.symm
              have CR1 : Hid (∀ (w' : World), Fx No wo w' → Calls Try.prog 4 #[.slice (some ⟨nb, 0, none⟩) 21 21, .int .i64 21, .int .u64 0] w' fun e w'' => e = .returned (.bool true) ∧ Fx No w' w'') := Lib.hid fun w' h =>
                ranks_any ((HC.out.reads (by omega) (Nat.le_refl _)).keep h No.disj) 21 0 rfl
              have CR2 : Hid (∀ (w' : World), Fx No wo w' → Calls Try.prog 4 #[.slice (some ⟨nb, 0, none⟩) 20 21, .int .i64 20, .int .u64 g] w' fun e w'' => e = .returned (.bool true) ∧ Fx No w' w'') := Lib.hid fun w' h =>
                ranks_any ((HC.out.reads (by omega) (by omega)).keep h No.disj) 20 g wf2.out
              have CR3 : Hid (∀ (w' : World), Fx No wo w' → Calls Try.prog 4 #[.slice (some ⟨nb, 0, none⟩) 20 21, .int .i64 20, .int .u64 f] w' fun e w'' => e = .returned (.bool true) ∧ Fx No w' w'') := Lib.hid fun w' h =>
                ranks_any ((HC.out.reads (by omega) (by omega)).keep h No.disj) 20 f wf1.out
              have CR4 : Hid (∀ (w' : World), Calls Try.prog 4 #[.slice (some ⟨w'.heap.size, 0, none⟩) 2 2, .int .i64 (-1), .int .u64 0] (w'.alloc (.cells #[.int .i64 1, .int .i64 1] 3)) fun e w'' => e = .returned (.bool true) ∧ Fx No (w'.alloc (.cells #[.int .i64 1, .int .i64 1] 3)) w'') := Lib.hid fun w' =>
                ranks_any (ints_lit w' [1, 1] (by unfold maxLen; simp)) (-1) 0 rfl
              have CW1 : Hid (∀ (w' : World) (n : Int), Calls Try.prog 6 #[.int .i64 n, .slice none 0 0] w' fun e w'' => e = .returned (.bool true) ∧ Fx No w' w'') := Lib.hid fun w' n => walks_any n (pairs_nil w')
              have CW2 : Hid (∀ (w' : World), Calls Try.prog 6 #[.int .i64 0, .slice (some ⟨w'.heap.size, 0, none⟩) 1 1] (w'.alloc (.cells #[.int .i64 0, .int .i64 0] 47)) fun e w'' => e = .returned (.bool true) ∧ Fx No (w'.alloc (.cells #[.int .i64 0, .int .i64 0] 47)) w'') := Lib.hid fun w' =>
                walks_any 0 (pairs_lit w' 47 [(0, 0)] (by simp))
              have CL : Hid (∀ (w' : World) (n : Int), Calls Try.prog 3 #[.int .i64 n, .slice none 0 0] w' fun e w'' => e = .returned (.bool true) ∧ Fx No w' w'') := Lib.hid fun w' n => long_any n (pairs_nil w')
              have s0 : Fx No wo wo := Fx.refl _ _
              clear hf20 hg
              go_wp2_with fail
              go_region_held3 (fun w' => Fx No wo w')
                (first
                  | exact s0.drew
                  | exact Fx.transNo (by assumption) hfi
                  | exact Fx.alloc (by assumption) _)
                (first
                  | (go_at_call 30; with_reducible refine (CF.out _).mono ?_; rintro e w' ⟨rfl, rfl⟩; have hfi := Fx.refl No w')
                  | (go_at_call 4; with_reducible refine (CR1.out _ (by assumption)).mono ?_; rintro e w' ⟨rfl, hfi⟩)
                  | (go_at_call 4; with_reducible refine (CR2.out _ (by assumption)).mono ?_; rintro e w' ⟨rfl, hfi⟩)
                  | (go_at_call 4; with_reducible refine (CR3.out _ (by assumption)).mono ?_; rintro e w' ⟨rfl, hfi⟩)
                  | (go_at_call 4; with_reducible refine (CR4.out _).mono ?_; rintro e w' ⟨rfl, hfi⟩)
                  | (go_at_call 6; with_reducible refine (CW1.out _ _).mono ?_; rintro e w' ⟨rfl, hfi⟩)
                  | (go_at_call 6; with_reducible refine (CW2.out _).mono ?_; rintro e w' ⟨rfl, hfi⟩)
                  | (go_at_call 3; with_reducible refine (CL.out _ _).mono ?_; rintro e w' ⟨rfl, hfi⟩)
                  | (go_at_call 31; refine (none_any _).mono ?_; rintro e w' ⟨rfl, hfi⟩)
                  | (go_at_call 8; refine (works_any _).mono ?_; rintro e w' ⟨rfl, hfi⟩))
              all_goals
                have HK : Hid (Fx No wo w') := by assumption
                clear s0
                go_wp2
                go_ret
                exact ⟨rfl, HF.out.trans HK.out⟩
#print axioms known_any
end Go.Proofs.Ytddpdjbgidmdlaa
