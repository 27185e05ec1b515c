/- The law BitsKnown. -/
import Derived.Test.YthbfpcheljaeaaaDoorKnownA
import Derived.Test.YthbfpcheljaeaaaDoorPlays
import Derived.Test.YthbfpcheljaeaaaDoorHolds
import Derived.Test.YthbfpcheljaeaaaDoorSets
import Derived.Test.YthbfpcheljaeaaaDoorNone
namespace Go.Proofs.YthbfpcheljaeaaaDoor
open Go.RowKit
set_option linter.unusedVariables false

theorem info_act : (Tryd.prog.info? 47).map (fun i => (i.zero, i.size, i.bytes)) = some (some (.agg #[.int .i64 0, .int .i64 0, .int .i64 0, .slice none 0 0, .slice none 0 0, .bool false]), 6, 80) := by kernel_rfl
theorem act_size : (Value.agg #[.int .i64 0, .int .i64 0, .int .i64 0, .slice none 0 0, .slice none 0 0, .bool false]).cells.size = 6 := by simp [Value.cells]
def sizeL : List Int := [0, 1, 2, 63, 64, 65, 127, 128, 129, 200, -1, 400]
/-- the sizes' cells -/
def SzOk (w : World) (g : Nat) : Prop := ∀ j : Nat, j < 12 → ∃ s : Int, w.cell? ⟨g, j, none⟩ = some (.int .i64 s) ∧ -9223372036854775808 ≤ s
theorem SzOk.no {w w' : World} {g : Nat} (h : SzOk w g) (hf : Fx No w w') : SzOk w' g := fun j hj => let ⟨s, h1, h2⟩ := h j hj; ⟨s, hf.cell' h1 (fun h => h), h2⟩
theorem SzOk.lit (w : World) : SzOk (w.alloc (.cells (ints sizeL).toArray 3)) w.heap.size := by
  intro j hj
  refine ⟨gi sizeL j, ?_, ?_⟩
  · have : j < sizeL.length := hj
    simp [ints, gi, this]
  · have : gi sizeL j ∈ sizeL := gi_mem hj
    have h2 : ∀ x ∈ sizeL, -1 ≤ x := by decide
    have := h2 _ this
    omega
theorem ActsV.nil (w : World) (D : Nat → Prop) : ActsV w D (.slice none 0 0) [] := ⟨none, 0, rfl, by simp, fun k hk => by simp at hk⟩
def knownActs : List ActM := [⟨1, 0, 0, [], [], false⟩, ⟨1, 9223372036854775807, 0, [], [], false⟩, ⟨2, -9223372036854775808, 0, [], [], false⟩]
def knownCells : Array Value := #[.int .i64 1, .int .i64 0, .int .i64 0, .slice none 0 0, .slice none 0 0, .bool false, .int .i64 1, .int .i64 9223372036854775807, .int .i64 0, .slice none 0 0, .slice none 0 0, .bool false, .int .i64 2, .int .i64 (-9223372036854775808), .int .i64 0, .slice none 0 0, .slice none 0 0, .bool false]
theorem knownActs_ok (w : World) (t : TypeId) : ActsV (w.alloc (.cells knownCells t)) (fun _ => True) (.slice (some ⟨w.heap.size, 0, none⟩) 3 3) knownActs := by
  have at_ : ∀ j u, j < 18 → knownCells[j]? = some u → (w.alloc (.cells knownCells t)).cell? ⟨w.heap.size, j, none⟩ = some u := by
    intro j u _ hu
    obtain ⟨hj, rfl⟩ := Array.getElem?_eq_some_iff.1 hu
    simp [hj]
  refine ⟨_, 3, rfl, by decide, fun k hk => ⟨w.heap.size, 0, .slice none 0 0, .slice none 0 0, rfl, trivial, ?_⟩⟩
  have hk3 : k = 0 ∨ k = 1 ∨ k = 2 := by have : k < 3 := hk; omega
  rcases hk3 with rfl | rfl | rfl <;>
    exact ⟨at_ _ _ (by decide) rfl, at_ _ _ (by decide) rfl, at_ _ _ (by decide) rfl, at_ _ _ (by decide) rfl, at_ _ _ (by decide) rfl, at_ _ _ (by decide) rfl, SlV.nil _ _ _, SlV.nil _ _ _, by decide⟩
theorem IntsV.mono' {w : World} {D : Nat → Prop} {v : Value} {l : List Int} (h : IntsV w D v l) : IntsV w (fun _ => True) v l := SlV.mono h fun _ _ => trivial
set_option maxRecDepth 100000 in
set_option maxHeartbeats 4000000 in
theorem known_any {w : World} (hT : TabOk w) : Calls Tryd.prog 7 #[] w fun e w' => e = .returned (.bool true) ∧ Fx No w w' := by
  obtain ⟨ii, hi, hz, hs, hb0⟩ := info_parts info_int
  obtain ⟨ai, hai, haz, has, hab⟩ := info_parts info_act
  have HT := Lib.hid hT
  clear hT
  go_enter Tryd.func7, Tryd.ntmps7
  go_wp2
  generalize hw1 : w.alloc (Obj.cells #[Value.int IntKind.i64 0, Value.int IntKind.i64 1, Value.int IntKind.i64 2, Value.int IntKind.i64 63, Value.int IntKind.i64 64, Value.int IntKind.i64 65, Value.int IntKind.i64 127, Value.int IntKind.i64 128, Value.int IntKind.i64 129, Value.int IntKind.i64 200, Value.int IntKind.i64 (-1), Value.int IntKind.i64 400] 3) = w1
  have hf1 : Fx No w w1 := by rw [← hw1]; exact (Fx.refl No w).alloc _
  have hsz : SzOk w1 w.heap.size := by rw [← hw1]; exact SzOk.lit w
  have HF1 := Lib.hid hf1
  have HSZ := Lib.hid hsz
  clear hf1 hsz hw1
  go_loopw [1, 3] (fun k n wr => ∃ κ ν : Nat, k = .int .i64 κ ∧ κ < 100003 ∧ n = .int .i64 ν ∧ ν ≤ 60 ∧ Fx No w1 wr) (fun _ n _ => 60 - (intOf n).toNat)
  case atStart => exact ⟨1, 0, rfl, by omega, rfl, by omega, Fx.refl _ _⟩
  case round =>
    obtain ⟨κ0, ν, rfl, hκ0, rfl, hν, hf⟩ := hrel
    have HF := Lib.hid hf
    clear hf
    by_cases hlt : ν < 60
    · have hd60 : decide ((ν : Int) < 60) = true := decide_eq_true (by omega)
      go_wp2
      go_loopw [1, 4, 5, 6, 7] (fun k lv mv av i ws => ∃ κ j : Nat, k = .int .i64 κ ∧ κ < 100003 ∧ i = .int .i64 j ∧ j ≤ 20 ∧ KInv ws w1.heap.size lv mv av j j j ∧ Fx No w1 ws) (fun _ _ _ _ i _ => 20 - (intOf i).toNat)
      case atStart => exact ⟨κ0, 0, rfl, hκ0, rfl, by omega, KInv.start _ _, HF.out⟩
      case round =>
        obtain ⟨κ, j, rfl, hκ, rfl, hj, hK, hf⟩ := hrel
        have HK := Lib.hid hK
        have HFi := Lib.hid hf
        have hzi := hf.size
        clear hK hf
        by_cases hjl : j < 20
        · obtain ⟨ll, hl1, hl2⟩ := HK.out.l
          have HL := Lib.hid hl2
          have HL1 := Lib.hid hl1
          have hll : ll.length ≤ 20 := by omega
          clear hl1 hl2
          go_wp2_with (at_builtin; refine wpList_append_kept rfl _ _ 22 rfl w1.heap.size 3 Tryd.underlying22 hi hz hs hb0 rfl (by decide) rfl (World.ownsRow.alloc HL.out _) rfl (SlV.lit _ 3 #[.int .i64 _] 1 1 rfl (by unfold maxLen; omega)) (ints_one [_]) (by omega) (by unfold maxLen; omega) (by omega) (by simp; omega) ?_)
          intro lv w2 ho hfx hk hb
          have HFa := Lib.hid ((HFi.out.alloc (.cells #[.int .i64 ((κ : Int) % 210 - 4)] 3)).trans' hfx (fun g e hl => by have := (World.ownsRow.lt HL.out g e).1; omega))
          have hz2 := hfx.size
          simp only [World.size_alloc] at hz2
          have HK2 := Lib.hid ((HK.out.no ((Fx.refl No _).alloc (.cells #[.int .i64 ((κ : Int) % 210 - 4)] 3))).stepL (l' := ll ++ [(κ : Int) % 210 - 4]) (by simp [HL1.out]) (by
            unfold OwnI; rw [List.length_append]; simpa [ints] using ho) hfx (by rw [Nat.mul_one, ← HL1.out]; simpa using hk) (by simpa using hb))
          clear ho hfx hk hb HL HL1 HK hll
          obtain ⟨mm, hm1, hm2⟩ := HK2.out.m
          have HM := Lib.hid hm2
          have HM1 := Lib.hid hm1
          have hmm : mm.length ≤ 20 := by omega
          clear hm1 hm2
          go_wp2_with (at_builtin; refine wpList_append_kept rfl _ _ 22 rfl w1.heap.size 3 Tryd.underlying22 hi hz hs hb0 rfl (by decide) rfl (World.ownsRow.alloc HM.out _) rfl (SlV.lit _ 3 #[.int .i64 _] 1 1 rfl (by unfold maxLen; omega)) (ints_one [_]) (by omega) (by unfold maxLen; omega) (by omega) (by simp; omega) ?_)
          intro mv w3 ho hfx hk hb
          have HFb := Lib.hid ((HFa.out.alloc (.cells #[.int .i64 ((κ : Int) / 3 % 140)] 3)).trans' hfx (fun g e hl => by have := (World.ownsRow.lt HM.out g e).1; omega))
          have hz3 := hfx.size
          simp only [World.size_alloc] at hz3
          have HK3 := Lib.hid ((HK2.out.no ((Fx.refl No _).alloc (.cells #[.int .i64 ((κ : Int) / 3 % 140)] 3))).stepM (l' := mm ++ [(κ : Int) / 3 % 140]) (by simp [HM1.out]) (by
            unfold OwnI; rw [List.length_append]; simpa [ints] using ho) hfx (by rw [Nat.mul_one, ← HM1.out]; simpa using hk) (by simpa using hb))
          clear ho hfx hk hb HM HM1 HK2 hmm HFa
          obtain ⟨cs, hc1, hc2, hc3⟩ := HK3.out.a
          have HC := Lib.hid hc2
          have HC1 := Lib.hid hc1
          have HC3 := Lib.hid hc3
          obtain ⟨e1, e2⟩ : (0 : Int) ≤ (κ : Int) % 12 ∧ (κ : Int) % 12 < 12 := by omega
          obtain ⟨sz, hs1, hs2⟩ := (HSZ.out.no HFb.out) (κ % 12) (by omega)
          have HS2 := Lib.hid hs2
          obtain ⟨l3, hl3, ho3⟩ := HK3.out.l
          obtain ⟨m3, hm3, hq3⟩ := HK3.out.m
          obtain ⟨gl, cl, hlv, _, _⟩ := ownsRow_pos ho3 (by omega)
          obtain ⟨gm, cm, hmv, _, _⟩ := ownsRow_pos hq3 (by omega)
          rw [hl3] at hlv
          rw [hm3] at hmv
          subst hlv hmv
          clear hc1 hc2 hc3 hs2 hl3 ho3 hm3 hq3
          go_wp2_with (at_builtin; refine wpList_append_kept rfl _ _ 42 rfl w1.heap.size 47 Tryd.underlying42 hai haz has hab act_size (by decide) rfl (World.ownsRow.alloc HC.out _) rfl (SlV.lit _ 47 #[_, _, _, _, _, _] 6 1 rfl (by unfold maxLen; omega)) (acells_one ⟨_, _, _, _, _, _⟩ rfl rfl) (by omega) (by unfold maxLen; omega) (by omega) (by simp; omega) ?_)
          intro av w4 ho hfx hk hb
          have al : Fx No w3 (w3.alloc (.cells #[.int .i64 ((κ : Int) / 7 % 7), .int .i64 ((κ : Int) % 210 - 4), .int .i64 sz, .slice (some ⟨gl, 0, none⟩) (j + 1) cl, .slice (some ⟨gm, 0, none⟩) (j + 1) cm, .bool ((κ : Int) % 5 == 0)] 47)) := (Fx.refl No w3).alloc _
          have HK4 := Lib.hid ((HK3.out.no al).stepA (w' := w4) (cs := cs) ⟨(κ : Int) / 7 % 7, (κ : Int) % 210 - 4, sz, .slice (some ⟨gl, 0, none⟩) (j + 1) cl, .slice (some ⟨gm, 0, none⟩) (j + 1) cm, ((κ : Int) % 5 == 0)⟩ HC1.out
            (fun c hc => ⟨(HC3.out c hc).1, (HC3.out c hc).2.1.no al, (HC3.out c hc).2.2.no al⟩) (by omega) (by omega) rfl rfl HS2.out ho hfx hk (by simpa using hb))
          have HFc := Lib.hid ((HFb.out.trans al).trans' hfx (fun g e hl => by have := (World.ownsRow.lt HC.out g e).1; omega))
          clear ho hfx hk hb al HK3 HC HC1 HC3
          go_wp2
          go_roundw
          case rel => first | exact ⟨(κ * 31 + 7 * j + 11) % 100003, j + 1, congrArg (Value.int .i64) (by omega), by omega, by go_num, by omega, HK4.out, HFc.out⟩ | ((repeat apply Exists.intro); exact ⟨⟨(κ * 31 + 7 * j + 11) % 100003, j + 1, congrArg (Value.int .i64) (by omega), by omega, by go_num, by omega, HK4.out, HFc.out⟩, rfl⟩)
          case measure => simp [intOf]; omega
        · obtain rfl : j = 20 := by omega
          obtain ⟨l3, hl3, ho3⟩ := HK.out.l
          obtain ⟨m3, hm3, hq3⟩ := HK.out.m
          obtain ⟨xs, hx⟩ := HK.out.acts
          obtain ⟨gl, cl, hlv, _, _⟩ := ownsRow_pos ho3 (by omega)
          have hcl : 20 ≤ cl ∧ cl ≤ 9223372036854775807 := by
            have h8 := ho3.ints
            obtain ⟨a, c, h1, h2, h3, _⟩ := h8
            rw [hlv] at h1
            simp only [Value.slice.injEq] at h1
            obtain ⟨_, _, rfl⟩ := h1
            unfold maxLen at h3
            omega
          have hL : ∀ i, i ≤ 20 → IntsV wr (fun _ => True) (.slice (some ⟨gl, 0, none⟩) i cl) (l3.take i) := by
            intro i hi20
            have h8 := ho3.ints
            obtain ⟨a, c, h1, h2, h3, h4, h5, h6⟩ := h8
            rw [hlv] at h1
            simp only [Value.slice.injEq] at h1
            obtain ⟨rfl, _, rfl⟩ := h1
            unfold IntsV
            rw [List.length_take, hl3, Nat.min_eq_left hi20]
            refine ⟨_, cl, rfl, by omega, h3, by simp [ints, hl3]; omega, by simp, ?_⟩
            rcases h6 with h6 | ⟨b, o, h7, h8, h9⟩
            · simp [ints] at h6; rw [h6] at hl3; simp at hl3
            · refine .inr ⟨b, o, h7, trivial, fun k hk => ?_⟩
              have hk' : k < i ∧ k < l3.length := by simp [ints] at hk; omega
              rw [h9 k (by simp [ints]; omega)]
              simp [ints, List.getD, hk'.1, hk'.2]
          have HL := Lib.hid hL
          have HM := Lib.hid (IntsV.mono' hq3.ints)
          have HX := Lib.hid hx
          have HFr := Lib.hid ((HF1.out).trans HFi.out)
          have HTr := Lib.hid (HT.out.no HFr.out)
          obtain ⟨A, hA⟩ : ∃ A, A = ν % 12 := ⟨_, rfl⟩
          obtain ⟨V5, hV5⟩ : ∃ A, A = ν / 5 := ⟨_, rfl⟩
          obtain ⟨B, hB⟩ : ∃ A, A = V5 % 12 := ⟨_, rfl⟩
          obtain ⟨C, hC⟩ : ∃ A, A = ν % 20 := ⟨_, rfl⟩
          obtain ⟨D, hD⟩ : ∃ A, A = ν % 21 := ⟨_, rfl⟩
          have t1 : (ν : Int).tmod 12 = (A : Int) := by rw [hA]; rfl
          have t2 : (ν : Int).tdiv 5 = (V5 : Int) := by rw [hV5]; rfl
          have t3 : (V5 : Int).tmod 12 = (B : Int) := by rw [hB]; rfl
          have t4 : (ν : Int).tmod 20 = (C : Int) := by rw [hC]; rfl
          have t5 : (ν : Int).tmod 21 = (D : Int) := by rw [hD]; rfl
          have t6 : IntKind.i64.wrap ((ν : Int) * 3) = (ν : Int) * 3 := IntWalk.i64_in _ (by omega)
          have y1 : IntKind.i64.wrap (A : Int) = (A : Int) := IntWalk.i64_in _ (by omega)
          have y2 : IntKind.i64.wrap (V5 : Int) = (V5 : Int) := IntWalk.i64_in _ (by omega)
          have y3 : IntKind.i64.wrap (B : Int) = (B : Int) := IntWalk.i64_in _ (by omega)
          have y4 : IntKind.i64.wrap (C : Int) = (C : Int) := IntWalk.i64_in _ (by omega)
          have y5 : IntKind.i64.wrap (D : Int) = (D : Int) := IntWalk.i64_in _ (by omega)
          have u1 : (A : Int) < 12 := by omega
          have u2 : (B : Int) < 12 := by omega
          have u3 : (C : Int) ≤ 20 := by omega
          have u4' : (D : Int) ≤ 20 := by omega
          have v1 : (0 : Int) ≤ (A : Int) := by omega
          have v2 : (0 : Int) ≤ (B : Int) := by omega
          have v3 : (0 : Int) ≤ (C : Int) := by omega
          have v4 : (0 : Int) ≤ (D : Int) := by omega
          have x3 : C ≤ 20 := by omega
          have x4 : D ≤ 20 := by omega
          have x5 : C ≤ cl := by omega
          have x6 : D ≤ cl := by omega
          have x7 : (C : Int) ≤ (cl : Int) := by omega
          have x8 : (D : Int) ≤ (cl : Int) := by omega
          obtain ⟨s1, hs1, _⟩ := (HSZ.out.no HFi.out) A (by omega)
          obtain ⟨s2, hs2, _⟩ := (HSZ.out.no HFi.out) B (by omega)
          clear hA hV5 hB hC hD
          rw [hl3] at hlv
          subst hlv
          clear hl3 ho3 hm3 hq3 hx hL
          have q1 : ∀ w', Fx No wr w' → w'.cell? ⟨w.heap.size, A, none⟩ = some (.int .i64 s1) := fun w' h => h.cell' hs1 (fun h => h)
          have q2 : ∀ w', Fx No wr w' → w'.cell? ⟨w.heap.size, B, none⟩ = some (.int .i64 s2) := fun w' h => h.cell' hs2 (fun h => h)
          have s0 : Fx No wr wr := Fx.refl _ _
          have CP : Hid (∀ w', Fx No wr w' → Calls Tryd.prog 5 #[.int .i64 s1, .slice (some ⟨gl, 0, none⟩) 20 cl, u6] w' fun e w'' => e = .returned (.bool true) ∧ Fx No w' w'') := fun w' h =>
            plays_any s1 ((HL.out 20 (Nat.le_refl _)).keep h No.disj) (HX.out.keep h No.disj) (HTr.out.no h)
          have CH : Hid (∀ w' i j, i ≤ 20 → j ≤ 20 → Fx No wr w' → Calls Tryd.prog 3 #[.int .i64 s1, .int .i64 s2, .slice (some ⟨gl, 0, none⟩) i cl, .slice (some ⟨gl, 0, none⟩) j cl] w' fun e w'' => e = .returned (.bool true) ∧ Fx No w' w'') := fun w' i j hi hj h =>
            holds_any s1 s2 ((HL.out i hi).keep h No.disj) ((HL.out j hj).keep h No.disj) (HTr.out.no h)
          have CH2 : Hid (∀ w', Fx No wr w' → Calls Tryd.prog 3 #[.int .i64 130, .int .i64 64, u5, .slice (some ⟨gl, 0, none⟩) 20 cl] w' fun e w'' => e = .returned (.bool true) ∧ Fx No w' w'') := fun w' h =>
            holds_any 130 64 (HM.out.keep h No.disj) ((HL.out 20 (Nat.le_refl _)).keep h No.disj) (HTr.out.no h)
          have CS : Hid (∀ w' i, Fx No wr w' → Calls Tryd.prog 6 #[.int .i64 s1, .slice (some ⟨gl, 0, none⟩) 20 cl, u5, .int .i64 i] w' fun e w'' => e = .returned (.bool true) ∧ Fx No w' w'') := fun w' i h =>
            sets_any s1 i ((HL.out 20 (Nat.le_refl _)).keep h No.disj) (HM.out.keep h No.disj) (HTr.out.no h)
          have CN : Hid (∀ w', Fx No wr w' → Calls Tryd.prog 4 #[.int .i64 (ν : Int), .slice (some ⟨gl, 0, none⟩) 20 cl] w' fun e w'' => e = .returned (.bool true) ∧ Fx No w' w'') := fun w' h =>
            none_any (ν : Int) (by omega) ((HL.out 20 (Nat.le_refl _)).keep h No.disj) (HTr.out.no h)
          clear hs1 hs2
          go_wp2_with fail
          go_region_held3 (fun w' => Fx No wr w')
            (first
              | exact s0.drew
              | exact Fx.transNo (by assumption) hfi)
            (first
              | (go_at_call 5; with_reducible refine (CP.out _ (by assumption)).mono ?_; rintro e w' ⟨rfl, hfi⟩)
              | (go_at_call 3; with_reducible refine (CH2.out _ (by assumption)).mono ?_; rintro e w' ⟨rfl, hfi⟩)
              | (go_at_call 3; with_reducible refine (CH.out _ _ _ (by omega) (by omega) (by assumption)).mono ?_; rintro e w' ⟨rfl, hfi⟩)
              | (go_at_call 6; with_reducible refine (CS.out _ _ (by assumption)).mono ?_; rintro e w' ⟨rfl, hfi⟩)
              | (go_at_call 4; with_reducible refine (CN.out _ (by assumption)).mono ?_; rintro e w' ⟨rfl, hfi⟩))
          all_goals
            have HKf : Hid (Fx No wr w') := by assumption
            clear q1 q2 s0
            go_wp2
            go_roundw
            case rel => exact ⟨κ, ν + 1, rfl, hκ, by go_num, by omega, HFi.out.transNo HKf.out⟩
            case measure => simp [intOf]; omega
    · have HFr := Lib.hid (HF1.out.trans HF.out)
      go_wp2_with fail
      refine (plays_any (D := No) (E := No) (l := []) (xs := []) 4611686018427387904 (SlV.nil _ _ _) (ActsV.nil _ _) (HT.out.no HFr.out)).mono ?_
      rintro e w2 ⟨rfl, hf⟩
      have HF2 := Lib.hid (HFr.out.trans hf)
      clear hf
      go_wp2_with fail
      refine (plays_any (D := Up w2) (E := fun _ => True) (l := [0]) (xs := knownActs) (-9223372036854775808) ((SlV.new w2 3 #[.int .i64 0] 1 1 rfl (by unfold maxLen; omega)).keep ((Fx.refl No _).alloc _) No.disj) (by have h := knownActs_ok (w2.alloc (.cells #[.int .i64 0] 3)) 47; rw [World.size_alloc] at h; exact h) (HT.out.no ((HF2.out.alloc _).alloc _))).mono ?_
      rintro e w3 ⟨rfl, hf⟩
      have HF3 := Lib.hid (((HF2.out.alloc _).alloc _).trans hf)
      clear hf
      go_wp2_with fail
      refine (works_any (HT.out.no HF3.out)).mono ?_
      rintro e w4 ⟨rfl, hf⟩
      have HF4 := Lib.hid (HF3.out.trans hf)
      clear hf
      go_wp2
      go_ret
      exact ⟨rfl, HF4.out⟩
#print axioms known_any
end Go.Proofs.YthbfpcheljaeaaaDoor
