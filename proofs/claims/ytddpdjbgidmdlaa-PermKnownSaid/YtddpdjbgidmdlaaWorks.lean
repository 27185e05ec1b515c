/- Contracts: the law's closed calls (works, none). -/
import Derived.Test.YtddpdjbgidmdlaaKitA
import Derived.Test.YtddpdjbgidmdlaaRefUnrank
namespace Go.Proofs.Ytddpdjbgidmdlaa
open Go.RowKit
set_option linter.unusedVariables false

theorem none_any (w : World) : Calls Try.prog 31 #[] w fun e w' => e = .returned (.bool true) ∧ Fx No w w' := by
  go_enter Try.func31, Try.ntmps31
  go_wp2_with fail
  refine (next_nil _).mono ?_
  rintro e w1 ⟨rfl, hf⟩
  have HF := Lib.hid hf
  clear hf
  go_wp2_with fail
  refine (any_nil _).mono ?_
  rintro e w2 ⟨rfl, rfl⟩
  go_wp2
  go_ret
  exact ⟨rfl, (Fx.refl No _).trans HF.out⟩
set_option maxHeartbeats 4000000 in
theorem works_any (w : World) : Calls Try.prog 8 #[] w fun e w' => e = .returned (.bool true) ∧ Fx No w w' := by
  go_enter Try.func8, Try.ntmps8
  go_wp2_with fail
  refine (rank_any (ints_lit w [2, 0, 1] (by decide)) (by decide)).mono ?_
  rintro e w1 ⟨rfl, hf⟩
  have HF1 : Hid (Fx No w w1) := ((Fx.refl No w).alloc _).trans hf
  have e1 : rankN [2, 0, 1] = 4 := by decide
  have e2 : rankOk [2, 0, 1] = true := by decide
  rw [e1, e2]
  clear hf e1 e2
  go_wp2_with fail
  refine (unrank_any 3 4 w1 (by decide)).mono ?_
  rintro e w2 ⟨u, rfl, hf, hu⟩
  have HF2 : Hid (Fx No w w2) := HF1.out.trans hf
  have e1 : unrOk 3 4 = true := by decide
  have e2 : unrL 3 4 = [2, 0, 1] := by decide
  rw [e2] at hu
  rw [e1]
  have HU := Lib.hid hu
  clear hf e1 e2 hu HF1
  go_wp2_with fail
  refine (after_any (ints_lit w2 [2, 0, 1] (by decide)) (by decide)).mono ?_
  rintro e w3 ⟨v, q, b, rfl, hf, hv, hq⟩
  obtain ⟨rfl, rfl⟩ := after_201 hq
  have hf' : Fx No w2 w3 := ((Fx.refl No w2).alloc _).trans hf
  have HF3 : Hid (Fx No w w3) := HF2.out.trans hf'
  have HU3 := Lib.hid (HU.out.no hf')
  have HV3 := Lib.hid hv
  clear hf hf' hv hq HU HF2
  go_wp2_with fail
  refine (sameInts_any (HU3.out.no ((Fx.refl No _).alloc _)) (ints_lit w3 [2, 0, 1] (by decide))).mono ?_
  rintro e w4 ⟨rfl, hf⟩
  have hf' : Fx No w3 w4 := ((Fx.refl No w3).alloc _).trans hf
  have HF4 : Hid (Fx No w w4) := HF3.out.trans hf'
  have HV4 := Lib.hid (HV3.out.no hf')
  have e1 : (([2, 0, 1] : List Int) == [2, 0, 1]) = true := by decide
  rw [e1]
  clear hf hf' e1 HU3 HV3 HF3
  go_wp2_with fail
  refine (sameInts_any (HV4.out.no ((Fx.refl No _).alloc _)) (ints_lit w4 [2, 1, 0] (by decide))).mono ?_
  rintro e w5 ⟨rfl, hf⟩
  have hf' : Fx No w4 w5 := ((Fx.refl No w4).alloc _).trans hf
  have HF5 : Hid (Fx No w w5) := HF4.out.trans hf'
  have e1 : (([2, 1, 0] : List Int) == [2, 1, 0]) = true := by decide
  rw [e1]
  clear hf hf' e1 HV4 HF4
  go_wp2_with fail
  refine (new_any (pairs_lit w5 47 [(2, 0)] (by decide)) 3 (by decide)).mono ?_
  rintro e w6 ⟨hf, ⟨h, _⟩ | ⟨_, k, v1, rfl, hn, hps, hlo, hW⟩⟩
  · exact absurd (by decide) h
  have e1 : fillP [(2, 0)] (Int.toNat 3) [] = [1, 2, 0] := by decide
  have e2 : decide (([1, 2, 0] : List Int).length = Int.toNat 3) = true := by decide
  rw [e1, e2] at hW
  have hf' : Fx No w5 w6 := ((Fx.refl No w5).alloc _).trans hf
  have HF6 : Hid (Fx No w w6) := HF5.out.trans hf'
  have HLo : Hid (∀ b, Sx k v1 b → w.heap.size ≤ b) := fun b hb => by
    have h1 := hlo b (.inl hb)
    have h2 := HF5.out.size
    simp only [World.size_alloc] at h1
    omega
  have HW6 := Lib.hid hW
  have HN := Lib.hid hn
  have HPs := Lib.hid hps
  clear hf hf' hW e1 e2 hlo hn hps HF5
  go_wp2_with fail
  refine (new_any (pairs_lit w6 47 [(0, 1), (1, 0)] (by decide)) 2 (by decide)).mono ?_
  rintro e w7 ⟨hf, ⟨h, _⟩ | ⟨_, k2, v2, rfl, _, _, _, hW⟩⟩
  · exact absurd (by decide) h
  have e2 : decide ((fillP [(0, 1), (1, 0)] (Int.toNat 2) []).length = Int.toNat 2) = false := by decide
  rw [e2] at hW
  have hf' : Fx No w6 w7 := ((Fx.refl No w6).alloc _).trans hf
  have HF7 : Hid (Fx No w w7) := HF6.out.trans hf'
  have HW7 := Lib.hid (HW6.out.no hf')
  have HV7 := Lib.hid hW
  clear hf hf' hW e2 HF6 HW6
  go_wp2_with fail
  refine (count_any (pairs_nil w7) 4 (by decide)).mono ?_
  intro e w8 hc
  obtain ⟨rfl, hf⟩ := count_zero hc
  have HF8 : Hid (Fx No w w8) := HF7.out.trans hf
  have HW8 := Lib.hid (HW7.out.no hf)
  have HV8 := Lib.hid (HV7.out.no hf)
  clear hf hc HF7 HW7 HV7
  go_wp2_with fail
  refine (count_any (pairs_lit w8 47 [(0, 1), (2, 3)] (by decide)) 4 (by decide)).mono ?_
  intro e w9 hc
  obtain ⟨rfl, hf⟩ := count_two hc
  have hf' : Fx No w8 w9 := ((Fx.refl No w8).alloc _).trans hf
  have HF9 : Hid (Fx No w w9) := HF8.out.trans hf'
  have HW9 := Lib.hid (HW8.out.no hf')
  have HV9 := Lib.hid (HV8.out.no hf')
  clear hf hf' hc HF8 HW8 HV8
  go_wp2_with fail
  refine (any_any HV9.out).mono ?_
  rintro e w10 ⟨rfl, rfl⟩
  clear HV9
  go_wp2_with fail
  refine (next_first HW9.out).mono ?_
  rintro e w11 ⟨u1, rfl, hf, hW, ho, hg⟩
  have HF11 : Hid (Fx No w w11) := HF9.out.trans' hf fun j e hl => by have := HLo.out j e; omega
  have hk := kept_new (fun b hb => HW9.out.lt b (.inl hb)) ho hg
  have HK1 := Lib.hid hk
  have HW11 := Lib.hid hW
  clear hf hk hW ho hg HF9 HW9
  go_wp2_with fail
  refine (next_begun HW11.out).mono ?_
  rintro e w12 ⟨u2, v3, hf, hv, ⟨q, hq, rfl, hW, ho, hg⟩ | ⟨hq, _⟩⟩
  case inr => 
    rw [HPs.out, HN.out] at hq
    exact absurd hq (by decide)
  obtain rfl : q = [2, 0, 1] := by
    rw [HPs.out, HN.out] at hq
    exact (Option.some.inj (next_120.symm.trans hq)).symm
  have HF12 : Hid (Fx No w w12) := HF11.out.trans' hf fun j e hl => by have := HLo.out j e; omega
  have hk := kept_new (fun b hb => HW11.out.lt b (.inl hb)) ho hg
  have HK2 := Lib.hid hk
  have HK1' := Lib.hid (kept_fx HK1.out hf hv)
  have HLo2 : Hid (∀ b, Sx k v3 b → w.heap.size ≤ b) := fun b hb => by
    have h0 := HF11.out.size
    rcases hb with e | e | e | e
    · exact HLo.out b (.inl e)
    · exact HLo.out b (.inr (.inl e))
    · exact HLo.out b (.inr (.inr (.inl e)))
    · rcases hv b e with e | e
      · exact HLo.out b (.inr (.inr (.inr e)))
      · omega
  have HW12 := Lib.hid hW
  clear hf hk hW ho hg hv hq HF11 HW11 HK1 HLo
  go_wp2_with fail
  refine (next_begun HW12.out).mono ?_
  rintro e w13 ⟨u3, v4, hf, hv, ⟨q, hq, rfl, hW, ho, hg⟩ | ⟨hq, _⟩⟩
  case inr => 
    rw [HPs.out, HN.out] at hq
    exact absurd hq (by decide)
  obtain rfl : q = [2, 1, 0] := by
    rw [HPs.out, HN.out] at hq
    exact (Option.some.inj (next_201.symm.trans hq)).symm
  have HF13 : Hid (Fx No w w13) := HF12.out.trans' hf fun j e hl => by have := HLo2.out j e; omega
  have hk := kept_new (fun b hb => HW12.out.lt b (.inl hb)) ho hg
  have HK3 := Lib.hid hk
  have HK1 := Lib.hid (kept_fx HK1'.out hf hv)
  have HK2' := Lib.hid (kept_fx HK2.out hf hv)
  have HLo : Hid (∀ b, Sx k v4 b → w.heap.size ≤ b) := fun b hb => by
    have h0 := HF12.out.size
    rcases hb with e | e | e | e
    · exact HLo2.out b (.inl e)
    · exact HLo2.out b (.inr (.inl e))
    · exact HLo2.out b (.inr (.inr (.inl e)))
    · rcases hv b e with e | e
      · exact HLo2.out b (.inr (.inr (.inr e)))
      · omega
  have HW13 := Lib.hid hW
  clear hf hk hW ho hg hv hq HF12 HW12 HK1' HK2 HLo2
  go_wp2_with fail
  refine (next_begun HW13.out).mono ?_
  rintro e w14 ⟨u4, v5, hf, hv, ⟨q, hq, _⟩ | ⟨hq, rfl, _⟩⟩
  · rw [HPs.out, HN.out] at hq
    exact absurd (next_210.symm.trans hq) (by simp)
  have HF14 : Hid (Fx No w w14) := HF13.out.trans' hf fun j e hl => by have := HLo.out j e; omega
  have HK1' := Lib.hid (kept_fx HK1.out hf hv)
  have HK2 := Lib.hid (kept_fx HK2'.out hf hv)
  have HK3' := Lib.hid (kept_fx HK3.out hf hv)
  clear hf hv hq HF13 HW13 HK1 HK2' HK3 HLo
  go_wp2_with fail
  refine (sameInts_any (HK1'.out.no ((Fx.refl No _).alloc _)) (ints_lit w14 [1, 2, 0] (by decide))).mono ?_
  rintro e w15 ⟨rfl, hf⟩
  have hf' : Fx No w14 w15 := ((Fx.refl No w14).alloc _).trans hf
  have HF15 : Hid (Fx No w w15) := HF14.out.trans hf'
  have HK2' := Lib.hid (HK2.out.no hf')
  have HK3 := Lib.hid (HK3'.out.no hf')
  have e1 : (([1, 2, 0] : List Int) == [1, 2, 0]) = true := by decide
  rw [e1]
  clear hf hf' e1 HK1' HK2 HK3' HF14
  go_wp2_with fail
  refine (sameInts_any (HK2'.out.no ((Fx.refl No _).alloc _)) (ints_lit w15 [2, 0, 1] (by decide))).mono ?_
  rintro e w16 ⟨rfl, hf⟩
  have hf' : Fx No w15 w16 := ((Fx.refl No w15).alloc _).trans hf
  have HF16 : Hid (Fx No w w16) := HF15.out.trans hf'
  have HK3' := Lib.hid (HK3.out.no hf')
  have e1 : (([2, 0, 1] : List Int) == [2, 0, 1]) = true := by decide
  rw [e1]
  clear hf hf' e1 HK2' HK3 HF15
  go_wp2_with fail
  refine (sameInts_any (HK3'.out.no ((Fx.refl No _).alloc _)) (ints_lit w16 [2, 1, 0] (by decide))).mono ?_
  rintro e w17 ⟨rfl, hf⟩
  have HF17 : Hid (Fx No w w17) := HF16.out.trans (((Fx.refl No w16).alloc _).trans hf)
  have e1 : (([2, 1, 0] : List Int) == [2, 1, 0]) = true := by decide
  rw [e1]
  clear hf e1 HK3' HF16
  go_wp2
  go_ret
  exact ⟨rfl, HF17.out⟩
#print axioms works_any
end Go.Proofs.Ytddpdjbgidmdlaa
