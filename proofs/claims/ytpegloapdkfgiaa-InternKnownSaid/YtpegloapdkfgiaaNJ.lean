/- The law InternBack. -/
import Derived.Test.YtpegloapdkfgiaaNDoor
import Derived.Laws.Bits64
namespace Go.Proofs.Ytpegloapdkfgiaa
open Go.RowKit
set_option linter.unusedVariables false

theorem numN_map {f : Int → Int} (hf : ∀ a b, f a = f b → a = b) (L ks : List Int) (n : Int) : numN (L.map f) (ks.map f) n = numN L ks n := by
  rcases List.eq_nil_or_concat ks with rfl | ⟨l, x, rfl⟩
  · rfl
  · rw [List.concat_eq_append, List.map_append, List.map_cons, List.map_nil, numN_snoc, numN_snoc, ← map_addN hf, ix_map hf]
theorem gi_prefix {L M : List Int} {k : Nat} (h : k < L.length) : gi (L ++ M) k = gi L k := by
  simp [gi, List.getD, List.getElem?_append_left h]
theorem gi_get? {L : List Int} {k : Nat} (h : k < L.length) : L[k]? = some (gi L k) := by simp [gi, List.getD, h]
/-- two tables, alike but for names -/
structure BackS (f : Int → Int) (w ws : World) (tb ub : Nat) (L : List Int) (Dt Du : Nat → Prop) : Prop where
  fx : Fx No w ws
  t : TabU ws Dt tb L
  u : TabU ws Du ub (L.map f)
  tl : ∀ j, Dt j → w.heap.size ≤ j
  ul : ∀ j, Du j → w.heap.size ≤ j
  ap : ∀ j, Dt j → ¬ Du j
theorem BackS.no {f : Int → Int} {w ws w' : World} {tb ub : Nat} {L : List Int} {Dt Du : Nat → Prop} (h : BackS f w ws tb ub L Dt Du) (hf : Fx No ws w') : BackS f w w' tb ub L Dt Du :=
  ⟨h.fx.trans hf, h.t.no hf, h.u.no hf, h.tl, h.ul, h.ap⟩
theorem BackS.step {f : Int → Int} {w wa wm w2 w3 : World} {tb ub : Nat} {L L1 : List Int} {Dt Du Dt2 Du2 : Nat → Prop} (h : BackS f w wa tb ub L Dt Du) (hfm : Fx No wa wm) (hT : TabU w2 Dt2 tb L1) (hft : Fx Dt wm w2) (hDt : ∀ j, Dt2 j → Dt j ∨ wm.heap.size ≤ j)
    (hU : TabU w3 Du2 ub (L1.map f)) (hfu : Fx Du w2 w3) (hDu : ∀ j, Du2 j → Du j ∨ w2.heap.size ≤ j) : BackS f w w3 tb ub L1 Dt2 Du2 := by
  have z0 := h.fx.size
  have z1 := hfm.size
  have z2 := hft.size
  have z3 := hfu.size
  have t1 := h.t.lt
  have u1 := h.u.lt
  have t2 := hT.lt
  refine ⟨((h.fx.trans hfm).trans' hft fun j e q => by have := h.tl j e; omega).trans' hfu fun j e q => by have := h.ul j e; omega, hT.keep hfu fun j e q => ?_, hU, fun j e => ?_, fun j e => ?_, fun j e q => ?_⟩
  · rcases hDt j e with h1 | h1
    · exact h.ap j h1 q
    · have := u1 j q; omega
  · rcases hDt j e with h1 | h1
    · exact h.tl j h1
    · omega
  · rcases hDu j e with h1 | h1
    · exact h.ul j h1
    · omega
  · rcases hDt j e with h1 | h1 <;> rcases hDu j q with h2 | h2
    · exact h.ap j h1 h2
    · have := t1 j h1; omega
    · have := u1 j h2; omega
    · have := t2 j e; omega
instance (x : Int) : Decidable (OkU x) := inferInstanceAs (Decidable (_ ∧ _))
/-- the other row's names -/
def turnU (p q : Nat) (x : Int) : Int := if OkU x then ((((x.toNat ^^^ p) + q) % 18446744073709551616 : Nat) : Int) else x
theorem turnU_ok {p q : Nat} {x : Int} (h : OkU x) : OkU (turnU p q x) := by
  unfold turnU; rw [if_pos h]; unfold OkU; omega
theorem turnU_out {p q : Nat} {x : Int} (h : ¬ OkU x) : turnU p q x = x := if_neg h
theorem xor_cancel {a b p : Nat} (h : a ^^^ p = b ^^^ p) : a = b := by
  have := congrArg (· ^^^ p) h
  simpa [Nat.xor_assoc] using this
theorem turnU_inj {p q : Nat} (hp : p < 18446744073709551616) : ∀ a b, turnU p q a = turnU p q b → a = b := by
  intro a b h
  by_cases ha : OkU a <;> by_cases hb : OkU b
  · unfold turnU at h
    rw [if_pos ha, if_pos hb] at h
    have ha' := ha.2
    have hb' := hb.2
    have ha0 := ha.1
    have hb0 := hb.1
    have h1 : a.toNat ^^^ p < 2 ^ 64 := Nat.xor_lt_two_pow (by omega) (by omega)
    have h2 : b.toNat ^^^ p < 2 ^ 64 := Nat.xor_lt_two_pow (by omega) (by omega)
    have h3 : a.toNat ^^^ p = b.toNat ^^^ p := by omega
    have := xor_cancel h3
    omega
  · exact absurd (h ▸ turnU_ok ha) (by rw [turnU_out hb]; exact hb)
  · exact absurd (h.symm ▸ turnU_ok hb) (by rw [turnU_out ha]; exact ha)
  · rw [turnU_out ha, turnU_out hb] at h; exact h
theorem turnU_wrap {p q : Nat} (hp : p < 18446744073709551616) {x : Int} (h : OkU x) : IntKind.u64.wrap (bits .xor .u64 x (p : Int) + (q : Int)) = turnU p q x := by
  obtain ⟨a, rfl⟩ := Int.eq_ofNat_of_zero_le h.1
  have ha := h.2
  rw [bits_xor_u64_nat a p (by omega) hp, IntKind.wrap_u64]
  unfold turnU
  rw [if_pos h, Int.toNat_natCast]
  omega
#print axioms numN_map
set_option maxRecDepth 100000 in
set_option maxHeartbeats 4000000 in
theorem back_any {w : World} {v : Value} {ls : List (List Int)} (h : RowsU w (fun j => j < w.heap.size) v ls) (p q : Nat) (hp : p < 18446744073709551616) : Calls Try.prog 3 #[v, .int .u64 (p : Nat), .int .u64 (q : Nat)] w fun e w' => e = .returned (.bool true) ∧ Fx No w w' := by
  have HR := Lib.hid h
  obtain ⟨ii, hi, hz, hs, hby⟩ := info_parts info_u64
  obtain ⟨ao, cap, rfl, hcm, hcl, hc⟩ := id h
  have HC := Lib.hid hc
  clear h hc
  go_enter Try.func3, Try.ntmps3
  go_wp2_with fail
  refine (few_any HR.out).mono ?_
  rintro e w1 ⟨B, rfl, hB, hf⟩
  have HF1 := Lib.hid hf
  have HB := Lib.hid hB
  clear hf hB
  cases B with
  | false =>
    go_wp2_with fail
    refine (works_any _).mono ?_
    rintro e w2 ⟨rfl, hf⟩
    have HF2 := Lib.hid (HF1.out.trans hf)
    clear hf
    go_wp2
    go_ret
    exact ⟨rfl, HF2.out⟩
  | true =>
    obtain ⟨h12, h30⟩ := HB.out rfl
    have H30 := Lib.hid h30
    clear h30
    go_wp2
    go_loopw [9, 10, 11, 12, 13, 14, 15, 16, 17, 18, 19, 20, 21] (fun nv ii _ _ _ _ _ _ _ _ _ _ _ ws => ∃ (κ : Nat) (L : List Int) (Dt Du En : Nat → Prop), ii = .int .i64 κ ∧ κ ≤ ls.length ∧ L.length ≤ 30 * κ ∧ BackS (turnU p q) w ws w1.heap.size (w1.heap.size + 1) L Dt Du ∧ NumV ws En nv L ∧ ∀ j, En j → w.heap.size ≤ j ∧ j < ws.heap.size ∧ ¬ Dt j ∧ ¬ Du j) (fun _ ii _ _ _ _ _ _ _ _ _ _ _ _ => ls.length - (intOf ii).toNat)
    case atStart =>
      have hsz := HF1.out.size
      refine ⟨0, [], fun j => j = w1.heap.size, fun j => j = w1.heap.size + 1, No, rfl, by omega, by simp, ?_⟩
      have t2 := TabV.new (K := kU) (t := 23) (w1.alloc (.cells #[.map none, .slice none 0 0] 31)) 31
      simp only [World.size_alloc] at t2
      exact ⟨⟨(HF1.out.alloc _).alloc _, (TabV.new w1 _).no ((Fx.refl No _).alloc _), t2, fun j e => by omega, fun j e => by omega, fun j e q => by omega⟩, SlV.nil _ _ _, fun j e => e.elim⟩
    case round =>
      obtain ⟨κ, L, Dt, Du, En, rfl, hκ, hLl, hB, hNm, hEn⟩ := hrel
      have HNm := Lib.hid hNm
      have HEn := Lib.hid hEn
      have HB := Lib.hid hB
      obtain ⟨wa, hwa⟩ : ∃ x, x = wr := ⟨_, rfl⟩
      subst hwa
      have hszw := hB.fx.size
      obtain ⟨nao, ncap, rfl, _, hncm, hnc⟩ := NumV.facts hNm
      clear hB hnc hNm hEn
      by_cases hl : κ < ls.length
      · have d1 : decide ((κ : Int) < (ls.length : Int)) = true := decide_eq_true (by omega)
        have d1' : decide (κ < ls.length) = true := decide_eq_true hl
        obtain ⟨l, hl2⟩ : ∃ l, ls[κ]? = some l := ⟨_, List.getElem?_eq_getElem hl⟩
        obtain ⟨g, o, rv, rfl, hgl, hcc, hv, hok⟩ := HC.out κ l hl2
        have hl30 := H30.out κ l hl2
        obtain ⟨ra, rc, rfl, _, _, hvc⟩ := NumV.facts hv
        have hcr : wa.cell? ⟨g, o + κ, none⟩ = some (.slice ra l.length rc) := HB.out.fx.cell' hcc (fun h => h)
        have HV := Lib.hid hv
        have HVc := Lib.hid hvc
        have HOk := Lib.hid hok
        have i0 : (0 : Int) ≤ (κ : Int) := by omega
        have i1 : (κ : Int) < (ls.length : Int) := by omega
        clear hcc hv hvc hok hl2
        go_wp2
        go_loopw [11, 12] (fun ov kk ws => ∃ m : Nat, kk = .int .i64 m ∧ m ≤ l.length ∧ Fx No wa ws ∧ ws.ownsRow wa.heap.size 23 1 ov m (ncells kU ((l.take m).map (turnU p q)))) (fun _ kk _ => l.length - (intOf kk).toNat)
        case atStart => exact ⟨0, rfl, by omega, Fx.refl _ _, World.ownsRow_nil _ _ _ _⟩
        case round =>
          obtain ⟨m, rfl, hm, hf, ho⟩ := hrel
          have HF := Lib.hid hf
          have HO := Lib.hid ho
          have hcm := hf.cell' hcr (fun h => h)
          obtain ⟨wm, hwm⟩ : ∃ x, x = wr := ⟨_, rfl⟩
          subst hwm
          clear hf ho
          by_cases hml : m < l.length
          · have d2 : decide ((m : Int) < (l.length : Int)) = true := decide_eq_true (by omega)
            have d2' : decide (m < l.length) = true := decide_eq_true hml
            obtain ⟨gr, orr, rfl, _, hcx⟩ := HVc.out m hml
            have hxk := HOk.out (gi l m) (gi_mem hml)
            have hcx' := HF.out.cell' (HB.out.fx.cell' hcx (fun h => h)) (fun h => h)
            have e1 := turnU_wrap (q := q) hp hxk
            obtain ⟨X, hX⟩ : ∃ X, X = bits .xor .u64 (gi l m) (p : Int) := ⟨_, rfl⟩
            rw [← hX] at e1
            have e0 := hX.symm
            have j0 : (0 : Int) ≤ (m : Int) := by omega
            have j1 : (m : Int) < (l.length : Int) := by omega
            clear hX
            have t1 : wa.heap.size ≤ (wm.alloc (.cells #[.int .u64 (turnU p q (gi l m))] 23)).heap.size := by
              have := HF.out.size
              simp; omega
            have t2 : One (#[.int .u64 (turnU p q (gi l m))] : Array Value).toList := by
              intro u hu
              simp at hu
              rw [hu]; rfl
            have t3 : m + 1 ≤ maxLen := by unfold maxLen; omega
            have t4 : (m + 1) * 8 ≤ 140737488355328 := by omega
            have T1 := Lib.hid t1
            clear t1
            go_wp2_with (at_builtin; refine wpList_append_kept rfl _ _ 27 rfl wa.heap.size 23 Try.underlying27 hi hz hs hby rfl (by decide) rfl (World.ownsRow.alloc HO.out _) rfl (SlV.lit _ 23 #[.int .u64 (turnU p q (gi l m))] 1 1 rfl (by unfold maxLen; omega)) t2 (by omega) t3 t4 T1.out ?_)
            intro v2 w6 ho hf _ hbk
            have hown : ∀ j, u11.ownBlock = some j → wa.heap.size ≤ j := fun j e => (World.ownsRow.lt HO.out j e).1
            have HO2 : Hid (w6.ownsRow wa.heap.size 23 1 v2 (m + 1) (ncells kU ((l.take (m + 1)).map (turnU p q)))) := Lib.hid (by
              rw [take_gi hml, List.map_append, ncells_append, List.map_take]
              exact ho)
            have HF2 : Hid (Fx No wa w6) := Lib.hid ((HF.out.alloc _).trans' hf fun j h1 h2 => by have := hown j h1; omega)
            clear ho hf hbk e0 e1
            go_wp2
            go_roundw
            case rel => exact ⟨m + 1, by first | rfl | go_num, by omega, HF2.out, HO2.out⟩
            case measure => simp [intOf]; omega
          · obtain rfl : m = l.length := by omega
            have d2 : decide ((l.length : Int) < (l.length : Int)) = false := decide_eq_false (by omega)
            have d2' : decide (l.length < l.length) = false := decide_eq_false (by omega)
            have HO2 : Hid (OwnU wm wa.heap.size u11 (l.map (turnU p q))) := Lib.hid (by
              have := HO.out
              rw [List.take_length] at this
              unfold OwnU
              rw [List.length_map]; exact this)
            clear hml HO
            obtain ⟨oao, ocap, hov, _⟩ := SlV.ofOwns HO2.out
            rw [List.length_map] at hov
            subst hov
            obtain ⟨L1, hL1⟩ : ∃ q, q = addN L l := ⟨_, rfl⟩
            obtain ⟨M, hM⟩ := prefix_addN L l
            rw [← hL1] at hM
            have hlen1 := (length_addN L l).2
            rw [← hL1] at hlen1
            have HL1 := Lib.hid hL1
            have HMp := Lib.hid hM
            have hLle : L.length ≤ L1.length := by rw [hM]; simp
            clear hL1 hM
            go_wp2_with fail
            refine (add_any (HB.out.t.no HF.out) (HV.out.keep (HB.out.fx.trans HF.out) No.disj) HOk.out (fun j e r => by have := HB.out.tl j r; omega) (by omega)).mono ?_
            rintro e w2 ⟨rfl, hft, Dt2, hT2, hD2⟩
            rw [← HL1.out] at hT2
            have HFt := Lib.hid hft
            have HT2 := Lib.hid hT2
            have HD2 := Lib.hid hD2
            have HO3 : Hid (OwnU w2 wa.heap.size (.slice oao l.length ocap) (l.map (turnU p q))) := Lib.hid (ownsRow_fx HO2.out hft fun g e r => by have h1 := (World.ownsRow.lt HO2.out g e).1; have h2 := HB.out.t.lt g r; omega)
            have HU1 : Hid (TabU w2 Du (w1.heap.size + 1) (L.map (turnU p q))) := Lib.hid ((HB.out.u.no HF.out).keep hft fun j e r => HB.out.ap j r e)
            have HV3 : Hid (NumV w2 (Iv wa.heap.size w2.heap.size) (.slice oao l.length ocap) (l.map (turnU p q))) := Lib.hid (SlV.ofOwns HO3.out)
            have HOk3 : Hid (∀ x ∈ l.map (turnU p q), OkU x) := Lib.hid fun x hx => by
              obtain ⟨y, hy, rfl⟩ := List.mem_map.1 hx
              exact turnU_ok (HOk.out y hy)
            have HE3 : Hid (∀ j, Iv wa.heap.size w2.heap.size j → ¬ Du j) := Lib.hid fun j e r => by
              have h1 := e.1
              have h2 := HB.out.u.lt j r
              omega
            have HS3 : Hid ((L.map (turnU p q)).length + (l.map (turnU p q)).length ≤ 100000) := Lib.hid (by rw [List.length_map, List.length_map]; omega)
            clear hft hT2 hD2
            go_wp2_with fail
            refine (add_any (L := L.map (turnU p q)) (ks := l.map (turnU p q)) HU1.out HV3.out HOk3.out HE3.out HS3.out).mono ?_
            rintro e w3 ⟨rfl, hfu, Du2, hU2, hE2⟩
            rw [← map_addN (turnU_inj hp), ← HL1.out] at hU2
            rw [numN_map (turnU_inj hp)]
            have HB3 : Hid (BackS (turnU p q) w w3 w1.heap.size (w1.heap.size + 1) L1 Dt2 Du2) := Lib.hid (HB.out.step HF.out HT2.out HFt.out HD2.out hU2 hfu hE2)
            have HN3 : Hid (NumV w3 En (.slice nao L.length ncap) L) := Lib.hid (((HNm.out.no HF.out).keep HFt.out fun j e r => (HEn.out j e).2.2.1 r).keep hfu fun j e r => (HEn.out j e).2.2.2 r)
            clear hfu hU2 hE2
            go_wp2_with fail
            refine (len_any HB3.out.t).mono ?_
            rintro e w4 ⟨rfl, hf⟩
            have HB4 := Lib.hid (HB3.out.no hf)
            have HN4 := Lib.hid (HN3.out.no hf)
            clear hf
            go_wp2_with fail
            refine (len_any HB4.out.u).mono ?_
            rintro e w5 ⟨rfl, hf⟩
            rw [List.length_map]
            have HB5 := Lib.hid (HB4.out.no hf)
            have HN5 := Lib.hid (HN4.out.no hf)
            clear hf
            go_wp2_with fail
            refine (names_any HB5.out.t).mono ?_
            rintro e w6 ⟨nv2, rfl, hf, ho⟩
            have HB6 := Lib.hid (HB5.out.no hf)
            have HN6 := Lib.hid (HN5.out.no hf)
            have HO6 := Lib.hid ho
            obtain ⟨n2, nc2, rfl, _, _, hc2⟩ := NumV.facts (SlV.ofOwns ho)
            have HC2 := Lib.hid hc2
            obtain ⟨n3, nc3, e3, _, _, hc3⟩ := NumV.facts HN6.out
            simp only [Value.slice.injEq] at e3
            obtain ⟨rfl, _, rfl⟩ := e3
            have HC3 := Lib.hid hc3
            have HZ5 : Hid (∀ j, Dt2 j ∨ Du2 j → j < w5.heap.size) := Lib.hid fun j e => e.elim (HB5.out.t.lt j) (HB5.out.u.lt j)
            have hz5 := HB5.out.fx.size
            clear hf ho hc2 hc3
            have d3 : decide ((L1.length : Int) < (L.length : Int)) = false := decide_eq_false (by omega)
            have d3' : decide (L1.length < L.length) = false := decide_eq_false (by omega)
            go_wp2
            go_loopw [14] (fun kk ws => ∃ k : Nat, kk = .int .i64 k ∧ k ≤ L.length ∧ Fx No w6 ws) (fun kk _ => L.length - (intOf kk).toNat)
            case atStart => exact ⟨0, rfl, by omega, Fx.refl _ _⟩
            case round =>
              obtain ⟨k, rfl, hk, hf⟩ := hrel
              have HFk := Lib.hid hf
              clear hf
              by_cases hkl : k < L.length
              · have d4 : decide ((k : Int) < (L.length : Int)) = true := decide_eq_true (by omega)
                have d4' : decide (k < L.length) = true := decide_eq_true hkl
                obtain ⟨ga, oa, rfl, _, hca⟩ := HC2.out k (by omega)
                obtain ⟨gb, ob, rfl, _, hcb⟩ := HC3.out k hkl
                rw [HMp.out, gi_prefix hkl] at hca
                have hca' := HFk.out.cell' hca (fun h => h)
                have hcb' := HFk.out.cell' hcb (fun h => h)
                have k0 : (0 : Int) ≤ (k : Int) := by omega
                have k1 : (k : Int) < (L.length : Int) := by omega
                have k2 : (k : Int) < (L1.length : Int) := by omega
                clear hca hcb
                go_wp2
                go_quiet (fail)
                go_wp2
                go_roundw
                case rel => exact ⟨k + 1, by first | rfl | go_num, by omega, HFk.out.drewN _⟩
                case measure => simp [intOf]; omega
              · obtain rfl : k = L.length := by omega
                have d4 : decide ((L.length : Int) < (L.length : Int)) = false := decide_eq_false (by omega)
                have d4' : decide (L.length < L.length) = false := decide_eq_false (by omega)
                obtain ⟨w7, hw7⟩ : ∃ x, x = wr := ⟨_, rfl⟩
                subst hw7
                have HB7 := Lib.hid (HB6.out.no HFk.out)
                have HX7 : Hid (∀ j, j < L1.length → ∃ ga oa, n2 = some ⟨ga, oa, none⟩ ∧ w7.cell? ⟨ga, oa + j, none⟩ = some (.int .u64 (gi L1 j))) := Lib.hid fun j hj => by
                  obtain ⟨ga, oa, e1, _, h2⟩ := HC2.out j hj
                  exact ⟨ga, oa, e1, HFk.out.cell' h2 (fun h => h)⟩
                go_wp2
                go_loopw [15, 16, 17, 18, 19, 20, 21] (fun kk _ _ _ _ _ _ ws => ∃ k : Nat, kk = .int .i64 k ∧ k ≤ L1.length ∧ Fx No w7 ws) (fun kk _ _ _ _ _ _ _ => L1.length - (intOf kk).toNat)
                case atStart => exact ⟨0, rfl, by omega, Fx.refl _ _⟩
                case round =>
                  obtain ⟨k, rfl, hk, hf⟩ := hrel
                  have HFq := Lib.hid hf
                  obtain ⟨wq, hwq⟩ : ∃ x, x = wr := ⟨_, rfl⟩
                  subst hwq
                  clear hf
                  by_cases hkl : k < L1.length
                  · have d5 : decide ((k : Int) < (L1.length : Int)) = true := decide_eq_true (by omega)
                    have d5' : decide (k < L1.length) = true := decide_eq_true hkl
                    obtain ⟨ga, oa, rfl, hca⟩ := HX7.out k hkl
                    have hca' := HFq.out.cell' hca (fun h => h)
                    have k0 : (0 : Int) ≤ (k : Int) := by omega
                    have k1 : (k : Int) < (L1.length : Int) := by omega
                    obtain ⟨x, hx⟩ : ∃ x, x = gi L1 k := ⟨_, rfl⟩
                    have hmem : x ∈ L1 := by rw [hx]; exact gi_mem hkl
                    have hxk : OkU x := HB7.out.t.ok x hmem
                    have hix : ix L1 x = k := ix_of HB7.out.t.nd (by rw [hx]; exact gi_get? hkl)
                    have hfnd : fnd L1 x = ((k : Nat) : Int) := by rw [fnd_in hmem, hix]
                    have hisn := isIn_in hmem
                    have hnam : nam L1 ((k : Nat) : Int) = x := by unfold nam; rw [if_pos ⟨by omega, by omega⟩, hx]; rfl
                    have hnE : namE L1 ((k : Nat) : Int) = 0 := by unfold namE; rw [if_pos ⟨by omega, by omega⟩]
                    have hmem2 : turnU p q x ∈ L1.map (turnU p q) := List.mem_map_of_mem hmem
                    have hfnd2 : fnd (L1.map (turnU p q)) (turnU p q x) = ((k : Nat) : Int) := by rw [fnd_in hmem2, ix_map (turnU_inj hp), hix]
                    have hisn2 := isIn_in hmem2
                    have e1 := turnU_wrap (q := q) hp hxk
                    have hok2 := turnU_ok (p := p) (q := q) hxk
                    obtain ⟨X, hX⟩ : ∃ X, X = bits .xor .u64 x (p : Int) := ⟨_, rfl⟩
                    rw [← hX] at e1
                    have e0 := hX.symm
                    rw [← hx] at hca'
                    have HCa := Lib.hid hca'
                    have HE1 := Lib.hid e1
                    have HE0 := Lib.hid e0
                    have HF2d := Lib.hid hfnd2
                    have HI2 := Lib.hid hisn2
                    have HNa := Lib.hid hnam
                    have HNe := Lib.hid hnE
                    clear hca hX hx hmem hmem2 hix e0 e1 hfnd2 hisn2 hnam hnE
                    go_wp2_with fail
                    refine (find_any (HB7.out.t.no HFq.out) hxk).mono ?_
                    rintro e y1 ⟨rfl, hf⟩
                    rw [hfnd, hisn]
                    have HY1 := Lib.hid (HFq.out.trans hf)
                    have hca1 := hf.cell' HCa.out (fun h => h)
                    clear hf hfnd hisn hca'
                    go_wp2_with fail
                    refine (name_any (HB7.out.t.no HY1.out) ((k : Nat) : Int)).mono ?_
                    rintro e y2 ⟨rfl, hf⟩
                    rw [HNa.out, HNe.out]
                    have HY2 := Lib.hid (HY1.out.trans hf)
                    have hca2 := hf.cell' hca1 (fun h => h)
                    have e0 := HE0.out
                    have e1 := HE1.out
                    clear hf hca1
                    go_wp2_with fail
                    refine (find_any (HB7.out.u.no HY2.out) hok2).mono ?_
                    rintro e y3 ⟨rfl, hf⟩
                    rw [HF2d.out, HI2.out]
                    have HY3 := Lib.hid (HY2.out.trans hf)
                    have hca3 := hf.cell' hca2 (fun h => h)
                    clear hf hca2 e0 e1
                    go_wp2
                    go_roundw
                    case rel => exact ⟨k + 1, by first | rfl | go_num, by omega, HY3.out⟩
                    case measure => simp [intOf]; omega
                  · obtain rfl : k = L1.length := by omega
                    have d5 : decide ((L1.length : Int) < (L1.length : Int)) = false := decide_eq_false (by omega)
                    have d5' : decide (L1.length < L1.length) = false := decide_eq_false (by omega)
                    have HN9 : Hid (NumV wq (Iv w5.heap.size w6.heap.size) (.slice n2 L1.length nc2) L1) := Lib.hid (NamV.no (SlV.ofOwns HO6.out) (HFk.out.trans HFq.out))
                    have hz6 : w6.heap.size ≤ wq.heap.size := (HFk.out.trans HFq.out).size
                    go_wp2
                    go_roundw
                    case rel => exact ⟨κ + 1, L1, Dt2, Du2, Iv w5.heap.size w6.heap.size, by first | rfl | go_num, by omega, by omega, HB7.out.no HFq.out, HN9.out, fun j e => ⟨by have := e.1; omega, by have := e.2; omega, fun r => by have h1 := e.1; have h2 := HZ5.out j (.inl r); omega, fun r => by have h1 := e.1; have h2 := HZ5.out j (.inr r); omega⟩⟩
                    case measure => simp [intOf]; omega
      · obtain rfl : κ = ls.length := by omega
        have d1 : decide ((ls.length : Int) < (ls.length : Int)) = false := decide_eq_false (by omega)
        have d1' : decide (ls.length < ls.length) = false := decide_eq_false (by omega)
        go_wp2_with fail
        refine (works_any _).mono ?_
        rintro e w2 ⟨rfl, hf⟩
        have HF9 := Lib.hid (HB.out.fx.trans hf)
        clear hf
        go_wp2
        go_ret
        exact ⟨rfl, HF9.out⟩
theorem back_said {w : World} {v : Value} {ls : List (List Int)} (h : RowsU w (fun j => j < w.heap.size) v ls) (a : Int) (ha : (Lit.int .u64 a).wf = true) (b : Int) (hb : (Lit.int .u64 b).wf = true) : Calls Try.prog 3 #[v, .int .u64 a, .int .u64 b] w fun e w' => e = .returned (.bool true) ∧ Fx No w w' := by
  have h1 := ok_wfU ha
  have h2 := ok_wfU hb
  obtain ⟨p, rfl⟩ := Int.eq_ofNat_of_zero_le h1.1
  obtain ⟨q, rfl⟩ := Int.eq_ofNat_of_zero_le h2.1
  exact back_any h p q (by have := h1.2; omega)
#print axioms back_any
end Go.Proofs.Ytpegloapdkfgiaa
