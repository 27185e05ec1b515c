/- The law ClosureOrders. -/
import Derived.Test.YtfpggeiphbekoaaGreatDoorQB
import Derived.Deep.CutBlock
import Derived.Deep.DeepCutAuto
import Derived.StillTailTactics
namespace Go.Proofs.YtfpggeiphbekoaaGreatDoor
open Go.RowKit Gr
set_option linter.unusedVariables false

theorem natsP_at {l : List (Int × Int)} {q : Nat} (hq : q < l.length) : ((gt l q).1.toNat, (gt l q).2.toNat) ∈ natsP l := List.mem_map.2 ⟨_, gt_mem hq, rfl⟩
theorem drop_rev {l : List (Int × Int)} {q : Nat} (hq : q < l.length) : natsP (l.drop q).reverse = natsP (l.drop (q + 1)).reverse ++ [((gt l q).1.toNat, (gt l q).2.toNat)] := by
  rw [List.drop_eq_getElem_cons hq, List.reverse_cons]
  unfold natsP
  rw [List.map_append]
  simp [gt, hq]
/-- what stays throughout: the graph, the first closure, its edges' row -/
structure OrC (w W : World) (gb N : Nat) (L : List Ed) (D : Nat → Prop) (sc : S3) (kc : CC) (s2 hi s3 s4 s5 : Nat) (va : Value) (al : List (Int × Int)) : Prop where
  fx : Fx No w W
  g : GraphV W D gb N L
  glt : ∀ x, D x → x < s3
  c : Clo W (Iv s2 hi) N sc.dn sc.up sc.ed kc
  all : PairsV W (Iv s4 s5) va al
  lo : w.heap.size ≤ s2 ∧ s2 ≤ s3 ∧ hi ≤ s3 ∧ s3 ≤ s4 ∧ s4 ≤ s5 ∧ s5 ≤ W.heap.size
theorem OrC.turn {w W W' : World} {gb N : Nat} {L : List Ed} {D S : Nat → Prop} {sc : S3} {kc : CC} {s2 hi s3 s4 s5 : Nat} {va : Value} {al : List (Int × Int)} (h : OrC w W gb N L D sc kc s2 hi s3 s4 s5 va al) (hf : Fx S W W') (hS : ∀ x, S x → s3 ≤ x ∧ ¬ (s4 ≤ x ∧ x < s5)) :
    OrC w W' gb N L D sc kc s2 hi s3 s4 s5 va al := by
  obtain ⟨l1, l2, l3, l4, l5, l6⟩ := h.lo
  have z := hf.size
  exact ⟨h.fx.trans' hf fun j h1 h2 => by have := hS j h1; omega, h.g.keep hf fun x hx h1 => by have := hS x h1; have := h.glt x hx; omega, h.glt, h.c.keep hf fun x hx h1 => by have := hS x h1; have := hx.2; omega,
    h.all.keep hf fun x hx h1 => by have := hS x h1; exact this.2 hx, l1, l2, l3, l4, l5, by omega⟩
theorem OrC.no {w W W' : World} {gb N : Nat} {L : List Ed} {D : Nat → Prop} {sc : S3} {kc : CC} {s2 hi s3 s4 s5 : Nat} {va : Value} {al : List (Int × Int)} (h : OrC w W gb N L D sc kc s2 hi s3 s4 s5 va al) (hf : Fx No W W') :
    OrC w W' gb N L D sc kc s2 hi s3 s4 s5 va al := h.turn hf fun _ h => h.elim
theorem OrC.tab {w W : World} {gb N : Nat} {L : List Ed} {D : Nat → Prop} {sc : S3} {kc : CC} {s2 hi s3 s4 s5 : Nat} {va : Value} {al : List (Int × Int)} (h : OrC w W gb N L D sc kc s2 hi s3 s4 s5 va al) (hT : TabOk w) : TabOk W := hT.keep h.fx fun h => h
theorem OrC.cell {w W : World} {gb N : Nat} {L : List Ed} {D : Nat → Prop} {sc : S3} {kc : CC} {s2 hi s3 s4 s5 : Nat} {vo : Option Addr} {n vc : Nat} {al : List (Int × Int)} (h : OrC w W gb N L D sc kc s2 hi s3 s4 s5 (.slice vo n vc) al) {k : Nat} (hk : k < al.length) :
    n = al.length ∧ ∃ b o, vo = some ⟨b, o, none⟩ ∧ (s4 ≤ b ∧ b < s5) ∧ W.cell? ⟨b, o + k * 2, none⟩ = some (.int .i64 (gt al k).1) ∧ W.cell? ⟨b, o + k * 2 + 1, none⟩ = some (.int .i64 (gt al k).2) := by
  obtain ⟨vo', vc', e, _, _, hh⟩ := PairsV.facts h.all
  simp only [Value.slice.injEq] at e
  obtain ⟨rfl, rfl, rfl⟩ := e
  obtain ⟨b, o, h1, h2, h3, h4⟩ := hh k hk
  exact ⟨rfl, b, o, h1, h2, h3, h4⟩
theorem skip_step {le : List (Int × Int)} {k o : Nat} (hk : k < le.length) : natsP ((le.take (k + 1)).eraseIdx o) = natsP ((le.take k).eraseIdx o) ++ if k = o then [] else [((gt le k).1.toNat, (gt le k).2.toNat)] := by
  have hl : (le.take k).length = k := by rw [List.length_take]; omega
  rw [take_gt hk]
  rcases Nat.lt_trichotomy k o with c | c | c
  · rw [if_neg (by omega), List.eraseIdx_of_length_le (by rw [List.length_append, hl]; simp; omega), List.eraseIdx_of_length_le (by omega)]
    unfold natsP; simp
  · subst c
    rw [if_pos rfl, List.append_nil, List.eraseIdx_append_of_length_le (by omega), hl, Nat.sub_self, List.eraseIdx_of_length_le (l := le.take k) (by omega)]
    simp
  · rw [if_neg (by omega), List.eraseIdx_append_of_lt_length (by omega)]
    unfold natsP; simp
theorem take_snoc {le : List (Int × Int)} {k : Nat} (hk : k < le.length) : natsP (le.take (k + 1)) = natsP (le.take k) ++ [((gt le k).1.toNat, (gt le k).2.toNat)] := by
  rw [take_gt hk]; unfold natsP; simp
theorem allS_append (n : Nat) (s : S3) (l m : List (Nat × Nat)) : allS n s (l ++ m) = allS n (allS n s l) m := by simp [allS]
section
variable {w w' : World} {E E2 : Nat → Prop} {l : List Ed} {v u : Value} {zs : List Int}
set_option maxRecDepth 100000 in
set_option maxHeartbeats 8000000 in
theorem orders_any (n : Int) (h : EdsV w E v l) (hok : ∀ x ∈ l, x.ok) (ho : IntsV w E2 u zs) (which : Int) (hT : TabOk w) :
    Calls Tryz.prog 6 #[.int .i64 n, v, u, .int .i64 which] w fun e w' => e = .returned (.bool true) ∧ Fx No w w' := by
  have HE := Lib.hid h
  have HOk := Lib.hid hok
  have HT := Lib.hid hT
  have hTl := hT.lt
  obtain ⟨ao, cap, rfl, hcl, hcm, _⟩ := EdsV.facts h
  obtain ⟨bo, bcap, rfl, hbl, hbc⟩ := ho.facts
  have HZ := Lib.hid hbc
  clear h hok ho hT hbc
  by_cases h1 : 24 < l.length ∨ 60 < zs.length
  · have key : ∀ a b : Bool, (a = decide ((24 : Int) < (l.length : Int))) → (b = decide ((60 : Int) < (zs.length : Int))) → (a || b) = true := by
      rintro a b rfl rfl
      simp only [Bool.or_eq_true, decide_eq_true_eq]
      omega
    obtain ⟨d1, hd1⟩ : ∃ d, d = decide ((24 : Int) < (l.length : Int)) := ⟨_, rfl⟩
    obtain ⟨d2, hd2⟩ : ∃ d, d = decide ((60 : Int) < (zs.length : Int)) := ⟨_, rfl⟩
    have hd := key d1 d2 hd1 hd2
    have e1 := hd1.symm
    have e2 := hd2.symm
    clear key h1 hd1 hd2
    cases d1
    · cases d2
      · cases hd
      · clear hd
        go_enter Tryz.func6, Tryz.ntmps6
        go_wp2_with fail
        refine (works_any HT.out).mono ?_
        rintro e w1 ⟨rfl, hf⟩
        have HF := Lib.hid hf
        clear hf
        go_wp2
        go_ret
        exact ⟨rfl, HF.out⟩
    · clear hd e2
      go_enter Tryz.func6, Tryz.ntmps6
      go_wp2_with fail
      refine (works_any HT.out).mono ?_
      rintro e w1 ⟨rfl, hf⟩
      have HF := Lib.hid hf
      clear hf
      go_wp2
      go_ret
      exact ⟨rfl, HF.out⟩
  · have d1 : decide ((24 : Int) < (l.length : Int)) = false := decide_eq_false (by omega)
    have d2 : decide ((60 : Int) < (zs.length : Int)) = false := decide_eq_false (by omega)
    have hl24 : l.length ≤ 24 := by omega
    have hz60 : zs.length ≤ 60 := by omega
    clear h1
    go_enter Tryz.func6, Tryz.ntmps6
    go_wp2_with fail
    refine (drawn_any HE.out HOk.out (by omega) n 10 (by omega)).mono ?_
    rintro e w1 ⟨gb, N, L, rv, D, R, rfl, hD, hN, hL⟩
    obtain ⟨ro, rc, rfl, _⟩ := EdsV.facts hD.row
    have HD1 := Lib.hid hD
    have hL24 : L.length ≤ 24 := by omega
    have zz1 := hD.fx.size
    clear hD d1 d2 hL
    go_wp2_with fail
    refine calls_hold (fun W => Fx No w1 W) ((Fx.refl No _).alloc _) ?_
    rintro w2 hfx
    have HFx := Lib.hid (HD1.out.fx.trans hfx)
    have HG2 := Lib.hid (HD1.out.g.no hfx)
    have z2 := hfx.size
    clear hfx
    refine (cloOf_any HG2.out (by omega) (HT.out.keep HFx.out (fun h => h))).mono ?_
    rintro e w3 ⟨kc, hi, rfl, hf, hC, hhi⟩
    have HF3 := Lib.hid (HFx.out.trans hf)
    have HG3 := Lib.hid (HG2.out.no hf)
    have z3 := hf.size
    have HIs : Hid (Is N (allS N zS (edN L)) fun i j => False ∨ (i, j) ∈ edN L) := Lib.hid ((Is.start N).all (edN_in HG2.out.nodes))
    obtain ⟨sc, hsc⟩ : ∃ s, s = allS N zS (edN L) := ⟨_, rfl⟩
    rw [← hsc] at hC HIs
    obtain ⟨Ec, hEc⟩ : ∃ E : Nat → Nat → Prop, E = fun i j => False ∨ (i, j) ∈ edN L := ⟨_, rfl⟩
    rw [← hEc] at HIs
    have HC3 := Lib.hid hC
    clear hf hC hsc hEc
    go_wp2_with fail
    refine (gLen_any HG3.out).mono ?_
    rintro e w0 ⟨rfl, rfl⟩
    go_wp2_with fail
    refine (cloNew_any N w3 (by omega)).mono ?_
    rintro e w4 ⟨kd, rfl, hf, hC⟩
    have HF4 := Lib.hid (HF3.out.trans hf)
    have HG4 := Lib.hid (HG3.out.no hf)
    have HC4 := Lib.hid (HC3.out.no hf)
    have HD4 : Hid (Clo w4 (Iv w3.heap.size w4.heap.size) N zS.dn zS.up zS.ed kd) := Lib.hid hC
    have z4 := hf.size
    clear hf hC
    go_wp2_with fail
    refine (edges_any HC4.out (HT.out.keep HF4.out (fun h => h))).mono ?_
    rintro e w5 ⟨va, rfl, hf, ho⟩
    have HF5 := Lib.hid (HF4.out.trans hf)
    have HG5 := Lib.hid (HG4.out.no hf)
    have HC5 := Lib.hid (HC4.out.no hf)
    have HD5 := Lib.hid (HD4.out.no hf)
    have hal := edgesTo_len N sc.ed N
    have hNN : N * N ≤ 10 * 10 := Nat.mul_le_mul hN hN
    have HAn : Hid (∀ q ∈ edgesTo N sc.ed N, ∃ i j : Nat, q = ((i : Int), (j : Int)) ∧ i < N ∧ j < N) := Lib.hid fun q hq => edges_nat hq
    have HAm : Hid (∀ i j : Nat, ((i : Int), (j : Int)) ∈ edgesTo N sc.ed N ↔ Ec i j) := Lib.hid fun i j => HIs.out.ed i j
    obtain ⟨al, hla⟩ : ∃ al, al = edgesTo N sc.ed N := ⟨_, rfl⟩
    rw [← hla] at ho hal HAn HAm
    have HLa := Lib.hid hla
    have z5 := hf.size
    have hal100 : al.length ≤ 100 := by omega
    obtain ⟨vo, vc, rfl, _⟩ := PairsV.facts (OwnT.row ho)
    obtain ⟨s2, hs2⟩ : ∃ s, s = w2.heap.size := ⟨_, rfl⟩
    obtain ⟨s3, hs3⟩ : ∃ s, s = w3.heap.size := ⟨_, rfl⟩
    obtain ⟨s4, hs4⟩ : ∃ s, s = w4.heap.size := ⟨_, rfl⟩
    obtain ⟨s5, hs5⟩ : ∃ s, s = w5.heap.size := ⟨_, rfl⟩
    have HO5 : Hid (OrC w w5 gb N L D sc kc s2 hi s3 s4 s5 (.slice vo al.length vc) al) := Lib.hid (by
      have hr := OwnT.row ho
      rw [← hs4, ← hs5] at hr
      have hc := HC5.out
      rw [← hs2] at hc
      exact ⟨HF5.out, HG5.out, fun x hx => by have := HD1.out.g.lt x hx; omega, hc, hr, by omega, by omega, by omega, by omega, by omega, by omega⟩)
    have HD5 : Hid (Clo w5 (Iv s3 s4) N (allS N zS []).dn (allS N zS []).up (allS N zS []).ed kd) := Lib.hid (by rw [hs3, hs4]; exact HD5.out)
    have h34 : s3 ≤ s4 := by omega
    have h45 : s4 ≤ s5 := by omega
    have h5w : s5 ≤ w5.heap.size := by omega
    have HTn : Hid (∀ a b, s3 ≤ a → ¬ Iv a b 0) := Lib.hid fun a b ha h => by have := h.1; omega
    have HD2 : Hid (∀ x, Iv s3 s4 x → s3 ≤ x ∧ ¬ (s4 ≤ x ∧ x < s5)) := Lib.hid fun x hx => ⟨hx.1, fun h => by have := hx.2; omega⟩
    clear hf ho hal hNN hTl hla hs2 hs3 hs4 hs5 HD4 HG5 HC5 HF5 HC4 HG4 HF4 HC3 HG3 HF3 HG2 HFx HD1 zz1 z2 z3 z4 z5 hhi
    go_upto_block 0 with fail
    go_cut [16, 17] (fun _ _ wx => ∃ l1 : List (Nat × Nat), (∀ p ∈ l1, p ∈ natsP al) ∧ OrC w wx gb N L D sc kc s2 hi s3 s4 s5 (.slice vo al.length vc) al ∧ Clo wx (Iv s3 s4) N (allS N zS l1).dn (allS N zS l1).up (allS N zS l1).ed kd)
    case first =>
      go_wp2_with fail
      go_loopg [16, 17] zs.length (fun g i _ wx => ∃ (q : Nat) (l1 : List (Nat × Nat)), q ≤ zs.length ∧ g = zs.length - q ∧ i = .int .i64 q ∧ (∀ p ∈ l1, p ∈ natsP al) ∧ OrC w wx gb N L D sc kc s2 hi s3 s4 s5 (.slice vo al.length vc) al ∧ Clo wx (Iv s3 s4) N (allS N zS l1).dn (allS N zS l1).up (allS N zS l1).ed kd)
      case atStart => exact ⟨0, [], Nat.zero_le _, rfl, rfl, by simp, HO5.out, HD5.out⟩
      case round =>
        obtain ⟨q, l1, hq, rfl, rfl, hl1, hO, hD⟩ := hrel
        have HL1 := Lib.hid hl1
        have HO := Lib.hid hO
        have HD := Lib.hid hD
        have zr := hO.lo.2.2.2.2.2
        clear hl1 hO hD
        by_cases hqz : q < zs.length
        · have e1 : decide ((q : Int) < (zs.length : Int)) = true := decide_eq_true (by omega)
          by_cases hap : 0 < al.length
          · have e2 : decide ((0 : Int) < (al.length : Int)) = true := decide_eq_true (by omega)
            obtain ⟨b1, o1, rfl, _, c1⟩ := HZ.out q hqz
            have c1 := HO.out.fx.cell' c1 (fun h => h)
            obtain ⟨z, hz⟩ : ∃ z, z = gi zs q := ⟨_, rfl⟩
            rw [← hz] at c1
            have hq0 : (0 : Int) ≤ (q : Int) := by omega
            have hq1 : (q : Int) < (zs.length : Int) := by omega
            clear hz
            go_wp2_with fail
            refine (pick_any z al.length hap (by omega) _).mono ?_
            rintro e wp ⟨c, hc, rfl, rfl⟩
            obtain ⟨_, b2, o2, rfl, hb2, x1, x2⟩ := HO.out.cell hc
            have HNat := Lib.hid (natsP_at hc)
            obtain ⟨i, j, hij, hi, hj⟩ := HAn.out _ (gt_mem hc)
            rw [hij] at x1 x2 HNat
            simp only [Int.toNat_natCast] at x1 x2 HNat
            have hc0 : (0 : Int) ≤ (c : Int) := by omega
            have hc1 : (c : Int) < (al.length : Int) := by omega
            clear hij hb2
            go_wp2_with fail
            refine (cloAdd_any (f := i) (t := j) (HD.out.no ((Fx.refl No _).alloc _)) (fun x hx => by have := hx.2; simp; omega) (HT.out.keep (HO.out.fx.alloc _) (fun h => h)) (HTn.out _ _ (Nat.le_refl _)) hi hj).mono ?_
            rintro e w6 ⟨rfl, hf, hC⟩
            have HO6 := Lib.hid ((HO.out.no ((Fx.refl No _).alloc _)).turn hf HD2.out)
            have HD6 : Hid (Clo w6 (Iv s3 s4) N (allS N zS (l1 ++ [(i, j)])).dn (allS N zS (l1 ++ [(i, j)])).up (allS N zS (l1 ++ [(i, j)])).ed kd) := Lib.hid (by rw [allS_snoc]; exact hC)
            clear hf hC
            go_wp2
            go_roundg (zs.length - (q + 1))
            case measure => omega
            case rel => exact ⟨q + 1, l1 ++ [(i, j)], by omega, rfl, by go_num, fun p hp => by
              rcases List.mem_append.1 hp with h | h
              · exact HL1.out p h
              · rw [List.mem_singleton] at h; subst h; exact HNat.out, HO6.out, HD6.out⟩
          · have e2 : decide ((0 : Int) < (al.length : Int)) = false := decide_eq_false (by omega)
            go_wp2_with fail
            go_meet
            exact ⟨l1, HL1.out, HO.out, HD.out⟩
        · have e1 : decide ((q : Int) < (zs.length : Int)) = false := decide_eq_false (by omega)
          go_wp2_with fail
          go_meet
          exact ⟨l1, HL1.out, HO.out, HD.out⟩
    case rest =>
    obtain ⟨l1, hl1, hO, hD⟩ := hcut
    have HL1 := Lib.hid hl1
    have HO6 := Lib.hid hO
    have HD6 := Lib.hid hD
    clear hl1 hO hD HO5 HD5
    go_wp2
    go_loopg [18] (al.length + 1) (fun g i wx => ∃ (m : Nat) (z : Int), m ≤ al.length ∧ g = m + 1 ∧ i = .int .i64 z ∧ Hid (z = (m : Int) - 1) ∧ OrC w wx gb N L D sc kc s2 hi s3 s4 s5 (.slice vo al.length vc) al ∧ Clo wx (Iv s3 s4) N (allS N zS (l1 ++ natsP (al.drop m).reverse)).dn (allS N zS (l1 ++ natsP (al.drop m).reverse)).up (allS N zS (l1 ++ natsP (al.drop m).reverse)).ed kd)
    case atStart => exact ⟨al.length, _, Nat.le_refl _, rfl, rfl, Lib.hid (by go_num), HO6.out, by simpa [natsP] using HD6.out⟩
    case round =>
      obtain ⟨m, z, hm, rfl, rfl, hz, hO, hD⟩ := hrel
      have HO := Lib.hid hO
      have HD := Lib.hid hD
      have zr := hO.lo.2.2.2.2.2
      clear hO hD
      cases m with
      | succ q =>
        have hzq : z = (q : Int) := by rw [hz.out]; omega
        subst hzq
        have hql : q < al.length := by omega
        obtain ⟨_, b2, o2, rfl, hb2, x1, x2⟩ := HO.out.cell hql
        obtain ⟨i, j, hij, hi, hj⟩ := HAn.out _ (gt_mem hql)
        have HNx := Lib.hid (drop_rev hql)
        rw [hij] at x1 x2 HNx
        simp only [Int.toNat_natCast] at x1 x2 HNx
        have hq0 : (0 : Int) ≤ (q : Int) := by omega
        have hq1 : (q : Int) < (al.length : Int) := by omega
        clear hij hb2
        go_wp2_with fail
        go_still_tail 11, (by kernel_rfl)
        change wpList _ _ _ _ _ wr.drew
        have HFd : Hid (Fx No wr wr.drew) := Lib.hid (Fx.refl No wr).drew
        have zd := HFd.out.size
        go_wp2_with fail
        refine (cloAdd_any (f := i) (t := j) (HD.out.no HFd.out) (fun x hx => by have := hx.2; omega) (HT.out.keep (HO.out.fx.trans HFd.out) (fun h => h)) (HTn.out _ _ (Nat.le_refl _)) hi hj).mono ?_
        rintro e w7 ⟨rfl, hf, hC⟩
        have HO7 := Lib.hid ((HO.out.no HFd.out).turn hf HD2.out)
        have HD7 : Hid (Clo w7 (Iv s3 s4) N (allS N zS (l1 ++ natsP (al.drop q).reverse)).dn (allS N zS (l1 ++ natsP (al.drop q).reverse)).up (allS N zS (l1 ++ natsP (al.drop q).reverse)).ed kd) := Lib.hid (by rw [HNx.out, ← List.append_assoc, allS_snoc]; exact hC)
        clear hf hC
        go_wp2
        go_roundg (q + 1)
        case measure => omega
        case rel => exact ⟨q, _, by omega, rfl, rfl, Lib.hid (by go_num), HO7.out, HD7.out⟩
      | zero =>
        have hz1 : z = -1 := by rw [hz.out]; rfl
        subst hz1
        have hIn : InN N (l1 ++ natsP (al.drop 0).reverse) := fun p hp => by
          have hp2 : p ∈ natsP al := by
            rcases List.mem_append.1 hp with h | h
            · exact HL1.out p h
            · unfold natsP at h ⊢
              rw [List.drop_zero] at h
              obtain ⟨x, hx, rfl⟩ := List.mem_map.1 h
              exact List.mem_map.2 ⟨x, List.mem_reverse.1 hx, rfl⟩
          obtain ⟨x, hx, rfl⟩ := List.mem_map.1 hp2
          obtain ⟨i, j, rfl, hi, hj⟩ := HAn.out x hx
          exact ⟨by simpa using hi, by simpa using hj⟩
        have HIsd : Hid (Is N (allS N zS (l1 ++ natsP (al.drop 0).reverse)) Ec) := Lib.hid (((Is.start N).all hIn).congr fun i j => by
          have hal0 : ∀ q ∈ al, 0 ≤ q.1 ∧ 0 ≤ q.2 := fun q hq => by obtain ⟨a, b, rfl, _⟩ := HAn.out q hq; exact ⟨by show (0 : Int) ≤ (a : Int); omega, by show (0 : Int) ≤ (b : Int); omega⟩
          constructor
          · rintro (h | h)
            · exact h.elim
            · rcases List.mem_append.1 h with h | h
              · exact (HAm.out i j).1 ((mem_natsP hal0).1 (HL1.out _ h))
              · refine (HAm.out i j).1 ?_
                rw [List.drop_zero] at h
                exact List.mem_reverse.1 ((mem_natsP fun q hq => hal0 q (List.mem_reverse.1 hq)).1 h)
          · intro h
            refine .inr (List.mem_append.2 (.inr ?_))
            rw [List.drop_zero]
            exact (mem_natsP fun q hq => hal0 q (List.mem_reverse.1 hq)).2 (List.mem_reverse.2 ((HAm.out i j).2 h)))
        obtain ⟨sd, hsd⟩ : ∃ s, s = allS N zS (l1 ++ natsP (al.drop 0).reverse) := ⟨_, rfl⟩
        rw [← hsd] at HD HIsd
        obtain ⟨w8, hw8⟩ : ∃ x, x = wr := ⟨_, rfl⟩
        subst hw8
        clear hsd hIn HO6 HD6 HL1
        go_wp2_with fail
        refine (alike_any HO.out.c HD.out (HO.out.tab HT.out) (HIs.out.same HIsd.out fun _ _ => Iff.rfl)).mono ?_
        rintro e w9 ⟨rfl, hf⟩
        have HO9 := Lib.hid (HO.out.no hf)
        have HD9 := Lib.hid (HD.out.no hf)
        clear hf
        go_wp2_with fail
        refine (edges_any HO9.out.c (HO9.out.tab HT.out)).mono ?_
        rintro e w10 ⟨va, rfl, hf, ho⟩
        have HO10 := Lib.hid (HO9.out.no hf)
        have HD10 := Lib.hid (HD9.out.no hf)
        have HA1 := Lib.hid (OwnT.row ho)
        clear hf ho
        go_wp2_with fail
        refine (edges_any HD10.out (HO10.out.tab HT.out)).mono ?_
        rintro e w11 ⟨vb, rfl, hf, ho⟩
        have HO11 := Lib.hid (HO10.out.no hf)
        have HA1 := Lib.hid (RowV.no HA1.out hf)
        have HB1 := Lib.hid (OwnT.row ho)
        have HEe : Hid (edgesTo N sc.ed N = edgesTo N sd.ed N) := Lib.hid (HIs.out.edges HIsd.out fun _ _ => Iff.rfl)
        clear hf ho
        go_wp2_with fail
        refine (same2_any HA1.out HB1.out).mono ?_
        rintro e w12 ⟨rfl, hf⟩
        have HO12 := Lib.hid (HO11.out.no hf)
        rw [decide_eq_true HEe.out]
        clear hf HA1 HB1 HEe HD10 HD9 HD HIsd HO HO9 HO10 HO11
        go_wp2
        go_loopg [19, 20, 21] N (fun g i _ _ wx => ∃ I : Nat, I ≤ N ∧ g = N - I ∧ i = .int .i64 I ∧ OrC w wx gb N L D sc kc s2 hi s3 s4 s5 (.slice vo al.length vc) al)
        case atStart => exact ⟨0, Nat.zero_le _, rfl, rfl, HO12.out⟩
        case round =>
          obtain ⟨I, hI, rfl, rfl, hO⟩ := hrel
          have HO := Lib.hid hO
          clear hO
          by_cases hIl : I < N
          · have e1 : decide ((I : Int) < (N : Int)) = true := decide_eq_true (by omega)
            go_wp2_with fail
            refine (gLen_any HO.out.g).mono ?_
            rintro e w0 ⟨rfl, rfl⟩
            go_wp2
            go_loopg [20, 21] N (fun g j _ wx => ∃ J : Nat, J ≤ N ∧ g = N - J ∧ j = .int .i64 J ∧ OrC w wx gb N L D sc kc s2 hi s3 s4 s5 (.slice vo al.length vc) al)
            case atStart => exact ⟨0, Nat.zero_le _, rfl, rfl, HO.out⟩
            case round =>
              obtain ⟨J, hJ, rfl, rfl, hO⟩ := hrel
              have HO := Lib.hid hO
              clear hO
              by_cases hJl : J < N
              · have e2 : decide ((J : Int) < (N : Int)) = true := decide_eq_true (by omega)
                go_wp2_with fail
                refine (gLen_any HO.out.g).mono ?_
                rintro e w0 ⟨rfl, rfl⟩
                go_wp2
                go_loopg [21] N (fun g m wx => ∃ K : Nat, K ≤ N ∧ g = N - K ∧ m = .int .i64 K ∧ OrC w wx gb N L D sc kc s2 hi s3 s4 s5 (.slice vo al.length vc) al)
                case atStart => exact ⟨0, Nat.zero_le _, rfl, rfl, HO.out⟩
                case round =>
                  obtain ⟨K, hK, rfl, rfl, hO⟩ := hrel
                  have HO := Lib.hid hO
                  clear hO
                  by_cases hKl : K < N
                  · have e3 : decide ((K : Int) < (N : Int)) = true := decide_eq_true (by omega)
                    have key : leadsB N sc.dn (I : Int) (J : Int) = true → leadsB N sc.dn (J : Int) (K : Int) = true → leadsB N sc.dn (I : Int) (K : Int) = true := fun h1 h2 => (HIs.out.leads hIl hKl).2 (((HIs.out.leads hIl hJl).1 h1).trans ((HIs.out.leads hJl hKl).1 h2))
                    have C1 := Lib.hid (fun W h => leads_any (HO.out.no h).c (I : Int) (J : Int) : ∀ W, Fx No wr W → _)
                    have C2 := Lib.hid (fun W h => leads_any (HO.out.no h).c (J : Int) (K : Int) : ∀ W, Fx No wr W → _)
                    have C3 := Lib.hid (fun W h => leads_any (HO.out.no h).c (I : Int) (K : Int) : ∀ W, Fx No wr W → _)
                    obtain ⟨t1, ht1⟩ : ∃ t, t = leadsB N sc.dn (I : Int) (J : Int) := ⟨_, rfl⟩
                    obtain ⟨t2, ht2⟩ : ∃ t, t = leadsB N sc.dn (J : Int) (K : Int) := ⟨_, rfl⟩
                    obtain ⟨t3, ht3⟩ : ∃ t, t = leadsB N sc.dn (I : Int) (K : Int) := ⟨_, rfl⟩
                    rw [← ht1, ← ht2, ← ht3] at key
                    rw [← ht1] at C1
                    rw [← ht2] at C2
                    rw [← ht3] at C3
                    clear ht1 ht2 ht3
                    go_wp2_with fail
                    refine (gLen_any HO.out.g).mono ?_
                    rintro e w0 ⟨rfl, rfl⟩
                    go_wp2_with fail
                    refine (C1.out _ (Fx.refl _ _)).mono ?_
                    rintro e wa ⟨rfl, hf⟩
                    have HFa := Lib.hid hf
                    have HO := Lib.hid (HO.out.no hf)
                    clear hf
                    cases t1
                    · go_wp2
                      go_roundg (N - (K + 1))
                      case measure => omega
                      case rel => exact ⟨K + 1, by omega, rfl, by go_num, HO.out⟩
                    · go_wp2_with fail
                      refine (C2.out _ HFa.out).mono ?_
                      rintro e wb ⟨rfl, hf⟩
                      have HFb := Lib.hid (HFa.out.trans hf)
                      have HO := Lib.hid (HO.out.no hf)
                      clear hf
                      cases t2
                      · go_wp2
                        go_roundg (N - (K + 1))
                        case measure => omega
                        case rel => exact ⟨K + 1, by omega, rfl, by go_num, HO.out⟩
                      · obtain rfl : t3 = true := key (by simp) (by simp)
                        go_wp2_with fail
                        refine (C3.out _ HFb.out).mono ?_
                        rintro e wc ⟨rfl, hf⟩
                        have HO := Lib.hid (HO.out.no hf)
                        clear hf
                        go_wp2
                        go_roundg (N - (K + 1))
                        case measure => omega
                        case rel => exact ⟨K + 1, by omega, rfl, by go_num, HO.out⟩
                  · have e3 : decide ((K : Int) < (N : Int)) = false := decide_eq_false (by omega)
                    go_wp2_with fail
                    refine (gLen_any HO.out.g).mono ?_
                    rintro e w0 ⟨rfl, rfl⟩
                    go_wp2
                    go_roundg (N - (J + 1))
                    case measure => omega
                    case rel => exact ⟨J + 1, by omega, rfl, by go_num, HO.out⟩
              · have e2 : decide ((J : Int) < (N : Int)) = false := decide_eq_false (by omega)
                go_wp2_with fail
                refine (gLen_any HO.out.g).mono ?_
                rintro e w0 ⟨rfl, rfl⟩
                go_wp2
                go_roundg (N - (I + 1))
                case measure => omega
                case rel => exact ⟨I + 1, by omega, rfl, by go_num, HO.out⟩
          · have e1 : decide ((I : Int) < (N : Int)) = false := decide_eq_false (by omega)
            obtain ⟨w13, hw13⟩ : ∃ x, x = wr := ⟨_, rfl⟩
            subst hw13
            go_wp2_with fail
            refine (gLen_any HO.out.g).mono ?_
            rintro e w0 ⟨rfl, rfl⟩
            go_wp2_with fail
            refine (least_any HO.out.c (HO.out.tab HT.out)).mono ?_
            rintro e w14 ⟨vl, rfl, hf, ho⟩
            have HO14 := Lib.hid (HO.out.no hf)
            have HLs : Hid (∀ q ∈ leastL N sc.dn sc.ed, ∃ i j : Nat, q = ((i : Int), (j : Int)) ∧ i < N ∧ j < N) := Lib.hid fun q hq => edges_nat (least_sub hq)
            have HLc : Hid (cycB N sc.dn = true → leastL N sc.dn sc.ed = []) := Lib.hid fun hc => by unfold leastL; rw [if_pos hc]
            have HLn : Hid (cycB N sc.dn = false → leastL N sc.dn sc.ed = [] → al = []) := Lib.hid fun hc h0 => by rw [HLa.out]; exact HIs.out.none hc h0
            have HLm : Hid (cycB N sc.dn = false → ∀ i j : Nat, ((i : Int), (j : Int)) ∈ leastL N sc.dn sc.ed ↔ needE Ec i j) := Lib.hid fun hc i j => HIs.out.least hc
            have HCy : Hid (cycB N sc.dn = false → ∀ i, ¬ Way Ec i i) := Lib.hid fun hc i hw => by have := HIs.out.cyc.2 ⟨i, hw⟩; rw [hc] at this; cases this
            have HSr : Hid (Srt (leastL N sc.dn sc.ed)) := Lib.hid (least_srt _ _)
            have CY0 := Lib.hid (fun W h => cyclic_any (HO14.out.no h).c : ∀ W, Fx No w14 W → _)
            obtain ⟨cy, hcy⟩ : ∃ c, c = cycB N sc.dn := ⟨_, rfl⟩
            have hll : (leastL N sc.dn sc.ed).length ≤ 100 := by
              have h1 : (leastL N sc.dn sc.ed).length ≤ (edgesTo N sc.ed N).length := by
                unfold leastL
                split
                · simp
                · exact List.length_filter_le _ _
              have h2 := HLa.out
              rw [← h2] at h1; omega
            obtain ⟨le, hle⟩ : ∃ l, l = leastL N sc.dn sc.ed := ⟨_, rfl⟩
            rw [← hcy] at CY0 HLc HLn HLm HCy
            rw [← hle] at HLs HLc HLn HLm HSr ho hll
            obtain ⟨eo, ec, rfl, _⟩ := PairsV.facts (OwnT.row ho)
            obtain ⟨s6, hs6⟩ : ∃ s, s = w13.heap.size := ⟨_, rfl⟩
            obtain ⟨s7, hs7⟩ : ∃ s, s = w14.heap.size := ⟨_, rfl⟩
            have HR14 : Hid (PairsV w14 (Iv s6 s7) (.slice eo le.length ec) le) := Lib.hid (by rw [hs6, hs7]; exact OwnT.row ho)
            have zl : s5 ≤ s6 ∧ s6 ≤ s7 ∧ s7 ≤ w14.heap.size := ⟨by have := HO.out.lo.2.2.2.2.2; omega, by have := hf.size; omega, by omega⟩
            obtain ⟨zl1, zl2, zl3⟩ := zl
            clear hf ho hcy hle hs6 hs7 HO12 HO
            cases cy with
            | true =>
              obtain rfl : le = [] := HLc.out rfl
              go_wp2_with fail
              refine (CY0.out _ (Fx.refl _ _)).mono ?_
              rintro e w15 ⟨rfl, hf⟩
              have HFa := Lib.hid hf
              clear hf
              go_wp2_with fail
              refine (CY0.out _ HFa.out).mono ?_
              rintro e w16 ⟨rfl, hf⟩
              have HFb := Lib.hid (HFa.out.trans hf)
              clear hf
              go_wp2_with fail
              refine (works_any ((HO14.out.no HFb.out).tab HT.out)).mono ?_
              rintro e w17 ⟨rfl, hf⟩
              have HFc := Lib.hid (HO14.out.fx.trans (HFb.out.trans hf))
              clear hf
              go_wp2
              go_ret
              exact ⟨rfl, HFc.out⟩
            | false =>
              by_cases hl0 : le.length = 0
              · obtain rfl : le = [] := List.eq_nil_of_length_eq_zero hl0
                obtain rfl : al = [] := HLn.out rfl rfl
                clear hl0
                go_wp2_with fail
                refine (CY0.out _ (Fx.refl _ _)).mono ?_
                rintro e w15 ⟨rfl, hf⟩
                have HFa := Lib.hid hf
                clear hf
                go_wp2_with fail
                refine (CY0.out _ HFa.out).mono ?_
                rintro e w16 ⟨rfl, hf⟩
                have HFb := Lib.hid (HFa.out.trans hf)
                clear hf
                go_wp2_with fail
                refine (works_any ((HO14.out.no HFb.out).tab HT.out)).mono ?_
                rintro e w17 ⟨rfl, hf⟩
                have HFc := Lib.hid (HO14.out.fx.trans (HFb.out.trans hf))
                clear hf
                go_wp2
                go_ret
                exact ⟨rfl, HFc.out⟩
              · have e4 : ((le.length : Int) == 0) = false := by rw [beq_eq_false_iff_ne]; omega
                have hlp : 0 < le.length := by omega
                have hle0 : ¬ le = [] := fun h => hl0 (by rw [h]; rfl)
                clear hl0
                go_wp2_with fail
                refine (CY0.out _ (Fx.refl _ _)).mono ?_
                rintro e w15 ⟨rfl, hf⟩
                have HO15 := Lib.hid (HO14.out.no hf)
                have HR15 := Lib.hid (RowV.no HR14.out hf)
                have z15 := hf.size
                clear hf
                go_wp2_with fail
                refine (gLen_any HO15.out.g).mono ?_
                rintro e w0 ⟨rfl, rfl⟩
                go_wp2_with fail
                refine (cloNew_any N w15 (by omega)).mono ?_
                rintro e w16 ⟨kf, rfl, hf, hC⟩
                have HO16 := Lib.hid (HO15.out.no hf)
                have HR16 := Lib.hid (RowV.no HR15.out hf)
                have HF16 : Hid (Clo w16 (Iv w15.heap.size w16.heap.size) N zS.dn zS.up zS.ed kf) := Lib.hid hC
                have z16 := hf.size
                clear hf hC
                go_wp2_with fail
                refine (gLen_any HO16.out.g).mono ?_
                rintro e w0 ⟨rfl, rfl⟩
                go_wp2_with fail
                refine (cloNew_any N w16 (by omega)).mono ?_
                rintro e w17 ⟨kg, rfl, hf, hC⟩
                have HO17 := Lib.hid (HO16.out.no hf)
                have HR17 := Lib.hid (RowV.no HR16.out hf)
                have HF17 := Lib.hid (HF16.out.no hf)
                have HG17 : Hid (Clo w17 (Iv w16.heap.size w17.heap.size) N zS.dn zS.up zS.ed kg) := Lib.hid hC
                have z17 := hf.size
                clear hf hC
                obtain ⟨s8, hs8⟩ : ∃ s, s = w15.heap.size := ⟨_, rfl⟩
                obtain ⟨s9, hs9⟩ : ∃ s, s = w16.heap.size := ⟨_, rfl⟩
                obtain ⟨s10, hs10⟩ : ∃ s, s = w17.heap.size := ⟨_, rfl⟩
                rw [← hs8, ← hs9] at HF17
                rw [← hs9, ← hs10] at HG17
                have h78 : s7 ≤ s8 := by omega
                have h89 : s8 ≤ s9 := by omega
                have h90 : s9 ≤ s10 := by omega
                have h10w : s10 ≤ w17.heap.size := by omega
                have HDf : Hid (∀ x, Iv s8 s9 x → s3 ≤ x ∧ ¬ (s4 ≤ x ∧ x < s5)) := Lib.hid fun x hx => by have := hx.1; omega
                have HDg : Hid (∀ x, Iv s9 s10 x → s3 ≤ x ∧ ¬ (s4 ≤ x ∧ x < s5)) := Lib.hid fun x hx => by have := hx.1; omega
                have t8 : s3 ≤ s8 := by omega
                have t9 : s3 ≤ s9 := by omega
                clear hs8 hs9 hs10 z15 z16 z17 HO14 HO15 HO16 HR14 HR15 HR16 HF16 zl3
                go_wp2_with fail
                refine (pick_any which le.length hlp (by omega) _).mono ?_
                rintro e wp ⟨o, ho, rfl, rfl⟩
                go_wp2
                go_loopg [28] le.length (fun g i wx => ∃ k : Nat, k ≤ le.length ∧ g = le.length - k ∧ i = .int .i64 k ∧ OrC w wx gb N L D sc kc s2 hi s3 s4 s5 (.slice vo al.length vc) al ∧ PairsV wx (Iv s6 s7) (.slice eo le.length ec) le ∧ s10 ≤ wx.heap.size ∧
                  Clo wx (Iv s8 s9) N (allS N zS (natsP (le.take k))).dn (allS N zS (natsP (le.take k))).up (allS N zS (natsP (le.take k))).ed kf ∧
                  Clo wx (Iv s9 s10) N (allS N zS (natsP ((le.take k).eraseIdx o))).dn (allS N zS (natsP ((le.take k).eraseIdx o))).up (allS N zS (natsP ((le.take k).eraseIdx o))).ed kg)
                case atStart => exact ⟨0, Nat.zero_le _, rfl, rfl, HO17.out, HR17.out, h10w, HF17.out, HG17.out⟩
                case round =>
                  obtain ⟨k, hk, rfl, rfl, hO, hR, hzr, hF, hG⟩ := hrel
                  have HO := Lib.hid hO
                  have HR := Lib.hid hR
                  have HF := Lib.hid hF
                  have HG := Lib.hid hG
                  obtain ⟨_, _, e0, _, _, hcl⟩ := PairsV.facts hR
                  simp only [Value.slice.injEq] at e0
                  obtain ⟨rfl, _, rfl⟩ := e0
                  have HCl := Lib.hid hcl
                  clear hO hR hF hG hcl
                  by_cases hkl : k < le.length
                  · obtain ⟨b2, o2, rfl, hb2, x1, x2⟩ := HCl.out k hkl
                    obtain ⟨i, j, hij, hi, hj⟩ := HLs.out _ (gt_mem hkl)
                    have HTk := Lib.hid (take_snoc hkl)
                    have HSk := Lib.hid (skip_step (o := o) hkl)
                    rw [hij] at x1 x2 HTk HSk
                    simp only [Int.toNat_natCast] at x1 x2 HTk HSk
                    have nb : ∀ a b, s7 ≤ a → ¬ Iv a b b2 := fun a b h1 h2 => by have := h2.1; have := hb2.2; omega
                    have HX1 := Lib.hid x1
                    have HX2 := Lib.hid x2
                    have hk0 : (0 : Int) ≤ (k : Int) := by omega
                    have hk1 : (k : Int) < (le.length : Int) := by omega
                    have NB := Lib.hid nb
                    clear hij hb2 nb
                    go_wp2_with fail
                    go_still_tail 11, (by kernel_rfl)
                    change wpList _ _ _ _ _ wr.drew
                    have HFd : Hid (Fx No wr wr.drew) := Lib.hid (Fx.refl No wr).drew
                    have zd := HFd.out.size
                    go_wp2_with fail
                    refine (cloAdd_any (f := i) (t := j) (HF.out.no HFd.out) (fun x hx => by have := hx.2; omega) (HT.out.keep (HO.out.fx.trans HFd.out) (fun h => h)) (HTn.out _ _ t8) hi hj).mono ?_
                    rintro e w18 ⟨rfl, hf, hC⟩
                    have HO8 := Lib.hid ((HO.out.no HFd.out).turn hf HDf.out)
                    have HR8 := Lib.hid ((RowV.no HR.out HFd.out).keep hf fun x hx h1 => by have := hx.2; have := h1.1; omega)
                    have HG8 := Lib.hid ((HG.out.no HFd.out).keep hf (Iv.disj (.inr (by omega))))
                    have HF8 : Hid (Clo w18 (Iv s8 s9) N (allS N zS (natsP (le.take (k + 1)))).dn (allS N zS (natsP (le.take (k + 1)))).up (allS N zS (natsP (le.take (k + 1)))).ed kf) := Lib.hid (by rw [HTk.out, allS_snoc]; exact hC)
                    have zw := hf.size
                    have y1 := (hf.cell' (HFd.out.cell' HX1.out (fun h => h)) (NB.out _ _ h78))
                    have y2 := (hf.cell' (HFd.out.cell' HX2.out (fun h => h)) (NB.out _ _ h78))
                    clear hf hC x1 x2
                    by_cases hko : k = o
                    · subst hko
                      have HG9 : Hid (Clo w18 (Iv s9 s10) N (allS N zS (natsP ((le.take (k + 1)).eraseIdx k))).dn (allS N zS (natsP ((le.take (k + 1)).eraseIdx k))).up (allS N zS (natsP ((le.take (k + 1)).eraseIdx k))).ed kg) := Lib.hid (by rw [HSk.out, if_pos rfl, List.append_nil]; exact HG8.out)
                      have e5 : ((k : Int) != (k : Int)) = false := by simp
                      go_wp2
                      go_roundg (le.length - (k + 1))
                      case measure => omega
                      case rel => exact ⟨k + 1, by omega, rfl, by go_num, HO8.out, HR8.out, by omega, HF8.out, HG9.out⟩
                    · have e5 : ((k : Int) != (o : Int)) = true := by rw [bne_iff_ne]; omega
                      have e6 : ¬ (k : Int) = (o : Int) := by omega
                      have HSk2 : Hid (natsP ((le.take (k + 1)).eraseIdx o) = natsP ((le.take k).eraseIdx o) ++ [(i, j)]) := Lib.hid (by rw [HSk.out, if_neg hko])
                      clear hko
                      go_wp2_with fail
                      go_still_tail 11, (by kernel_rfl)
                      change wpList _ _ _ _ _ w18.drew
                      have HFe : Hid (Fx No w18 w18.drew) := Lib.hid (Fx.refl No w18).drew
                      have ze := HFe.out.size
                      go_wp2_with fail
                      refine (cloAdd_any (f := i) (t := j) (HG8.out.no HFe.out) (fun x hx => by have := hx.2; omega) (HT.out.keep (HO8.out.fx.trans HFe.out) (fun h => h)) (HTn.out _ _ t9) hi hj).mono ?_
                      rintro e w19 ⟨rfl, hf, hC⟩
                      have HO9 := Lib.hid ((HO8.out.no HFe.out).turn hf HDg.out)
                      have HR9 := Lib.hid ((RowV.no HR8.out HFe.out).keep hf fun x hx h1 => by have := hx.2; have := h1.1; omega)
                      have HF9 := Lib.hid ((HF8.out.no HFe.out).keep hf (Iv.disj (.inl (by omega))))
                      have HG9 : Hid (Clo w19 (Iv s9 s10) N (allS N zS (natsP ((le.take (k + 1)).eraseIdx o))).dn (allS N zS (natsP ((le.take (k + 1)).eraseIdx o))).up (allS N zS (natsP ((le.take (k + 1)).eraseIdx o))).ed kg) := Lib.hid (by rw [HSk2.out, allS_snoc]; exact hC)
                      have zx := hf.size
                      clear hf hC
                      go_wp2
                      go_roundg (le.length - (k + 1))
                      case measure => omega
                      case rel => exact ⟨k + 1, by omega, rfl, by go_num, HO9.out, HR9.out, by omega, HF9.out, HG9.out⟩
                  · have hke : k = le.length := by omega
                    have HN0 : Hid (∀ q ∈ le, 0 ≤ q.1 ∧ 0 ≤ q.2) := Lib.hid fun q hq => by obtain ⟨a, b, rfl, _⟩ := HLs.out q hq; exact ⟨by show (0 : Int) ≤ (a : Int); omega, by show (0 : Int) ≤ (b : Int); omega⟩
                    have HIn : Hid (∀ l2 : List (Int × Int), (∀ q ∈ l2, q ∈ le) → InN N (natsP l2)) := Lib.hid fun l2 h2 p hp => by
                      obtain ⟨x, hx, rfl⟩ := List.mem_map.1 hp
                      obtain ⟨i, j, rfl, hi, hj⟩ := HLs.out x (h2 x hx)
                      exact ⟨by simpa using hi, by simpa using hj⟩
                    have HIf : Hid (Is N (allS N zS (natsP le)) (needE Ec)) := Lib.hid (((Is.start N).all (HIn.out le fun _ h => h)).congr fun i j => by
                      rw [mem_natsP HN0.out, HLm.out (by simp)]
                      constructor
                      · rintro (h | h)
                        · exact h.elim
                        · exact h
                      · exact .inr)
                    have hsub : ∀ q ∈ le.eraseIdx o, q ∈ le := fun q hq => ((srt_skip HSr.out ho).1 hq).1
                    obtain ⟨i, j, hij, hi, hj⟩ := HLs.out _ (gt_mem ho)
                    have hgo : gt le o = le[o] := by simp [gt, ho]
                    have HNd : Hid (needE Ec i j) := Lib.hid ((HLm.out (by simp) i j).1 (by rw [← hij]; exact gt_mem ho))
                    have HIg : Hid (Is N (allS N zS (natsP (le.eraseIdx o))) (subE (needE Ec) i j)) := Lib.hid (((Is.start N).all (HIn.out _ hsub)).congr fun a b => by
                      rw [mem_natsP fun q hq => HN0.out q (hsub q hq), srt_skip HSr.out ho, HLm.out (by simp), ← hgo, hij]
                      unfold subE
                      simp only [Prod.mk.injEq, Ne]
                      constructor
                      · rintro (h | ⟨h1, h2⟩)
                        · exact h.elim
                        · exact ⟨h1, fun e => h2 ⟨by rw [e.1], by rw [e.2]⟩⟩
                      · rintro ⟨h1, h2⟩
                        exact .inr ⟨h1, fun e => h2 ⟨by have := e.1; omega, by have := e.2; omega⟩⟩)
                    obtain ⟨b2, o2, rfl, _, x1, x2⟩ := HCl.out o ho
                    rw [hij] at x1 x2
                    simp only at x1 x2
                    subst hke
                    rw [List.take_length] at HF HG
                    have HLd : Hid (leadsB N (allS N zS (natsP (le.eraseIdx o))).dn (i : Int) (j : Int) = false) := Lib.hid (by
                      rw [Bool.eq_false_iff]
                      intro h
                      exact way_fewer HNd.out ((HIg.out.leads hi hj).1 h))
                    have HSm := Lib.hid (HIf.out.same HIs.out fun a b => way_need HIs.out.lt (HCy.out (by simp)))
                    have CA : Hid (∀ W, Fx No wr W → Calls Tryz.prog 27 #[.pointer (some ⟨kf.b, 0, none⟩), .pointer (some ⟨kc.b, 0, none⟩)] W fun e w' => e = .returned (.bool true) ∧ Fx No W w') := Lib.hid fun W h => alike_any (HF.out.no h) (HO.out.no h).c ((HO.out.no h).tab HT.out) HSm.out
                    have CL : Hid (∀ W, Fx No wr W → Calls Tryz.prog 24 #[.pointer (some ⟨kg.b, 0, none⟩), .int .i64 (i : Int), .int .i64 (j : Int)] W fun e w' => e = .returned (.bool false) ∧ Fx No W w') := Lib.hid fun W h => by rw [← HLd.out]; exact leads_any (HG.out.no h) (i : Int) (j : Int)
                    have CW : Hid (∀ W, Fx No wr W → Calls Tryz.prog 8 #[] W fun e w' => e = .returned (.bool true) ∧ Fx No W w') := Lib.hid fun W h => works_any ((HO.out.no h).tab HT.out)
                    have g1 : ∀ W, Fx No wr W → W.cell? ⟨b2, o2 + o * 2, none⟩ = some (.int .i64 (i : Int)) := fun W h => h.cell' x1 (fun h => h)
                    have g2 : ∀ W, Fx No wr W → W.cell? ⟨b2, o2 + o * 2 + 1, none⟩ = some (.int .i64 (j : Int)) := fun W h => h.cell' x2 (fun h => h)
                    have HFw : Hid (Fx No w wr) := Lib.hid HO.out.fx
                    have s0 : Fx No wr wr := Fx.refl _ _
                    have ho0 : (0 : Int) ≤ (o : Int) := by omega
                    have ho1 : (o : Int) < (le.length : Int) := by omega
                    have e7 : decide ((le.length : Int) < (le.length : Int)) = false := by simp
                    clear hij hsub hgo x1 x2 hkl hk
                    go_wp2_with fail
                    go_region_held3 (fun W => Fx No wr W)
                      (first
                        | exact s0.drew
                        | exact Fx.transNo (by assumption) hfi)
                      (first
                        | (go_at_call 27; with_reducible refine (CA.out _ (by assumption)).mono ?_; rintro e w' ⟨rfl, hfi⟩)
                        | (go_at_call 24; with_reducible refine (CL.out _ (by assumption)).mono ?_; rintro e w' ⟨rfl, hfi⟩)
                        | (go_at_call 8; with_reducible refine (CW.out _ (by assumption)).mono ?_; rintro e w' ⟨rfl, hfi⟩))
                    all_goals
                      have HKz : Hid (Fx No wr w') := by assumption
                      clear g1 g2 s0 CA CL CW
                      go_wp2
                      go_ret
                      exact ⟨rfl, HFw.out.trans HKz.out⟩
end
#print axioms orders_any
end Go.Proofs.YtfpggeiphbekoaaGreatDoor
