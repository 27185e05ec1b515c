/- The law ClosureGraphs. -/
import Derived.Test.YtfpggeiphbekoaaGreatDoorQP
import Derived.Test.YtfpggeiphbekoaaGreatDoorA10
import Derived.Deep.CutBlock
import Derived.Deep.DeepCutAuto
import Derived.Deep.LoopGhost
import Derived.StillTailTactics
namespace Go.Proofs.YtfpggeiphbekoaaGreatDoor
open Go.RowKit Gr
set_option linter.unusedVariables false

/-- the graph, its closure, its document's row and box; the reference's closure in its box -/
structure GrS (w ws : World) (gb N : Nat) (L : List Ed) (D R : Nat → Prop) (rv : Value) (db : Nat) (sc : S3) (kc : CC) (s2 hi rb : Nat) (ed : Nat → Nat) (rv2 : Value) : Prop where
  fx : Fx No w ws
  g : GraphV ws D gb N L
  glt : ∀ x, D x → x < rb
  c : Clo ws (Iv s2 hi) N sc.dn sc.up sc.ed kc
  row : EdsV ws R rv L
  rlt : ∀ x, R x → x < rb
  d0 : ws.cell? ⟨db, 0, none⟩ = some (.int .i64 (N : Nat))
  d1 : ws.cell? ⟨db, 1, none⟩ = some rv
  r0 : ws.cell? ⟨rb, 0, none⟩ = some (.int .i64 (N : Nat)) ∧ ws.frozen? ⟨rb, 0, none⟩ = false
  r1 : ws.cell? ⟨rb, 1, none⟩ = some rv2 ∧ ws.frozen? ⟨rb, 1, none⟩ = false
  prs : PairsV ws (fun x => rb < x) rv2 (edgesTo N ed N)
  lo : w.heap.size ≤ rb ∧ hi ≤ rb ∧ db < rb ∧ rb < ws.heap.size
section
variable {w ws w' : World} {gb N : Nat} {L : List Ed} {D R : Nat → Prop} {rv : Value} {db : Nat} {sc : S3} {kc : CC} {s2 hi rb : Nat} {ed ed2 : Nat → Nat} {rv2 rv3 : Value}
theorem GrS.no (h : GrS w ws gb N L D R rv db sc kc s2 hi rb ed rv2) (hf : Fx No ws w') : GrS w w' gb N L D R rv db sc kc s2 hi rb ed rv2 := by
  obtain ⟨l1, l2, l3, l4⟩ := h.lo
  have z := hf.size
  exact ⟨h.fx.trans hf, h.g.no hf, h.glt, h.c.no hf, RowV.no h.row hf, h.rlt, hf.cell' h.d0 (fun h => h), hf.cell' h.d1 (fun h => h), hf.cellF h.r0.1 h.r0.2 (fun h => h), hf.cellF h.r1.1 h.r1.2 (fun h => h), h.prs.no hf, l1, l2, l3, by omega⟩
theorem GrS.put (h : GrS w ws gb N L D R rv db sc kc s2 hi rb ed rv2) (hf : Fx No ws w') (hr : PairsV w' (fun x => rb < x) rv3 (edgesTo N ed2 N)) :
    GrS w ((w'.setCell ⟨rb, 0, none⟩ (.int .i64 (N : Nat))).setCell ⟨rb, 1, none⟩ rv3) gb N L D R rv db sc kc s2 hi rb ed2 rv3 := by
  have h' := h.no hf
  obtain ⟨l1, l2, l3, l4⟩ := h'.lo
  obtain ⟨g1, g2, g3, g4⟩ := put_two w' (qb := rb) (.int .i64 (N : Nat)) rv3 h'.r0.1 h'.r1.1
  exact ⟨h'.fx.trans' g3 fun j e h1 => by have e : j = rb := e; omega, h'.g.keep g3 fun x hx e => by have := h'.glt x hx; have e : x = rb := e; omega, h'.glt, h'.c.keep g3 fun x hx e => by have := hx.2; have e : x = rb := e; omega,
    RowV.keep h'.row g3 fun x hx e => by have := h'.rlt x hx; have e : x = rb := e; omega, h'.rlt, g3.cell' h'.d0 (fun e => by have e : db = rb := e; omega), g3.cell' h'.d1 (fun e => by have e : db = rb := e; omega),
    ⟨g1, by simpa using h'.r0.2⟩, ⟨g2, by simpa using h'.r1.2⟩, hr.keep g3 fun x hx e => by have hx : rb < x := hx; have e : x = rb := e; omega, l1, l2, l3, by rw [g4]; exact l4⟩
theorem edges_zero' (N : Nat) : edgesTo N zS.ed N = [] := by
  rw [List.eq_nil_iff_forall_not_mem]
  rintro ⟨a, b⟩ h
  obtain ⟨i, j, _, _, _, _, h⟩ := mem_edgesTo.1 h
  simp [zS] at h
variable {E : Nat → Prop} {l : List Ed} {v : Value}
set_option maxRecDepth 100000 in
set_option maxHeartbeats 8000000 in
theorem graphs_any (n : Int) (h : EdsV w E v l) (hok : ∀ x ∈ l, x.ok) (hT : TabOk w) :
    Calls Tryz.prog 5 #[.int .i64 n, v] w fun e w' => e = .returned (.bool true) ∧ Fx No w w' := by
  have HE := Lib.hid h
  have HOk := Lib.hid hok
  have HT := Lib.hid hT
  obtain ⟨ao, cap, rfl, hcl, hcm, _⟩ := EdsV.facts h
  clear h hok hT
  by_cases h1 : 30 < l.length
  · have d1 : decide ((30 : Int) < (l.length : Int)) = true := decide_eq_true (by omega)
    go_enter Tryz.func5, Tryz.ntmps5
    go_wp2_with fail
    refine (works_any HT.out).mono ?_
    rintro e w1 ⟨rfl, hf⟩
    have HF := Lib.hid hf
    clear hf
    go_wp2
    go_ret
    exact ⟨rfl, HF.out⟩
  · have d1 : decide ((30 : Int) < (l.length : Int)) = false := decide_eq_false (by omega)
    have hl30 : l.length ≤ 30 := by omega
    clear h1
    go_enter Tryz.func5, Tryz.ntmps5
    go_wp2_with fail
    refine (drawn_any HE.out HOk.out (by omega) n 10 (by omega)).mono ?_
    rintro e w1 ⟨gb, N, L, rv, D, R, rfl, hD, hN, hL⟩
    obtain ⟨ro, rc, rfl, _⟩ := EdsV.facts hD.row
    have HD1 := Lib.hid hD
    have hL30 : L.length ≤ 30 := by omega
    have zz1 := hD.fx.size
    have HGl : Hid (∀ x, D x → x < w1.heap.size) := Lib.hid hD.g.lt
    have HRl : Hid (∀ x, R x → x < w1.heap.size) := Lib.hid hD.rlt
    clear hD d1 hL
    go_wp2_with fail
    refine calls_hold (fun W => Fx No w1 W ∧ W.cell? ⟨w1.heap.size, 0, none⟩ = some (.int .i64 (N : Nat)) ∧ W.cell? ⟨w1.heap.size, 1, none⟩ = some (.slice ro L.length rc) ∧ w1.heap.size < W.heap.size) ⟨(Fx.refl No _).alloc _, by go_simp, by go_simp, by simp⟩ ?_
    rintro w2 ⟨hfx, q0, q1, hdz⟩
    have HFx := Lib.hid (HD1.out.fx.trans hfx)
    have HG2 := Lib.hid (HD1.out.g.no hfx)
    have HR2 := Lib.hid (RowV.no HD1.out.row hfx)
    clear hfx
    refine (cloOf_any HG2.out (by omega) (HT.out.keep HFx.out (fun h => h))).mono ?_
    rintro e w3 ⟨kc, hi, rfl, hf, hC, hhi⟩
    have HF3 := Lib.hid (HFx.out.trans hf)
    have HG3 := Lib.hid (HG2.out.no hf)
    have HR3 := Lib.hid (RowV.no HR2.out hf)
    have q0 := hf.cell' q0 (fun h => h)
    have q1 := hf.cell' q1 (fun h => h)
    have z3 := hf.size
    have HNd := Lib.hid HG2.out.nodes
    have HIs : Hid (Is N (allS N zS (edN L)) (EN L)) := Lib.hid ((Is.start N).all (edN_in HG2.out.nodes))
    have HC3 := Lib.hid hC
    obtain ⟨db, hdb⟩ : ∃ s, s = w1.heap.size := ⟨_, rfl⟩
    rw [← hdb] at q0 q1 HGl HRl hdz ⊢
    obtain ⟨s2, hs2⟩ : ∃ s, s = w2.heap.size := ⟨_, rfl⟩
    rw [← hs2] at HC3
    have hdw : db < w3.heap.size := by omega
    have hiw : hi ≤ w3.heap.size := hhi
    have hww : w.heap.size ≤ w3.heap.size := HF3.out.size
    have h1w : w1.heap.size ≤ w3.heap.size := by omega
    have HGl3 : Hid (∀ x, D x → x < w3.heap.size) := Lib.hid fun x hx => by have := HGl.out x hx; omega
    have HRl3 : Hid (∀ x, R x → x < w3.heap.size) := Lib.hid fun x hx => by have := HRl.out x hx; omega
    clear hf hC HG2 HR2 HFx HD1 HGl HRl hdb hs2 hhi zz1 hdz z3 h1w
    go_wp2_with fail
    obtain ⟨rb, hrb⟩ : ∃ s, s = w3.heap.size := ⟨_, rfl⟩
    refine wp_hold (fun W => GrS w W gb N L D R (.slice ro L.length rc) db (allS N zS (edN L)) kc s2 hi rb (allS N zS []).ed (.slice none 0 0)) ?_ ?_
    · have hA := (Fx.refl No w3).alloc (.cells #[.int .i64 (N : Nat), .slice none 0 0] 39)
      exact ⟨HF3.out.trans hA, HG3.out.no hA, fun x hx => by have := HGl3.out x hx; omega, HC3.out.no hA, RowV.no HR3.out hA, fun x hx => by have := HRl3.out x hx; omega, hA.cell' q0 (fun h => h), hA.cell' q1 (fun h => h),
        by rw [hrb]; exact ⟨by simp, by simp⟩, by rw [hrb]; exact ⟨by simp, by simp⟩, by rw [show (allS N zS []).ed = zS.ed from rfl, edges_zero']; exact RowV.nil _ _, by omega, by omega, by omega, by rw [hrb]; simp⟩
    rintro W0 hS
    rw [← hrb]
    have HS0 := Lib.hid hS
    clear hS HG3 HR3 HC3 q0 q1 HF3 hrb hdw hiw hww HGl3 HRl3
    go_loopg [10] L.length (fun g i wx => ∃ (q : Nat) (rv2 : Value), q ≤ L.length ∧ g = L.length - q ∧ i = .int .i64 q ∧ GrS w wx gb N L D R (.slice ro L.length rc) db (allS N zS (edN L)) kc s2 hi rb (allS N zS ((edN L).take q)).ed rv2)
    case atStart => exact ⟨0, _, Nat.zero_le _, rfl, rfl, HS0.out⟩
    case round =>
      obtain ⟨q, rv2, hq, rfl, rfl, hS⟩ := hrel
      have HS := Lib.hid hS
      obtain ⟨po, pc, hrv, _⟩ := PairsV.facts hS.prs
      obtain ⟨ne, hne⟩ : ∃ n, n = (edgesTo N (allS N zS ((edN L).take q)).ed N).length := ⟨_, rfl⟩
      rw [← hne] at hrv
      subst hrv
      have d0 := hS.d0
      have d1 := hS.d1
      have r0 := hS.r0
      have r1 := hS.r1
      obtain ⟨_, _, e0, _, _, hcr⟩ := EdsV.facts hS.row
      simp only [Value.slice.injEq] at e0
      obtain ⟨rfl, _, rfl⟩ := e0
      have HCr := Lib.hid hcr
      clear hS hcr hne
      by_cases hql : q < L.length
      · have e1 : decide ((q : Int) < (L.length : Int)) = true := decide_eq_true (by omega)
        obtain ⟨bb, oo, rfl, hbb, p0, p1, p2⟩ := HCr.out q hql
        obtain ⟨⟨n1, n2⟩, n3, n4⟩ := HNd.out _ (gt_mem hql)
        obtain ⟨f, hf⟩ := Int.eq_ofNat_of_zero_le n1
        obtain ⟨t, ht⟩ := Int.eq_ofNat_of_zero_le n3
        have HTk := Lib.hid (edN_take hql hf ht N)
        rw [hf] at p0 n2
        rw [ht] at p1 n4
        have hfn : f < N := by omega
        have htn : t < N := by omega
        have hll := edgesTo_len N (allS N zS ((edN L).take q)).ed N
        have hNN : N * N ≤ 10 * 10 := Nat.mul_le_mul hN hN
        have hq0 : (0 : Int) ≤ (q : Int) := by omega
        have hq1 : (q : Int) < (L.length : Int) := by omega
        obtain ⟨st, hst⟩ : ∃ s, s = allS N zS ((edN L).take q) := ⟨_, rfl⟩
        rw [← hst] at HS HTk hll
        clear n1 n2 n3 n4 hf ht hbb p2
        go_wp2_with fail
        go_still_tail 14, (by kernel_rfl)
        change wpList _ _ _ _ _ wr.drew
        have HFd : Hid (Fx No wr wr.drew) := Lib.hid (Fx.refl No wr).drew
        have zd : wr.drew.heap.size = wr.heap.size := rfl
        have r0d := HFd.out.cellF r0.1 r0.2 (fun h => h)
        have r1d := HFd.out.cellF r1.1 r1.2 (fun h => h)
        go_wp2_with fail
        refine (refAdd_any (HS.out.no HFd.out).prs (N : Int) (f : Int) (t : Int) (by omega)).mono ?_
        rintro e w4 ⟨v4, rfl, hf, hr⟩
        have r0e := hf.cellF r0d.1 r0d.2 (fun h => h)
        have r1e := hf.cellF r1d.1 r1d.2 (fun h => h)
        have HP4 : Hid (PairsV w4 (fun x => rb < x) v4 (edgesTo N (addS N st (f, t)).ed N)) := Lib.hid (by
          rw [edges_add hfn htn] at hr
          exact hr.mono fun x hx => by
            rcases hx.1 with h | h
            · exact h
            · have := HS.out.lo.2.2.2; rw [zd] at h; show rb < x; omega)
        have HS4 := Lib.hid (HS.out.put (HFd.out.trans hf) HP4.out)
        obtain ⟨qo, qc, hrv, _⟩ := PairsV.facts HP4.out
        obtain ⟨ne4, hne⟩ : ∃ n, n = (edgesTo N (addS N st (f, t)).ed N).length := ⟨_, rfl⟩
        rw [← hne] at hrv
        subst hrv
        clear hf hr r0 r1 r0d r1d p0 p1 hne
        go_wp2
        go_roundg (L.length - (q + 1))
        case measure => omega
        case rel => exact ⟨q + 1, _, by omega, rfl, by go_num, by rw [HTk.out]; exact HS4.out⟩
      · have e1 : decide ((q : Int) < (L.length : Int)) = false := decide_eq_false (by omega)
        have hqe : (edN L).take q = edN L := List.take_of_length_le (by unfold edN; rw [List.length_map]; omega)
        rw [hqe] at HS
        obtain ⟨sc, hsc⟩ : ∃ s, s = allS N zS (edN L) := ⟨_, rfl⟩
        rw [← hsc] at HS HIs
        obtain ⟨w5, hw5⟩ : ∃ x, x = wr := ⟨_, rfl⟩
        subst hw5
        have HCy : Hid (cycB N sc.dn = decide ((shortR L N).2 = 0)) := Lib.hid (by
          rw [Bool.eq_iff_iff, HIs.out.cyc, decide_eq_true_eq, short_zero HNd.out])
        clear hsc hqe HS0 r0 r1 HCr
        go_wp2_with fail
        refine (short_any HS.out.g (by omega)).mono ?_
        rintro e w6 ⟨v6, rfl, hf, _⟩
        have HS6 := Lib.hid (HS.out.no hf)
        have r0 := HS6.out.r0
        have r1 := HS6.out.r1
        obtain ⟨cd, hcd⟩ : ∃ c, c = (shortR L N).2 := ⟨_, rfl⟩
        rw [← hcd] at HCy ⊢
        clear hf hcd d0 d1
        go_wp2_with fail
        refine (is_any HS6.out.c HIs.out.ok HS6.out.prs (by omega) n (HT.out.keep HS6.out.fx (fun h => h))).mono ?_
        rintro e w7 ⟨rfl, hf⟩
        have HS7 := Lib.hid (HS6.out.no hf)
        clear hf r0 r1
        go_wp2_with fail
        refine (cyclic_any HS7.out.c).mono ?_
        rintro e w8 ⟨rfl, hf⟩
        have HS8 := Lib.hid (HS7.out.no hf)
        rw [HCy.out]
        obtain ⟨b0, hb0⟩ : ∃ b, b = decide (cd = 0) := ⟨_, rfl⟩
        have e2 : (cd == 0) = b0 := by rw [hb0]; rfl
        rw [← hb0]
        clear hf HS HS6 HS7 hb0
        go_wp2
        go_loopg [13, 14, 15, 16, 17, 18, 19] N (fun g i _ _ _ _ _ _ wx => ∃ I : Nat, I ≤ N ∧ g = N - I ∧ i = .int .i64 I ∧ GrS w wx gb N L D R (.slice ro L.length rc) db sc kc s2 hi rb sc.ed (.slice po ne pc))
        case atStart => exact ⟨0, Nat.zero_le _, rfl, rfl, HS8.out⟩
        case round =>
          obtain ⟨I, hI, rfl, rfl, hS⟩ := hrel
          have HS := Lib.hid hS
          clear hS
          by_cases hIl : I < N
          · have e1 : decide ((I : Int) < (N : Int)) = true := decide_eq_true (by omega)
            go_wp2_with fail
            refine (gLen_any HS.out.g).mono ?_
            rintro e w0 ⟨rfl, rfl⟩
            go_wp2
            go_loopg [14, 15, 16, 17, 18, 19] N (fun g i _ _ _ _ _ wx => ∃ K : Nat, K ≤ N ∧ g = N - K ∧ i = .int .i64 K ∧ GrS w wx gb N L D R (.slice ro L.length rc) db sc kc s2 hi rb sc.ed (.slice po ne pc))
            case atStart => exact ⟨0, Nat.zero_le _, rfl, rfl, HS.out⟩
            case round =>
              obtain ⟨K, hK, rfl, rfl, hS⟩ := hrel
              have HS := Lib.hid hS
              clear hS
              by_cases hKl : K < N
              · have e3 : decide ((K : Int) < (N : Int)) = true := decide_eq_true (by omega)
                go_wp2_with fail
                refine (gLen_any HS.out.g).mono ?_
                rintro e w0 ⟨rfl, rfl⟩
                go_wp2_with fail
                refine (gNext_any HS.out.g (I : Int)).mono ?_
                rintro e w9 ⟨v9, rfl, hf, hr⟩
                have HS9 := Lib.hid (HS.out.no hf)
                have HNx : Hid (((comp ((rowI (outE L) N (I : Int)).map (·.t))).any fun z => decide ((pathR L N z (K : Int)).2 = 0)) = leadsB N sc.dn (I : Int) (K : Int)) := Lib.hid (by
                  rw [Bool.eq_iff_iff, next_any HNd.out hIl hKl, HIs.out.leads hIl hKl])
                obtain ⟨nx, hnx⟩ : ∃ l, l = comp ((rowI (outE L) N (I : Int)).map (·.t)) := ⟨_, rfl⟩
                rw [← hnx] at hr HNx
                obtain ⟨no, nc, rfl, hnl, hcn⟩ := IntsV.facts hr.toInts
                have HCn := Lib.hid hcn
                clear hf hr hnx hcn
                go_wp2
                go_loopg [15, 17, 18, 19] nx.length (fun g y i _ _ wx => ∃ m : Nat, m ≤ nx.length ∧ g = nx.length - m ∧ i = .int .i64 m ∧ y = .bool ((nx.take m).any fun z => decide ((pathR L N z (K : Int)).2 = 0)) ∧ Fx No w9 wx)
                case atStart => exact ⟨0, Nat.zero_le _, rfl, rfl, rfl, Fx.refl _ _⟩
                case round =>
                  obtain ⟨m, hm, rfl, rfl, rfl, hf⟩ := hrel
                  have HF := Lib.hid hf
                  have HSr := Lib.hid (HS9.out.no hf)
                  clear hf
                  by_cases hml : m < nx.length
                  · have e4 : decide ((m : Int) < (nx.length : Int)) = true := decide_eq_true (by omega)
                    obtain ⟨b9, o9, rfl, _, c9⟩ := HCn.out m hml
                    have c9 := HF.out.cell' c9 (fun h => h)
                    have HTk := Lib.hid (show ((nx.take (m + 1)).any fun z => decide ((pathR L N z (K : Int)).2 = 0)) = (((nx.take m).any fun z => decide ((pathR L N z (K : Int)).2 = 0)) || decide ((pathR L N (gi nx m) (K : Int)).2 = 0)) by rw [take_gi hml, List.any_append]; simp)
                    obtain ⟨bw, hbw⟩ : ∃ b, b = ((nx.take m).any fun z => decide ((pathR L N z (K : Int)).2 = 0)) := ⟨_, rfl⟩
                    rw [← hbw] at HTk ⊢
                    obtain ⟨z, hz⟩ : ∃ z, z = gi nx m := ⟨_, rfl⟩
                    rw [← hz] at HTk c9
                    have hm0 : (0 : Int) ≤ (m : Int) := by omega
                    have hm1 : (m : Int) < (nx.length : Int) := by omega
                    clear hz hbw
                    go_wp2_with fail
                    refine (path_any HSr.out.g (by omega) z (K : Int)).mono ?_
                    rintro e w10 ⟨v10, rfl, hf, _⟩
                    have HF10 := Lib.hid (HF.out.trans hf)
                    obtain ⟨c, hc⟩ : ∃ c, c = (pathR L N z (K : Int)).2 := ⟨_, rfl⟩
                    rw [← hc] at HTk ⊢
                    obtain ⟨bc, hbc⟩ : ∃ b, b = decide (c = 0) := ⟨_, rfl⟩
                    have e5 : (c == 0) = bc := by rw [hbc]; rfl
                    rw [← hbc] at HTk
                    clear hf hc hbc
                    cases bw
                    · rw [Bool.false_or] at HTk
                      go_wp2
                      go_roundg (nx.length - (m + 1))
                      case measure => omega
                      case rel => exact ⟨m + 1, by omega, rfl, by go_num, by rw [HTk.out], HF10.out⟩
                    · rw [Bool.true_or] at HTk
                      go_wp2
                      go_roundg (nx.length - (m + 1))
                      case measure => omega
                      case rel => exact ⟨m + 1, by omega, rfl, by go_num, by rw [HTk.out], HF10.out⟩
                  · have e4 : decide ((m : Int) < (nx.length : Int)) = false := decide_eq_false (by omega)
                    rw [List.take_of_length_le (by omega), HNx.out]
                    obtain ⟨bl, hbl⟩ : ∃ b, b = leadsB N sc.dn (I : Int) (K : Int) := ⟨_, rfl⟩
                    have HBl := Lib.hid hbl
                    rw [← hbl]
                    clear hbl
                    go_wp2_with fail
                    refine (leads_any HSr.out.c (I : Int) (K : Int)).mono ?_
                    rintro e w11 ⟨rfl, hf⟩
                    have HS11 := Lib.hid (HSr.out.no hf)
                    rw [← HBl.out]
                    clear hf
                    go_wp2
                    go_roundg (N - (K + 1))
                    case measure => omega
                    case rel => exact ⟨K + 1, by omega, rfl, by go_num, HS11.out⟩
              · have e3 : decide ((K : Int) < (N : Int)) = false := decide_eq_false (by omega)
                go_wp2_with fail
                refine (gLen_any HS.out.g).mono ?_
                rintro e w0 ⟨rfl, rfl⟩
                go_wp2
                go_roundg (N - (I + 1))
                case measure => omega
                case rel => exact ⟨I + 1, by omega, rfl, by go_num, HS.out⟩
          · have e1 : decide ((I : Int) < (N : Int)) = false := decide_eq_false (by omega)
            go_wp2_with fail
            refine (gLen_any HS.out.g).mono ?_
            rintro e w0 ⟨rfl, rfl⟩
            go_wp2_with fail
            refine (works_any (HT.out.keep HS.out.fx (fun h => h))).mono ?_
            rintro e w12 ⟨rfl, hf⟩
            have HF12 := Lib.hid (HS.out.fx.trans hf)
            clear hf
            go_wp2
            go_ret
            exact ⟨rfl, HF12.out⟩
end
#print axioms graphs_any
end Go.Proofs.YtfpggeiphbekoaaGreatDoor
