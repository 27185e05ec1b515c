/- intern: names are added to a table of numbers. -/
import Derived.Test.YtpegloapdkfgiaaNB
namespace Go.Proofs.Ytpegloapdkfgiaa
open Go.RowKit
set_option linter.unusedVariables false

set_option maxRecDepth 100000 in
set_option maxHeartbeats 4000000 in
theorem addU_any {w : World} {D E : Nat → Prop} {b : Nat} {L ks : List Int} {v : Value} (h : TabV kU 23 w D b L) (hv : NamV kU w E v ks) (hok : ∀ x ∈ ks, kU.ok x) (hE : ∀ j, E j → ¬ D j) (hs : L.length + ks.length ≤ 100000) :
    Calls Try.prog 31 #[.pointer (some ⟨b, 0, none⟩), v] w fun e w' => e = .returned (.int .i64 (numN L ks (-1))) ∧ Fx D w w' ∧ ∃ D', TabV kU 23 w' D' b (addN L ks) ∧ ∀ j, D' j → D j ∨ w.heap.size ≤ j := by
  have HT := Lib.hid h
  obtain ⟨ii, hi, hz, hsz, hby⟩ := info_parts info_u64
  obtain ⟨ao, cap, rfl, _, hcm, hc⟩ := NamV.facts fitU hv
  have HC := Lib.hid hc
  have HOk := Lib.hid hok
  have HE := Lib.hid hE
  clear h hv hc hok hE
  go_enter Try.func31, Try.ntmps31
  go_wp2
  go_loopw [5, 7, 8, 9, 12] (fun last _ _ _ ii ws => ∃ (κ : Nat) (D1 : Nat → Prop), ii = .int .i64 κ ∧ κ ≤ ks.length ∧ last = .int .i64 (numN L (ks.take κ) (-1)) ∧ Fx D w ws ∧ TabV kU 23 ws D1 b (addN L (ks.take κ)) ∧ ∀ j, D1 j → D j ∨ w.heap.size ≤ j) (fun _ _ _ _ ii _ => ks.length - (intOf ii).toNat)
  case atStart => exact ⟨0, D, rfl, by omega, rfl, Fx.refl _ _, HT.out, fun j h => .inl h⟩
  case round =>
    obtain ⟨κ, D1, rfl, hκ, rfl, hf, hT, hD1⟩ := hrel
    have HFw := Lib.hid hf
    have HD1 := Lib.hid hD1
    obtain ⟨wa, hwa⟩ : ∃ x, x = wr := ⟨_, rfl⟩
    subst hwa
    by_cases hl : κ < ks.length
    · have d1 : decide ((κ : Int) < (ks.length : Int)) = true := decide_eq_true (by omega)
      have d2 : decide (κ < ks.length) = true := decide_eq_true hl
      obtain ⟨x, hx⟩ : ∃ x, ks[κ]? = some x := ⟨_, List.getElem?_eq_getElem hl⟩
      obtain ⟨eb, eo, rfl, hEb, hcell⟩ := HC.out κ x hx
      have hxk := HOk.out x (List.mem_of_getElem? hx)
      have cx := hf.cell' (by simpa [kU] using hcell 0 _ rfl : w.cell? ⟨eb, eo + κ, none⟩ = some (.int .u64 x)) (fun q => HE.out eb hEb q)
      have htk : ks.take (κ + 1) = ks.take κ ++ [x] := by rw [List.take_add_one, hx]; rfl
      have hlen : (addN L (ks.take κ)).length + 1 ≤ 100000 := by
        have := (length_addN L (ks.take κ)).2
        have h2 : (ks.take κ).length ≤ κ := by rw [List.length_take]; omega
        omega
      obtain ⟨L', hL'⟩ : ∃ q, q = addN L (ks.take κ) := ⟨_, rfl⟩
      rw [← hL'] at hT hlen
      have HL' := Lib.hid hL'
      obtain ⟨mv, nv, hP⟩ := hT
      have hbl := hP.lt _ hP.db
      have hown : ∀ j, D1 j → j < wa.heap.size := hP.lt
      have hc0w := hP.c0
      have hc1w := hP.c1
      have hz0w := hP.z0
      have hPn : TabP kU 23 wa D1 b L' mv nv := hP
      have HFn : Hid (Fx D w wa) := Lib.hid (hf)
      have HPn := Lib.hid hPn
      have hszw : w.heap.size ≤ wa.heap.size := HFw.out.size
      obtain ⟨nao, ncap, rfl, _⟩ := SlV.ofOwns hPn.row
      have hc0 := hPn.c0
      have hc1 := hPn.c1
      have hz0 := hPn.z0
      rcases hPn.map with ⟨rfl, hnil⟩ | ⟨mb, rfl, hmD, hmb, hmn, hM⟩
      · have hnin : x ∉ L' := by rw [hnil]; simp
        have hlook : (Instr.lookup 26 (.map none) (.int .u64 x) true).run Try.prog wa = .ok (.tuple #[.int .i64 0, .bool false]) wa := look_nil fitU hxk
        clear hf hD1 hP hPn hcell hL' hnil
        have heq := fun W => eqMapU none W
        have hmk : ∀ W : World, (Instr.makeMap 26 none).run Try.prog W = .ok (.map (some W.heap.size)) (W.alloc (.map #[] 0)) := fun W => run_makeMap _ W
        have hfz : (wa.alloc (.map #[] 0)).frozen? ⟨b, 0, none⟩ = false := by rw [((Fx.refl No wa).alloc (.map #[] 0)).frozen hbl (fun h => h)]; exact hz0
        have hcz : (wa.alloc (.map #[] 0)).cell? ⟨b, 0, none⟩ = some (.map none) := ((Fx.refl No wa).alloc (.map #[] 0)).cell' hc0 (fun h => h)
        go_wp2
        clear heq hmk hfz hcz
        obtain ⟨D2, hP2, hD2, hf2⟩ := HPn.out.made
        rw [World.setCell_alloc_past _ _ _ _ hbl] at hP2 hf2
        refine wp_hold (fun W => Fx D w W ∧ TabP kU 23 W D2 b L' (.map (some wa.heap.size)) (.slice nao L'.length ncap)) ⟨HFn.out.trans' hf2 (fun j e he => (HD1.out j e).resolve_right (by omega)), hP2⟩ ?_
        rintro wc ⟨hfc, hPc⟩
        have HFa := Lib.hid hfc
        have HP := Lib.hid hPc
        have HDw : Hid (∀ j, D2 j → D j ∨ w.heap.size ≤ j) := Lib.hid fun j e => (hD2 j e).elim (HD1.out j) fun e => .inr (by omega)
        obtain ⟨mb, hmbe⟩ : ∃ q, q = wa.heap.size := ⟨_, rfl⟩
        rw [← hmbe] at HP ⊢
        clear hP2 hf2 hfc hPc hlook hc0w hc1w hz0w hc0 hc1 hz0 hbl hmbe hD2 hown
        have hl1 := hlen
        have hP0 := HP.out
        obtain ⟨mb', hme, hmD, hmb, hmn, hM⟩ := hP0.map.resolve_left (fun q => by cases q.1)
        obtain rfl : mb = mb' := by simpa using hme
        have HM := Lib.hid hM
        have HNb := Lib.hid hP0.nb
        have h0c : ∀ W, Fx (fun j => (Value.slice nao L'.length ncap).ownBlock = some j ∨ j = mb) wc W → W.cell? ⟨b, 0, none⟩ = some (.map (some mb)) := fun W q => q.cell' HP.out.c0 (fun z => z.elim (fun z => (HNb.out b z).2 rfl) fun z => hmb z.symm)
        have h1c : ∀ W, Fx (fun j => (Value.slice nao L'.length ncap).ownBlock = some j ∨ j = mb) wc W → W.cell? ⟨b, 1, none⟩ = some (.slice nao L'.length ncap) := fun W q => q.cell' HP.out.c1 (fun z => z.elim (fun z => (HNb.out b z).2 rfl) fun z => hmb z.symm)
        have hbz := HP.out.lt _ HP.out.db
        clear hP0 hme hM
        refine wp_region_G 19 (fun bb W => bb = false → Fx (fun j => (Value.slice nao L'.length ncap).ownBlock = some j ∨ j = mb) wc W) (by kernel_rfl) (fun _ => (Fx.refl _ _).drew) ?_
        intro _ hC
        refine wpG_hold (fun W' => Fx No wc W') (Fx.refl _ _).drew ?_
        rintro y0 hN
        have hS : Fx (fun j => (Value.slice nao L'.length ncap).ownBlock = some j ∨ j = mb) wc y0 := hN.no
        have HN0 := Lib.hid hN
        clear hN
        refine wpG_take (i := 0) (v := ?_) rfl (by kernel_rfl) (by kernel_rfl) (by kernel_rfl) (by kernel_rfl) (fun _ _ _ h => h) (by decide) (Or.inl ⟨by rfl, ?_⟩) hC (fun _ => hS) ?_
        rotate_left
        · (intro W hc; have hs := hc rfl; clear hc; go_simp; first | done | with_reducible rfl)
        clear hC
        intro _ hC
        try simp only [Act.put, List.getElem_toArray, List.getElem_cons_zero, List.getElem_cons_succ, List.setIfInBounds_toArray, List.set_cons_zero, List.set_cons_succ]
        refine wpG_take (i := 4) (v := ?_) rfl (by kernel_rfl) (by kernel_rfl) (by kernel_rfl) (by kernel_rfl) (fun _ _ _ h => h) (by decide) (Or.inl ⟨by rfl, ?_⟩) hC (fun _ => hS) ?_
        rotate_left
        · (intro W hc; have hs := hc rfl; clear hc; go_simp; first | done | with_reducible rfl)
        clear hC
        intro _ hC
        try simp only [Act.put, List.getElem_toArray, List.getElem_cons_zero, List.getElem_cons_succ, List.setIfInBounds_toArray, List.set_cons_zero, List.set_cons_succ]
        refine wpG_take (i := 5) (v := ?_) rfl (by kernel_rfl) (by kernel_rfl) (by kernel_rfl) (by kernel_rfl) (fun _ _ _ h => h) (by decide) (Or.inl ⟨by rfl, ?_⟩) hC (fun _ => hS) ?_
        rotate_left
        · (intro W hc; have hs := hc rfl; clear hc; go_simp; first | done | with_reducible rfl)
        clear hC
        intro _ hC
        try simp only [Act.put, List.getElem_toArray, List.getElem_cons_zero, List.getElem_cons_succ, List.setIfInBounds_toArray, List.set_cons_zero, List.set_cons_succ]
        refine wpG_take (i := 6) (v := ?_) rfl (by kernel_rfl) (by kernel_rfl) (by kernel_rfl) (by kernel_rfl) (fun _ _ _ h => h) (by decide) (Or.inl ⟨by rfl, ?_⟩) hC (fun _ => hS) ?_
        rotate_left
        · (intro W hc; have hs := hc rfl; clear hc; go_simp; first | done | with_reducible rfl)
        clear hC
        intro _ hC
        try simp only [Act.put, List.getElem_toArray, List.getElem_cons_zero, List.getElem_cons_succ, List.setIfInBounds_toArray, List.set_cons_zero, List.set_cons_succ]
        refine wpG_take (i := 7) (v := ?_) rfl (by kernel_rfl) (by kernel_rfl) (by kernel_rfl) (by kernel_rfl) (fun _ _ _ h => h) (by decide) (Or.inl ⟨by rfl, ?_⟩) hC (fun _ => hS) ?_
        rotate_left
        · (intro W hc; have hs := hc rfl; clear hc; go_simp; first | done | with_reducible rfl)
        clear hC
        intro _ hC
        try simp only [Act.put, List.getElem_toArray, List.getElem_cons_zero, List.getElem_cons_succ, List.setIfInBounds_toArray, List.set_cons_zero, List.set_cons_succ]
        refine wpG_take (i := 11) (v := ?_) rfl (by kernel_rfl) (by kernel_rfl) (by kernel_rfl) (by kernel_rfl) (fun _ _ _ h => h) (by decide) (Or.inl ⟨by rfl, ?_⟩) hC (fun _ => hS) ?_
        rotate_left
        · (intro W hc; have hs := hc rfl; clear hc; go_simp; first | done | with_reducible rfl)
        clear hC
        intro _ hC
        try simp only [Act.put, List.getElem_toArray, List.getElem_cons_zero, List.getElem_cons_succ, List.setIfInBounds_toArray, List.set_cons_zero, List.set_cons_succ]
        refine wpG_take (i := 1) (v := ?_) rfl (by kernel_rfl) (by kernel_rfl) (by kernel_rfl) (by kernel_rfl) (fun _ _ _ h => h) (by decide) (Or.inl ⟨by rfl, ?_⟩) hC (fun _ => hS) ?_
        rotate_left
        · (intro W hc; have hs := hc rfl; clear hc; go_simp; first | done | with_reducible rfl)
        clear hC
        intro _ hC
        try simp only [Act.put, List.getElem_toArray, List.getElem_cons_zero, List.getElem_cons_succ, List.setIfInBounds_toArray, List.set_cons_zero, List.set_cons_succ]
        refine wpG_take (i := 2) (v := ?_) rfl (by kernel_rfl) (by kernel_rfl) (by kernel_rfl) (by kernel_rfl) (fun _ _ _ h => h) (by decide) (Or.inl ⟨by rfl, ?_⟩) hC (fun _ => hS) ?_
        rotate_left
        · (intro W hc; have hs := hc rfl; clear hc; go_simp; first | done | with_reducible rfl)
        clear hC
        intro _ hC
        try simp only [Act.put, List.getElem_toArray, List.getElem_cons_zero, List.getElem_cons_succ, List.setIfInBounds_toArray, List.set_cons_zero, List.set_cons_succ]
        refine wpG_take (i := 3) (v := ?_) rfl (by kernel_rfl) (by kernel_rfl) (by kernel_rfl) (by kernel_rfl) (fun _ _ _ h => h) (by decide) (Or.inl ⟨by rfl, ?_⟩) hC (fun _ => hS) ?_
        rotate_left
        · (intro W hc; have hs := hc rfl; clear hc; go_simp; first | done | with_reducible rfl)
        clear hC
        intro _ hC
        try simp only [Act.put, List.getElem_toArray, List.getElem_cons_zero, List.getElem_cons_succ, List.setIfInBounds_toArray, List.set_cons_zero, List.set_cons_succ]
        refine wpG_take (i := 8) (v := ?_) rfl (by kernel_rfl) (by kernel_rfl) (by kernel_rfl) (by kernel_rfl) (fun _ _ _ h => h) (by decide) (Or.inl ⟨by rfl, ?_⟩) hC (fun _ => hS) ?_
        rotate_left
        · (intro W hc; have hs := hc rfl; clear hc; go_simp; first | done | with_reducible rfl)
        clear hC
        intro _ hC
        try simp only [Act.put, List.getElem_toArray, List.getElem_cons_zero, List.getElem_cons_succ, List.setIfInBounds_toArray, List.set_cons_zero, List.set_cons_succ]
        refine wpG_take (i := 9) (v := ?_) rfl (by kernel_rfl) (by kernel_rfl) (by kernel_rfl) (by kernel_rfl) (fun _ _ _ h => h) (by decide) (Or.inl ⟨by rfl, ?_⟩) hC (fun _ => hS) ?_
        rotate_left
        · (intro W hc; have hs := hc rfl; clear hc; go_simp; first | done | with_reducible rfl)
        clear hC
        intro _ hC
        try simp only [Act.put, List.getElem_toArray, List.getElem_cons_zero, List.getElem_cons_succ, List.setIfInBounds_toArray, List.set_cons_zero, List.set_cons_succ]
        refine wpG_take (i := 10) (v := ?_) rfl (by kernel_rfl) (by kernel_rfl) (by kernel_rfl) (by kernel_rfl) (fun _ _ _ h => h) (by decide) (Or.inl ⟨by rfl, ?_⟩) hC (fun _ => hS) ?_
        rotate_left
        · (intro W hc; have hs := hc rfl; clear hc; go_simp; first | done | with_reducible rfl)
        clear hC
        intro _ hC
        try simp only [Act.put, List.getElem_toArray, List.getElem_cons_zero, List.getElem_cons_succ, List.setIfInBounds_toArray, List.set_cons_zero, List.set_cons_succ]
        refine wpG_one (i := 12) (by kernel_rfl) rfl hC (fun K hK => ?_)
        go_simp
        have hS2 := hS.alloc (.cells #[.int .u64 x] 23)
        refine hK.out _ _ (fun _ => hS2) (fun _ hC' => ?_)
        clear hK K hS hC
        have hS := hS2
        have hC := hC'
        clear hS2 hC'
        try simp only [Act.put, List.getElem_toArray, List.getElem_cons_zero, List.getElem_cons_succ, List.setIfInBounds_toArray, List.set_cons_zero, List.set_cons_succ]
        refine wpG_hold (fun W' => Fx (fun j => (Value.slice nao L'.length ncap).ownBlock = some j ∨ j = mb) wc W' ∧ Fx No wc W' ∧ SlV W' (fun _ => True) (.slice (some ⟨y0.heap.size, 0, none⟩) 1 1) 1 1 [.int .u64 x]) ⟨hS, HN0.out.alloc _, SlV.lit y0 23 #[.int .u64 x] 1 1 rfl (by unfold maxLen; omega)⟩ ?_
        clear hS
        rintro y1 ⟨hS, hN1, hNew⟩
        obtain ⟨nb, hnb⟩ : ∃ q, q = y0.heap.size := ⟨_, rfl⟩
        rw [← hnb] at hNew ⊢
        have HN1 := Lib.hid hN1
        have HNew := Lib.hid hNew
        clear hN1 hNew hnb
        refine wpG_one (i := 13) (by kernel_rfl) rfl hC (fun K hK => ?_)
        refine step_append_kept rfl (.tmp 51) (.tmp 53) 27 rfl 0 23 Try.underlying27 hi hz hsz hby rfl (by decide) (.slice nao L'.length ncap) L'.length (ncells kU L') (by simp [Act.eval, Act.put]) (ownsRow_fx HP.out.row HN1.out fun _ _ h => h) (fun _ => True) (.slice (some ⟨nb, 0, none⟩) 1 1) 1 [.int .u64 x] (by simp [Act.eval, Act.put]) HNew.out (by intro u hu; simp at hu; rw [hu]; rfl) (by omega) (by unfold maxLen; omega) (by omega) (Nat.zero_le _) ?_
        intro nv' y2 ho hf4 _ hb4
        obtain ⟨nao2, ncap2, rfl, _⟩ := SlV.ofOwns ho
        have HO := Lib.hid ho
        have HF4 := Lib.hid hf4
        have HB4 := Lib.hid hb4
        have hS2 := hS.trans' hf4 (fun j e _ => Or.inl e)
        clear ho hf4 hb4
        refine hK.out _ _ (fun _ => hS2) (fun _ hC' => ?_)
        clear hK K hS hC
        have hS := hS2
        have hC := hC'
        clear hS2 hC'
        try simp only [Act.put, List.getElem_toArray, List.getElem_cons_zero, List.getElem_cons_succ, List.setIfInBounds_toArray, List.set_cons_zero, List.set_cons_succ]
        obtain ⟨v0, st, y3, hr, hHalf, hf5⟩ := MapN.entry fitU ((HM.out.no HN1.out).keep HF4.out hmn) (by omega) hxk hnin
        have hr' : (Instr.mapEntry 26 (.map (some mb)) (.int .u64 x)).run Try.prog y2 = .ok (.tuple #[v0, .int .i64 (st : Nat)]) y3 := hr
        clear hr
        refine wpG_one (i := 14) (by kernel_rfl) rfl hC (fun K hK => ?_)
        go_simp
        have hS2 := hS.trans' hf5.out (fun j e _ => Or.inr e)
        clear hr'
        refine hK.out _ _ (fun _ => hS2) (fun _ hC' => ?_)
        clear hK K hS hC
        have hS := hS2
        have hC := hC'
        clear hS2 hC'
        try simp only [Act.put, List.getElem_toArray, List.getElem_cons_zero, List.getElem_cons_succ, List.setIfInBounds_toArray, List.set_cons_zero, List.set_cons_succ]
        refine wpG_take (i := 15) (v := ?_) rfl (by kernel_rfl) (by kernel_rfl) (by kernel_rfl) (by kernel_rfl) (fun _ _ _ h => h) (by decide) (Or.inl ⟨by rfl, ?_⟩) hC (fun _ => hS) ?_
        rotate_left
        · (intro W hc; have hs := hc rfl; clear hc; go_simp; first | done | with_reducible rfl)
        clear hC
        intro _ hC
        try simp only [Act.put, List.getElem_toArray, List.getElem_cons_zero, List.getElem_cons_succ, List.setIfInBounds_toArray, List.set_cons_zero, List.set_cons_succ]
        obtain ⟨y4, hr, hM6, hf6⟩ := hHalf.out.store
        have hr' : (Instr.entryStore 26 (.map (some mb)) (.int .i64 (st : Nat)) (.int .i64 (L'.length : Nat))).run Try.prog y3 = .ok () y4 := hr
        clear hr
        refine wpG_one (i := 16) (by kernel_rfl) rfl hC (fun K hK => ?_)
        go_simp
        have hS2 := hS.trans' hf6.out (fun j e _ => Or.inr e)
        clear hr'
        refine hK.out _ _ (fun _ => hS2) (fun _ hC' => ?_)
        clear hK K hS hC
        have hS := hS2
        have hC := hC'
        clear hS2 hC'
        try simp only [Act.put, List.getElem_toArray, List.getElem_cons_zero, List.getElem_cons_succ, List.setIfInBounds_toArray, List.set_cons_zero, List.set_cons_succ]
        refine wpG_one (i := 17) (by kernel_rfl) rfl hC (fun K hK => ?_)
        go_simp
        have hS2 := hS
        refine hK.out _ _ (fun _ => hS2) (fun _ hC' => ?_)
        clear hK K hS hC
        have hS := hS2
        have hC := hC'
        clear hS2 hC'
        try simp only [Act.put, List.getElem_toArray, List.getElem_cons_zero, List.getElem_cons_succ, List.setIfInBounds_toArray, List.set_cons_zero, List.set_cons_succ]
        refine wpG_take (i := 18) (v := ?_) rfl (by kernel_rfl) (by kernel_rfl) (by kernel_rfl) (by kernel_rfl) (fun _ _ _ h => h) (by decide) (Or.inl ⟨by rfl, ?_⟩) hC (fun _ => hS) ?_
        rotate_left
        · (intro W hc; have hs := hc rfl; clear hc; go_simp; first | done | with_reducible rfl)
        clear hC
        intro _ hC
        try simp only [Act.put, List.getElem_toArray, List.getElem_cons_zero, List.getElem_cons_succ, List.setIfInBounds_toArray, List.set_cons_zero, List.set_cons_succ]
        have hz1 : y4.frozen? ⟨b, 1, none⟩ = false := (hS.frozen hbz (fun z => z.elim (fun z => (HNb.out b z).2 rfl) fun z => hmb z.symm)).trans HP.out.z1
        have hc1 := h1c _ hS
        refine wpG_one (i := 19) (by kernel_rfl) rfl hC (fun K hK => ?_)
        go_simp
        refine hK.out _ _ (fun h => absurd h (by decide +kernel)) (fun _ _ => ?_)
        clear hK K hC
        refine wpG_done (by kernel_rfl) ?_ _
        clear h0c h1c hc1 hz1 hS
        obtain ⟨D3, hP3, hD3, hf3⟩ := HP.out.put fitU HN1.out HO.out HF4.out HB4.out hM6.out hf5.out hf6.out hxk hnin hl1
        obtain ⟨w9, hw9⟩ : ∃ q, q = y4.setCell ⟨b, 1, none⟩ (.slice nao2 (L'.length + 1) ncap2) := ⟨_, rfl⟩
        rw [← hw9] at hP3 hf3 ⊢
        clear hw9
        have hf9 : Fx D w w9 := HFa.out.trans' hf3 (fun j e he => (HDw.out j e).resolve_right (by omega))
        have hT9 : TabV kU 23 w9 D3 b (addN L (ks.take (κ + 1))) := by rw [htk, addN_snoc, ← HL'.out, add1_out hnin]; exact ⟨_, _, hP3⟩
        have hD9 : ∀ j, D3 j → D j ∨ w.heap.size ≤ j := fun j e => (hD3 j e).elim (HDw.out j) fun e => .inr (by have := HFa.out.size; omega)
        clear hP3 hf3 hD3
        go_wp2
        go_roundw
        case rel => exact ⟨κ + 1, D3, by first | rfl | go_num, by omega, by rw [htk, numN_snoc, ← HL'.out, ix_out hnin], hf9, hT9, hD9⟩
        case measure => simp [intOf]; omega
      · by_cases hin : x ∈ L'
        · have hlook : (Instr.lookup 26 (.map (some mb)) (.int .u64 x) true).run Try.prog wa = .ok (.tuple #[.int .i64 (ix L' x : Nat), .bool true]) wa := MapN.look_in fitU hM hxk hin
          clear hf hD1 hP hPn hcell hL' hM
          go_wp2
          go_roundw
          case rel => exact ⟨κ + 1, D1, by first | rfl | go_num, by omega, by rw [htk, numN_snoc, ← HL'.out], HFn.out, by rw [htk, addN_snoc, ← HL'.out, add1_in hin]; exact ⟨_, _, HPn.out⟩, HD1.out⟩
          case measure => simp [intOf]; omega
        · have hlook : (Instr.lookup 26 (.map (some mb)) (.int .u64 x) true).run Try.prog wa = .ok (.tuple #[.int .i64 0, .bool false]) wa := MapN.look_out fitU hM hxk hin
          have hmx := hown mb hmD
          clear hf hD1 hP hPn hcell hL' hM
          have heq := fun W => eqMapU (some mb) W
          go_wp2
          clear heq
          refine wp_hold (fun W => Fx D w W ∧ TabP kU 23 W D1 b L' (.map (some mb)) (.slice nao L'.length ncap)) ⟨HFn.out, HPn.out⟩ ?_
          rintro wc ⟨hfc, hPc⟩
          have HFa := Lib.hid hfc
          have HP := Lib.hid hPc
          have HDw := HD1
          have hl1 := hlen
          have hnin := hin
          clear hlook hc0w hc1w hz0w hc0 hc1 hz0 hbl hfc hPc hmx hown hmD hmb hmn
          have hP0 := HP.out
          obtain ⟨mb', hme, hmD, hmb, hmn, hM⟩ := hP0.map.resolve_left (fun q => by cases q.1)
          obtain rfl : mb = mb' := by simpa using hme
          have HM := Lib.hid hM
          have HNb := Lib.hid hP0.nb
          have h0c : ∀ W, Fx (fun j => (Value.slice nao L'.length ncap).ownBlock = some j ∨ j = mb) wc W → W.cell? ⟨b, 0, none⟩ = some (.map (some mb)) := fun W q => q.cell' HP.out.c0 (fun z => z.elim (fun z => (HNb.out b z).2 rfl) fun z => hmb z.symm)
          have h1c : ∀ W, Fx (fun j => (Value.slice nao L'.length ncap).ownBlock = some j ∨ j = mb) wc W → W.cell? ⟨b, 1, none⟩ = some (.slice nao L'.length ncap) := fun W q => q.cell' HP.out.c1 (fun z => z.elim (fun z => (HNb.out b z).2 rfl) fun z => hmb z.symm)
          have hbz := HP.out.lt _ HP.out.db
          clear hP0 hme hM
          refine wp_region_G 19 (fun bb W => bb = false → Fx (fun j => (Value.slice nao L'.length ncap).ownBlock = some j ∨ j = mb) wc W) (by kernel_rfl) (fun _ => (Fx.refl _ _).drew) ?_
          intro _ hC
          refine wpG_hold (fun W' => Fx No wc W') (Fx.refl _ _).drew ?_
          rintro y0 hN
          have hS : Fx (fun j => (Value.slice nao L'.length ncap).ownBlock = some j ∨ j = mb) wc y0 := hN.no
          have HN0 := Lib.hid hN
          clear hN
          refine wpG_take (i := 0) (v := ?_) rfl (by kernel_rfl) (by kernel_rfl) (by kernel_rfl) (by kernel_rfl) (fun _ _ _ h => h) (by decide) (Or.inl ⟨by rfl, ?_⟩) hC (fun _ => hS) ?_
          rotate_left
          · (intro W hc; have hs := hc rfl; clear hc; go_simp; first | done | with_reducible rfl)
          clear hC
          intro _ hC
          try simp only [Act.put, List.getElem_toArray, List.getElem_cons_zero, List.getElem_cons_succ, List.setIfInBounds_toArray, List.set_cons_zero, List.set_cons_succ]
          refine wpG_take (i := 4) (v := ?_) rfl (by kernel_rfl) (by kernel_rfl) (by kernel_rfl) (by kernel_rfl) (fun _ _ _ h => h) (by decide) (Or.inl ⟨by rfl, ?_⟩) hC (fun _ => hS) ?_
          rotate_left
          · (intro W hc; have hs := hc rfl; clear hc; go_simp; first | done | with_reducible rfl)
          clear hC
          intro _ hC
          try simp only [Act.put, List.getElem_toArray, List.getElem_cons_zero, List.getElem_cons_succ, List.setIfInBounds_toArray, List.set_cons_zero, List.set_cons_succ]
          refine wpG_take (i := 5) (v := ?_) rfl (by kernel_rfl) (by kernel_rfl) (by kernel_rfl) (by kernel_rfl) (fun _ _ _ h => h) (by decide) (Or.inl ⟨by rfl, ?_⟩) hC (fun _ => hS) ?_
          rotate_left
          · (intro W hc; have hs := hc rfl; clear hc; go_simp; first | done | with_reducible rfl)
          clear hC
          intro _ hC
          try simp only [Act.put, List.getElem_toArray, List.getElem_cons_zero, List.getElem_cons_succ, List.setIfInBounds_toArray, List.set_cons_zero, List.set_cons_succ]
          refine wpG_take (i := 6) (v := ?_) rfl (by kernel_rfl) (by kernel_rfl) (by kernel_rfl) (by kernel_rfl) (fun _ _ _ h => h) (by decide) (Or.inl ⟨by rfl, ?_⟩) hC (fun _ => hS) ?_
          rotate_left
          · (intro W hc; have hs := hc rfl; clear hc; go_simp; first | done | with_reducible rfl)
          clear hC
          intro _ hC
          try simp only [Act.put, List.getElem_toArray, List.getElem_cons_zero, List.getElem_cons_succ, List.setIfInBounds_toArray, List.set_cons_zero, List.set_cons_succ]
          refine wpG_take (i := 7) (v := ?_) rfl (by kernel_rfl) (by kernel_rfl) (by kernel_rfl) (by kernel_rfl) (fun _ _ _ h => h) (by decide) (Or.inl ⟨by rfl, ?_⟩) hC (fun _ => hS) ?_
          rotate_left
          · (intro W hc; have hs := hc rfl; clear hc; go_simp; first | done | with_reducible rfl)
          clear hC
          intro _ hC
          try simp only [Act.put, List.getElem_toArray, List.getElem_cons_zero, List.getElem_cons_succ, List.setIfInBounds_toArray, List.set_cons_zero, List.set_cons_succ]
          refine wpG_take (i := 11) (v := ?_) rfl (by kernel_rfl) (by kernel_rfl) (by kernel_rfl) (by kernel_rfl) (fun _ _ _ h => h) (by decide) (Or.inl ⟨by rfl, ?_⟩) hC (fun _ => hS) ?_
          rotate_left
          · (intro W hc; have hs := hc rfl; clear hc; go_simp; first | done | with_reducible rfl)
          clear hC
          intro _ hC
          try simp only [Act.put, List.getElem_toArray, List.getElem_cons_zero, List.getElem_cons_succ, List.setIfInBounds_toArray, List.set_cons_zero, List.set_cons_succ]
          refine wpG_take (i := 1) (v := ?_) rfl (by kernel_rfl) (by kernel_rfl) (by kernel_rfl) (by kernel_rfl) (fun _ _ _ h => h) (by decide) (Or.inl ⟨by rfl, ?_⟩) hC (fun _ => hS) ?_
          rotate_left
          · (intro W hc; have hs := hc rfl; clear hc; go_simp; first | done | with_reducible rfl)
          clear hC
          intro _ hC
          try simp only [Act.put, List.getElem_toArray, List.getElem_cons_zero, List.getElem_cons_succ, List.setIfInBounds_toArray, List.set_cons_zero, List.set_cons_succ]
          refine wpG_take (i := 2) (v := ?_) rfl (by kernel_rfl) (by kernel_rfl) (by kernel_rfl) (by kernel_rfl) (fun _ _ _ h => h) (by decide) (Or.inl ⟨by rfl, ?_⟩) hC (fun _ => hS) ?_
          rotate_left
          · (intro W hc; have hs := hc rfl; clear hc; go_simp; first | done | with_reducible rfl)
          clear hC
          intro _ hC
          try simp only [Act.put, List.getElem_toArray, List.getElem_cons_zero, List.getElem_cons_succ, List.setIfInBounds_toArray, List.set_cons_zero, List.set_cons_succ]
          refine wpG_take (i := 3) (v := ?_) rfl (by kernel_rfl) (by kernel_rfl) (by kernel_rfl) (by kernel_rfl) (fun _ _ _ h => h) (by decide) (Or.inl ⟨by rfl, ?_⟩) hC (fun _ => hS) ?_
          rotate_left
          · (intro W hc; have hs := hc rfl; clear hc; go_simp; first | done | with_reducible rfl)
          clear hC
          intro _ hC
          try simp only [Act.put, List.getElem_toArray, List.getElem_cons_zero, List.getElem_cons_succ, List.setIfInBounds_toArray, List.set_cons_zero, List.set_cons_succ]
          refine wpG_take (i := 8) (v := ?_) rfl (by kernel_rfl) (by kernel_rfl) (by kernel_rfl) (by kernel_rfl) (fun _ _ _ h => h) (by decide) (Or.inl ⟨by rfl, ?_⟩) hC (fun _ => hS) ?_
          rotate_left
          · (intro W hc; have hs := hc rfl; clear hc; go_simp; first | done | with_reducible rfl)
          clear hC
          intro _ hC
          try simp only [Act.put, List.getElem_toArray, List.getElem_cons_zero, List.getElem_cons_succ, List.setIfInBounds_toArray, List.set_cons_zero, List.set_cons_succ]
          refine wpG_take (i := 9) (v := ?_) rfl (by kernel_rfl) (by kernel_rfl) (by kernel_rfl) (by kernel_rfl) (fun _ _ _ h => h) (by decide) (Or.inl ⟨by rfl, ?_⟩) hC (fun _ => hS) ?_
          rotate_left
          · (intro W hc; have hs := hc rfl; clear hc; go_simp; first | done | with_reducible rfl)
          clear hC
          intro _ hC
          try simp only [Act.put, List.getElem_toArray, List.getElem_cons_zero, List.getElem_cons_succ, List.setIfInBounds_toArray, List.set_cons_zero, List.set_cons_succ]
          refine wpG_take (i := 10) (v := ?_) rfl (by kernel_rfl) (by kernel_rfl) (by kernel_rfl) (by kernel_rfl) (fun _ _ _ h => h) (by decide) (Or.inl ⟨by rfl, ?_⟩) hC (fun _ => hS) ?_
          rotate_left
          · (intro W hc; have hs := hc rfl; clear hc; go_simp; first | done | with_reducible rfl)
          clear hC
          intro _ hC
          try simp only [Act.put, List.getElem_toArray, List.getElem_cons_zero, List.getElem_cons_succ, List.setIfInBounds_toArray, List.set_cons_zero, List.set_cons_succ]
          refine wpG_one (i := 12) (by kernel_rfl) rfl hC (fun K hK => ?_)
          go_simp
          have hS2 := hS.alloc (.cells #[.int .u64 x] 23)
          refine hK.out _ _ (fun _ => hS2) (fun _ hC' => ?_)
          clear hK K hS hC
          have hS := hS2
          have hC := hC'
          clear hS2 hC'
          try simp only [Act.put, List.getElem_toArray, List.getElem_cons_zero, List.getElem_cons_succ, List.setIfInBounds_toArray, List.set_cons_zero, List.set_cons_succ]
          refine wpG_hold (fun W' => Fx (fun j => (Value.slice nao L'.length ncap).ownBlock = some j ∨ j = mb) wc W' ∧ Fx No wc W' ∧ SlV W' (fun _ => True) (.slice (some ⟨y0.heap.size, 0, none⟩) 1 1) 1 1 [.int .u64 x]) ⟨hS, HN0.out.alloc _, SlV.lit y0 23 #[.int .u64 x] 1 1 rfl (by unfold maxLen; omega)⟩ ?_
          clear hS
          rintro y1 ⟨hS, hN1, hNew⟩
          obtain ⟨nb, hnb⟩ : ∃ q, q = y0.heap.size := ⟨_, rfl⟩
          rw [← hnb] at hNew ⊢
          have HN1 := Lib.hid hN1
          have HNew := Lib.hid hNew
          clear hN1 hNew hnb
          refine wpG_one (i := 13) (by kernel_rfl) rfl hC (fun K hK => ?_)
          refine step_append_kept rfl (.tmp 51) (.tmp 53) 27 rfl 0 23 Try.underlying27 hi hz hsz hby rfl (by decide) (.slice nao L'.length ncap) L'.length (ncells kU L') (by simp [Act.eval, Act.put]) (ownsRow_fx HP.out.row HN1.out fun _ _ h => h) (fun _ => True) (.slice (some ⟨nb, 0, none⟩) 1 1) 1 [.int .u64 x] (by simp [Act.eval, Act.put]) HNew.out (by intro u hu; simp at hu; rw [hu]; rfl) (by omega) (by unfold maxLen; omega) (by omega) (Nat.zero_le _) ?_
          intro nv' y2 ho hf4 _ hb4
          obtain ⟨nao2, ncap2, rfl, _⟩ := SlV.ofOwns ho
          have HO := Lib.hid ho
          have HF4 := Lib.hid hf4
          have HB4 := Lib.hid hb4
          have hS2 := hS.trans' hf4 (fun j e _ => Or.inl e)
          clear ho hf4 hb4
          refine hK.out _ _ (fun _ => hS2) (fun _ hC' => ?_)
          clear hK K hS hC
          have hS := hS2
          have hC := hC'
          clear hS2 hC'
          try simp only [Act.put, List.getElem_toArray, List.getElem_cons_zero, List.getElem_cons_succ, List.setIfInBounds_toArray, List.set_cons_zero, List.set_cons_succ]
          obtain ⟨v0, st, y3, hr, hHalf, hf5⟩ := MapN.entry fitU ((HM.out.no HN1.out).keep HF4.out hmn) (by omega) hxk hnin
          have hr' : (Instr.mapEntry 26 (.map (some mb)) (.int .u64 x)).run Try.prog y2 = .ok (.tuple #[v0, .int .i64 (st : Nat)]) y3 := hr
          clear hr
          refine wpG_one (i := 14) (by kernel_rfl) rfl hC (fun K hK => ?_)
          go_simp
          have hS2 := hS.trans' hf5.out (fun j e _ => Or.inr e)
          clear hr'
          refine hK.out _ _ (fun _ => hS2) (fun _ hC' => ?_)
          clear hK K hS hC
          have hS := hS2
          have hC := hC'
          clear hS2 hC'
          try simp only [Act.put, List.getElem_toArray, List.getElem_cons_zero, List.getElem_cons_succ, List.setIfInBounds_toArray, List.set_cons_zero, List.set_cons_succ]
          refine wpG_take (i := 15) (v := ?_) rfl (by kernel_rfl) (by kernel_rfl) (by kernel_rfl) (by kernel_rfl) (fun _ _ _ h => h) (by decide) (Or.inl ⟨by rfl, ?_⟩) hC (fun _ => hS) ?_
          rotate_left
          · (intro W hc; have hs := hc rfl; clear hc; go_simp; first | done | with_reducible rfl)
          clear hC
          intro _ hC
          try simp only [Act.put, List.getElem_toArray, List.getElem_cons_zero, List.getElem_cons_succ, List.setIfInBounds_toArray, List.set_cons_zero, List.set_cons_succ]
          obtain ⟨y4, hr, hM6, hf6⟩ := hHalf.out.store
          have hr' : (Instr.entryStore 26 (.map (some mb)) (.int .i64 (st : Nat)) (.int .i64 (L'.length : Nat))).run Try.prog y3 = .ok () y4 := hr
          clear hr
          refine wpG_one (i := 16) (by kernel_rfl) rfl hC (fun K hK => ?_)
          go_simp
          have hS2 := hS.trans' hf6.out (fun j e _ => Or.inr e)
          clear hr'
          refine hK.out _ _ (fun _ => hS2) (fun _ hC' => ?_)
          clear hK K hS hC
          have hS := hS2
          have hC := hC'
          clear hS2 hC'
          try simp only [Act.put, List.getElem_toArray, List.getElem_cons_zero, List.getElem_cons_succ, List.setIfInBounds_toArray, List.set_cons_zero, List.set_cons_succ]
          refine wpG_one (i := 17) (by kernel_rfl) rfl hC (fun K hK => ?_)
          go_simp
          have hS2 := hS
          refine hK.out _ _ (fun _ => hS2) (fun _ hC' => ?_)
          clear hK K hS hC
          have hS := hS2
          have hC := hC'
          clear hS2 hC'
          try simp only [Act.put, List.getElem_toArray, List.getElem_cons_zero, List.getElem_cons_succ, List.setIfInBounds_toArray, List.set_cons_zero, List.set_cons_succ]
          refine wpG_take (i := 18) (v := ?_) rfl (by kernel_rfl) (by kernel_rfl) (by kernel_rfl) (by kernel_rfl) (fun _ _ _ h => h) (by decide) (Or.inl ⟨by rfl, ?_⟩) hC (fun _ => hS) ?_
          rotate_left
          · (intro W hc; have hs := hc rfl; clear hc; go_simp; first | done | with_reducible rfl)
          clear hC
          intro _ hC
          try simp only [Act.put, List.getElem_toArray, List.getElem_cons_zero, List.getElem_cons_succ, List.setIfInBounds_toArray, List.set_cons_zero, List.set_cons_succ]
          have hz1 : y4.frozen? ⟨b, 1, none⟩ = false := (hS.frozen hbz (fun z => z.elim (fun z => (HNb.out b z).2 rfl) fun z => hmb z.symm)).trans HP.out.z1
          have hc1 := h1c _ hS
          refine wpG_one (i := 19) (by kernel_rfl) rfl hC (fun K hK => ?_)
          go_simp
          refine hK.out _ _ (fun h => absurd h (by decide +kernel)) (fun _ _ => ?_)
          clear hK K hC
          refine wpG_done (by kernel_rfl) ?_ _
          clear h0c h1c hc1 hz1 hS
          obtain ⟨D3, hP3, hD3, hf3⟩ := HP.out.put fitU HN1.out HO.out HF4.out HB4.out hM6.out hf5.out hf6.out hxk hnin hl1
          obtain ⟨w9, hw9⟩ : ∃ q, q = y4.setCell ⟨b, 1, none⟩ (.slice nao2 (L'.length + 1) ncap2) := ⟨_, rfl⟩
          rw [← hw9] at hP3 hf3 ⊢
          clear hw9
          have hf9 : Fx D w w9 := HFa.out.trans' hf3 (fun j e he => (HDw.out j e).resolve_right (by omega))
          have hT9 : TabV kU 23 w9 D3 b (addN L (ks.take (κ + 1))) := by rw [htk, addN_snoc, ← HL'.out, add1_out hnin]; exact ⟨_, _, hP3⟩
          have hD9 : ∀ j, D3 j → D j ∨ w.heap.size ≤ j := fun j e => (hD3 j e).elim (HDw.out j) fun e => .inr (by have := HFa.out.size; omega)
          clear hP3 hf3 hD3
          go_wp2
          go_roundw
          case rel => exact ⟨κ + 1, D3, by first | rfl | go_num, by omega, by rw [htk, numN_snoc, ← HL'.out, ix_out hnin], hf9, hT9, hD9⟩
          case measure => simp [intOf]; omega
    · obtain rfl : κ = ks.length := by omega
      have d1 : decide ((ks.length : Int) < (ks.length : Int)) = false := decide_eq_false (by omega)
      have d2 : decide (ks.length < ks.length) = false := decide_eq_false (by omega)
      clear hf hD1
      go_wp2
      go_ret
      rw [List.take_length] at hT ⊢
      exact ⟨rfl, HFw.out, D1, hT, HD1.out⟩
#print axioms addU_any
end Go.Proofs.Ytpegloapdkfgiaa
