/- intern: rising of a table of pairs. -/
import Derived.Test.YtpegloapdkfgiaaNR
import Derived.Test.YtpegloapdkfgiaaND
import Derived.Laws.OwnMore
namespace Go.Proofs.Ytpegloapdkfgiaa
open Go.RowKit Go.Sort Go.Shelf Go.Lib
set_option linter.unusedVariables false

abbrev TabP' (w : World) (D : Nat → Prop) (b : Nat) (L : List (Int × Int)) : Prop := TabV kP 60 w D b L
set_option maxRecDepth 100000 in
set_option maxHeartbeats 4000000 in
theorem risingP_core {w : World} {D : Nat → Prop} {b : Nat} {L : List (Int × Int)} (h : TabP' w D b L) : Calls Try.prog 39 #[.pointer (some ⟨b, 0, none⟩), .func (.func 40) #[] #[]] w fun e w' => ∃ v R, e = .returned v ∧ Fx No w w' ∧ Risen (ltP L) L.length R ∧ RowR w w' v R := by
  obtain ⟨ii, hi, hz, hs, hb⟩ := info_parts info_int'
  obtain ⟨mv, nv, hP⟩ := h
  have hc1 := hP.c1
  have hbl := hP.lt _ hP.db
  have hsm := hP.small
  have HNd := Lib.hid hP.nd
  have hnD : ∀ g, nv.ownBlock = some g → g < w.heap.size := fun g e => hP.lt g (hP.nb g e).1
  obtain ⟨nao, ncap, rfl, _, _, hc⟩ := PaV.facts hP.names
  have HC := Lib.hid hc
  obtain ⟨n, hn⟩ : ∃ n, n = L.length := ⟨_, rfl⟩
  rw [← hn] at hc1 hnD hsm ⊢
  have HN := Lib.hid hn
  clear hP hc hn
  go_enter Try.func39, Try.ntmps39
  go_wp2
  go_loopw [5, 6, 12] (fun lv _ kk ws => ∃ κ : Nat, kk = .int .i64 κ ∧ κ ≤ n ∧ (κ = 0 → lv = .slice none 0 0) ∧ Fx No w ws ∧ w.heap.size + 2 ≤ ws.heap.size ∧ ws.ownsRow (w.heap.size + 2) 3 1 lv κ (ints (iota κ)) ∧ ws.cell? ⟨w.heap.size, 0, none⟩ = some (.pointer (some ⟨b, 0, none⟩)) ∧ ws.cell? ⟨w.heap.size + 1, 0, none⟩ = some (.func (.func 40) #[] #[])) (fun _ _ kk _ => n - (intOf kk).toNat)
  case atStart => exact ⟨0, rfl, by omega, fun _ => rfl, ((Fx.refl No w).alloc _).alloc _, by simp, World.ownsRow_nil _ _ _ _, by go_simp, by go_simp⟩
  case round =>
    obtain ⟨κ, rfl, hκ, hnil, hf, hsz, ho, hb0, hb1⟩ := hrel
    have HF := Lib.hid hf
    have HO := Lib.hid ho
    have HB0 := Lib.hid hb0
    have HB1 := Lib.hid hb1
    obtain ⟨ws, hws⟩ : ∃ x, x = wr := ⟨_, rfl⟩
    subst hws
    clear hf ho hb0 hb1
    by_cases hl : κ < n
    · have d1 : decide ((κ : Int) < (n : Int)) = true := decide_eq_true (by omega)
      have d2 : decide (κ < n) = true := decide_eq_true hl
      go_wp2_with (at_builtin; refine wpList_append_kept rfl _ _ 47 rfl (w.heap.size + 2) 3 Try.underlying47 hi hz hs hb rfl (by decide) rfl (World.ownsRow.alloc HO.out _) rfl (SlV.lit _ 3 #[.int .i64 (κ : Nat)] 1 1 rfl (by unfold maxLen; omega)) (ints_one [_]) (by omega) (by unfold maxLen; omega) (by omega) (by simp; omega) ?_)
      intro v2 w6 ho hf _ hbk
      have HO2 : Hid (w6.ownsRow (w.heap.size + 2) 3 1 v2 (κ + 1) (ints (iota (κ + 1)))) := Lib.hid (by rw [iota_succ, ints_app]; exact ho)
      have hfa := (Fx.refl No ws).alloc (.cells #[.int .i64 ((κ : Nat) : Int)] 3)
      have hown : ∀ j, u5.ownBlock = some j → w.heap.size + 2 ≤ j := fun j e => (World.ownsRow.lt HO.out j e).1
      have HF2 : Hid (Fx No w w6) := Lib.hid ((HF.out.alloc _).trans' hf fun j h1 h2 => by have := hown j h1; omega)
      have HB0' : Hid (w6.cell? ⟨w.heap.size, 0, none⟩ = some (.pointer (some ⟨b, 0, none⟩))) := Lib.hid (hf.cell' (hfa.cell' HB0.out (fun h => h)) (fun e => by have := hown w.heap.size e; omega))
      have HB1' : Hid (w6.cell? ⟨w.heap.size + 1, 0, none⟩ = some (.func (.func 40) #[] #[])) := Lib.hid (hf.cell' (hfa.cell' HB1.out (fun h => h)) (fun e => by have := hown (w.heap.size + 1) e; omega))
      have hsz6 : w.heap.size + 2 ≤ w6.heap.size := by have h1 := hfa.size; have h2 := hf.size; omega
      clear ho hf hbk hfa
      go_wp2
      go_roundw
      case rel => exact ⟨κ + 1, by first | rfl | go_num, by omega, fun h => by omega, HF2.out, hsz6, HO2.out, HB0'.out, HB1'.out⟩
      case measure => simp [intOf]; omega
    · obtain rfl : κ = n := by omega
      have d1 : decide ((κ : Int) < (κ : Int)) = false := decide_eq_false (by omega)
      have d2 : decide (κ < κ) = false := decide_eq_false (by omega)
      rcases Nat.eq_zero_or_pos κ with h0 | h0
      · subst h0
        obtain rfl := hnil rfl
        have hcon := fun W => AnyF.slices_SortFunc_none (P := Try.prog) (ρ := sortL_ren) { sortL with } none 0 (.func (.func 47) #[] #[.pointer (some ⟨w.heap.size + 1, 0, none⟩), .pointer (some ⟨w.heap.size, 0, none⟩)]) W
        change ∀ W, Calls Try.prog 44 _ _ _ at hcon
        clear hnil
        go_wp2_with fail
        refine (hcon _).mono ?_
        rintro e w2 ⟨rfl, rfl⟩
        go_wp2
        go_ret
        exact ⟨_, [], rfl, HF.out, ⟨rfl, fun p hp => by omega⟩, SlV.nil _ _ _, fun g e => by cases e⟩
      · clear hnil
        obtain ⟨g, gcap, rfl, hg1, hg2⟩ := ownsRow_pos HO.out h0
        have inh : Inhabited (Fin κ) := ⟨⟨0, h0⟩⟩
        obtain ⟨d, hd⟩ : ∃ d : Array (Fin κ), d = Array.ofFn id := ⟨_, rfl⟩
        have hds : d.size = κ := by rw [hd]; simp
        have hH : Holds encF ws g 0 d := fun j hj => by
          have hjk : j < κ := by omega
          have h1 := HO.out.cells (g := g) rfl j (.int .i64 ((j : Nat) : Int)) (by simp [ints, iota, hjk])
          rw [Addr.add_lit] at h1
          refine ⟨?_, World.ownsRow.frozenAt HO.out _⟩
          rw [h1]
          simp [encF, hd, hjk, getElem!_pos]
        obtain ⟨cf, hcf⟩ : ∃ cf : Fin κ → Fin κ → Int, cf = fun i j => cmpP (gp L i.val) (gp L j.val) := ⟨_, rfl⟩
        have hlt : ∀ i j : Fin κ, ltOf cf i j = ltP L i.val j.val := fun i j => by rw [hcf]; unfold ltOf; exact cmpP_lt _ _
        have hO : SWO (ltOf cf) := ⟨fun x => by rw [hlt]; exact lessP_irr _, fun x y z h1 h2 => by rw [hlt] at *; exact lessP_trans _ _ _ h1 h2, fun x y z h1 h2 => by
          rw [hlt] at *
          unfold ltP at *
          cases h3 : lessP (gp L x.val) (gp L z.val) with
          | false => rfl
          | true =>
            have n1 : ¬ lessP (gp L x.val) (gp L y.val) = true := by rw [h1]; simp
            have n2 : ¬ lessP (gp L y.val) (gp L z.val) = true := by rw [h2]; simp
            rw [lessP_iff] at n1 n2 h3
            omega⟩
        have eg : ∀ args w, (callFunc 47 args).run Try.prog w = .ok (.enter 47 args) w := enters_of Try.func47 (by kernel_rfl) rfl
        have hcmp : CmpLays1 Try.prog 47 #[.pointer (some ⟨w.heap.size + 1, 0, none⟩), .pointer (some ⟨w.heap.size, 0, none⟩)] encF cf g 0 d.size ws := fun m os dk hs x y => by
          have hfs : Fx (fun k => k = g) ws (sortWorld encF ws g 0 m dk os) := fx_sortWorld _ _ _ _ _ _ _
          have hx := x.isLt
          have hy := y.isLt
          obtain ⟨ga, o, e1, h3, h4, h4'⟩ := HC.out x.val (by rw [← HN.out]; exact hx)
          obtain ⟨ga', o', e2, _, h5, h5'⟩ := HC.out y.val (by rw [← HN.out]; exact hy)
          rw [e1] at e2
          simp only [Option.some.injEq, Addr.mk.injEq] at e2
          obtain ⟨rfl, rfl, _⟩ := e2
          have hga := hnD ga (by rw [HN.out]; exact h3)
          have hgne : ¬ ga = g := by omega
          have := closP_any (W := sortWorld encF ws g 0 m dk os) (bb := w.heap.size + 1) (cb := w.heap.size) (b := b) (nao := nao) (n := κ) (ncap := ncap) (x := x.val) (y := y.val) (a := gp L x.val) (c := gp L y.val) (hfs.cell' HB1.out (fun e => by have h : w.heap.size + 1 = g := e; omega)) (hfs.cell' HB0.out (fun e => by have h : w.heap.size = g := e; omega))
            (hfs.cell' (HF.out.cell' hc1 (fun h => h)) (fun e => by have h : b = g := e; omega)) hx hy ⟨ga, o, e1, ⟨hfs.cell' (HF.out.cell' h4 (fun h => h)) hgne, hfs.cell' (HF.out.cell' h4' (fun h => h)) hgne⟩, hfs.cell' (HF.out.cell' h5 (fun h => h)) hgne, hfs.cell' (HF.out.cell' h5' (fun h => h)) hgne⟩
          rw [hcf]
          exact this
        have hcon := Any.slices_SortFunc sortL encF (fun _ => rfl) cf hO 47 #[.pointer (some ⟨w.heap.size + 1, 0, none⟩), .pointer (some ⟨w.heap.size, 0, none⟩)] g 0 gcap d ws eg hcmp hH hg2 (by omega)
        change Calls Try.prog 44 _ _ _ at hcon
        rw [show (Value.slice (some ⟨g, 0, none⟩) d.size gcap) = .slice (some ⟨g, 0, none⟩) κ gcap from by rw [hds]] at hcon
        have HCon := Lib.hid hcon
        have HH := Lib.hid hH
        have HCf := Lib.hid hlt
        have HD := Lib.hid hd
        clear hcon hcmp hH hlt hO eg hcf hd hds
        go_wp2_with fail
        refine HCon.out.mono ?_
        rintro e w2 ⟨rfl, d', k2, os, hp, hs, hw⟩
        have hinj : ∀ a c, a < κ → c < κ → a ≠ c → ltP L a c = true ∨ ltP L c a = true := fun a c ha hc hne => lessP_total (gp_ne HNd.out (by rw [← HN.out]; exact ha) (by rw [← HN.out]; exact hc) hne)
        obtain ⟨R, hfR, hR, hRow⟩ := sorted_row (w := w) h0 HCf.out HD.out hinj (fun a => lessP_irr _) hp hs (ownsRow_base HO.out (by omega)) HH.out hw HF.out
        have HFR := Lib.hid hfR
        have HRR := Lib.hid hR
        have HRow := Lib.hid hRow
        clear hp hs hw hfR hR hRow hinj
        go_wp2
        go_ret
        exact ⟨_, R, rfl, HFR.out, HRR.out, HRow.out⟩
#print axioms risingP_core
end Go.Proofs.Ytpegloapdkfgiaa
