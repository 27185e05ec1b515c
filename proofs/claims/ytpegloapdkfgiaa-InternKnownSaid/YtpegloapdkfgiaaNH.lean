/- intern: rising: numbers in an order of their names. -/
import Derived.Test.YtpegloapdkfgiaaNF
import Derived.Test.YtpegloapdkfgiaaNG
import Derived.Laws.OwnMore
namespace Go.Proofs.Ytpegloapdkfgiaa
open Go.RowKit Go.Sort Go.Shelf Go.Lib
set_option linter.unusedVariables false

theorem fx_sortWorld {α : Type} [Inhabited α] (enc : α → Value) (w : World) (blk off n : Nat) (dk : Array α) (os : Array Obj) : Fx (fun k => k = blk) w (sortWorld enc w blk off n dk os) := by
  unfold sortWorld grow putRow mapBlock Sort.ahead
  refine ⟨rfl, rfl, rfl, by simp, fun k hk hn => ?_⟩
  simp only
  rw [Array.getElem?_append_left (by simpa using hk), Array.getElem?_modify, if_neg (fun e => hn e.symm)]
theorem ints_app (a b : List Int) : ints (a ++ b) = ints a ++ ints b := List.map_append
def iota (n : Nat) : List Int := (List.range n).map fun i => ((i : Nat) : Int)
theorem iota_succ (n : Nat) : iota (n + 1) = iota n ++ [(n : Int)] := by simp [iota, List.range_succ]
theorem iota_length (n : Nat) : (iota n).length = n := by simp [iota]
def encF {n : Nat} (i : Fin n) : Value := .int .i64 ((i.val : Nat) : Int)
def natsI (R : List Nat) : List Int := R.map fun i => ((i : Nat) : Int)
/-- a row of numbers in a new block -/
def RowR (w w' : World) (v : Value) (R : List Nat) : Prop := IntsV w' (fun j => w.heap.size ≤ j) v (natsI R) ∧ ∀ g, v.ownBlock = some g → w.heap.size ≤ g ∧ ∀ p, w'.frozen? ⟨g, p, none⟩ = false
theorem RowR.no {w w' w'' : World} {v : Value} {R : List Nat} (h : RowR w w' v R) (hf : Fx No w' w'') (hl : ∀ g, v.ownBlock = some g → g < w'.heap.size) : RowR w w'' v R :=
  ⟨IntsV.keep h.1 hf No.disj, fun g e => ⟨(h.2 g e).1, fun p => (hf.frozen (a := ⟨g, p, none⟩) (hl g e) (fun h => h)).trans ((h.2 g e).2 p)⟩⟩
/-- the row of numbers is sorted by names: what is left in memory -/
theorem sorted_row {n g cap k : Nat} {w ws w' : World} {lt : Nat → Nat → Bool} {cf : Fin n → Fin n → Int} [Inhabited (Fin n)] {d d' : Array (Fin n)} {os : Array Obj} (hn : 0 < n) (hcf : ∀ i j : Fin n, ltOf cf i j = lt i.val j.val) (hd : d = Array.ofFn id) (ht : ∀ a b, a < n → b < n → a ≠ b → lt a b = true ∨ lt b a = true) (hi : ∀ a, lt a a = false)
    (hp : PermIn 0 d.size d d') (hs : SortedIn (ltOf cf) 0 d.size d') (ho : ws.ownsRow (w.heap.size) 3 1 (.slice (some ⟨g, 0, none⟩) n cap) n (ints (iota n))) (hH : Holds encF ws g 0 d) (hw : w' = sortWorld encF ws g 0 k d' os) (hf : Fx No w ws) :
    ∃ R, Fx No w w' ∧ Risen lt n R ∧ RowR w w' (.slice (some ⟨g, 0, none⟩) n cap) R := by
  have hds : d.size = n := by rw [hd]; simp
  have hds' : d'.size = n := by rw [hp.1, hds]
  have hgl := World.ownsRow.lt ho g rfl
  have hH' : Holds encF w' g 0 d' := by rw [hw]; exact holds_sortWorld encF ws g 0 k d d' os hgl.2 hH (by rw [hds', hds])
  have hfs : Fx (fun k => k = g) ws w' := by rw [hw]; exact fx_sortWorld _ _ _ _ _ _ _
  have hfa : Fx No w w' := hf.trans' hfs fun j e h => by omega
  refine ⟨d'.toList.map Fin.val, hfa, risen_sorted ?_ ?_ ht hi, ⟨?_, ?_⟩⟩
  · have h1 := hp.2.2
    rw [hds] at h1
    have e1 : (d'.extract 0 n) = d' := by
      have := Array.extract_size (xs := d')
      rwa [hds'] at this
    have e2 : (d.extract 0 n) = d := by
      have := Array.extract_size (xs := d)
      rwa [hds] at this
    rw [e1, e2] at h1
    have h2 := h1.map Fin.val
    refine h2.trans ?_
    have : d.toList.map Fin.val = List.range n := by
      rw [hd]
      apply List.ext_getElem (by simp)
      intro i h3 h4
      simp
    rw [this]
  · intro i j hij hj
    have := hs i j (Nat.zero_le _) hij (by rw [hds]; exact hj)
    rw [hcf] at this
    have e1 : (d'.toList.map Fin.val).getD j 0 = (d'[j]!).val := by
      simp [List.getD, getElem!_pos d' j (by omega), show j < d'.size by omega]
    have e2 : (d'.toList.map Fin.val).getD i 0 = (d'[i]!).val := by
      simp [List.getD, getElem!_pos d' i (by omega), show i < d'.size by omega]
    rw [e1, e2]; exact this
  · unfold IntsV
    obtain ⟨ao, cap', e, h2, h3, _, _, _⟩ := SlV.ofOwns ho
    simp only [Value.slice.injEq] at e
    obtain ⟨_, _, rfl⟩ := e
    have hln : (natsI (d'.toList.map Fin.val)).length = n := by simp [natsI, hds']
    rw [hln]
    refine ⟨_, cap, rfl, h2, h3, by simp [ints, hln], by simp, .inr ⟨g, 0, rfl, hgl.1, fun p hpl => ?_⟩⟩
    have hpn : p < n := by simpa [ints, hln] using hpl
    have h5 := (hH' p (by omega)).1
    rw [h5]
    simp [ints, natsI, encF, List.getD, getElem!_pos d' p (by omega), show p < d'.size by omega]
  · intro g' e
    obtain rfl : g = g' := by simpa [Value.ownBlock] using e
    refine ⟨hgl.1, fun p => ?_⟩
    have hz := World.ownsRow.frozenAt ho p
    have h6 : (sortWorld encF ws g 0 k d' os).frozen? ⟨g, p, none⟩ = ws.frozen? ⟨g, p, none⟩ := by
      unfold sortWorld
      rw [frozen?_grow _ _ _ (by simpa [putRow, mapBlock, Sort.ahead] using hgl.2), frozen?_putRow]
      rfl
    rw [hw, h6, hz]

def ltU (L : List Int) (k i : Nat) : Bool := decide (gi L k < gi L i)
theorem cmpU_lt (x y : Int) : decide (cmpU x y < 0) = decide (x < y) := by
  unfold cmpU
  by_cases h : x < y
  · simp [h]
  · by_cases h2 : y < x <;> simp [h, h2]
set_option maxRecDepth 100000 in
set_option maxHeartbeats 4000000 in
theorem rising_core {w : World} {D : Nat → Prop} {b : Nat} {L : List Int} (h : TabU w D b L) : Calls Try.prog 35 #[.pointer (some ⟨b, 0, none⟩), .func (.func 36) #[] #[]] w fun e w' => ∃ v R, e = .returned v ∧ Fx No w w' ∧ Risen (ltU L) L.length R ∧ RowR w w' v R := by
  obtain ⟨ii, hi, hz, hs, hb⟩ := info_parts info_int'
  obtain ⟨mv, nv, hP⟩ := h
  have hc1 := hP.c1
  have hbl := hP.lt _ hP.db
  have hsm := hP.small
  have HNd := Lib.hid hP.nd
  have hnD : ∀ g, nv.ownBlock = some g → g < w.heap.size := fun g e => hP.lt g (hP.nb g e).1
  obtain ⟨nao, ncap, rfl, _, _, hc⟩ := NumV.facts hP.names
  have HC := Lib.hid hc
  obtain ⟨n, hn⟩ : ∃ n, n = L.length := ⟨_, rfl⟩
  rw [← hn] at hc1 hnD hsm ⊢
  have HN := Lib.hid hn
  clear hP hc hn
  go_enter Try.func35, Try.ntmps35
  go_wp2
  go_loopw [5, 6, 12] (fun lv _ kk ws => ∃ κ : Nat, kk = .int .i64 κ ∧ κ ≤ n ∧ (κ = 0 → lv = .slice none 0 0) ∧ Fx No w ws ∧ w.heap.size + 2 ≤ ws.heap.size ∧ ws.ownsRow (w.heap.size + 2) 3 1 lv κ (ints (iota κ)) ∧ ws.cell? ⟨w.heap.size, 0, none⟩ = some (.pointer (some ⟨b, 0, none⟩)) ∧ ws.cell? ⟨w.heap.size + 1, 0, none⟩ = some (.func (.func 36) #[] #[])) (fun _ _ kk _ => n - (intOf kk).toNat)
  case atStart => exact ⟨0, rfl, by omega, fun _ => rfl, ((Fx.refl No w).alloc _).alloc _, by simp, World.ownsRow_nil _ _ _ _, by go_simp, by go_simp⟩
  case round =>
    obtain ⟨κ, rfl, hκ, hnil, hf, hsz, ho, hb0, hb1⟩ := hrel
    have HF := Lib.hid hf
    have HO := Lib.hid ho
    have HB0 := Lib.hid hb0
    have HB1 := Lib.hid hb1
    obtain ⟨ws, hws⟩ : ∃ x, x = wr := ⟨_, rfl⟩
    subst hws
    clear hf ho hb0 hb1
    by_cases hl : κ < n
    · have d1 : decide ((κ : Int) < (n : Int)) = true := decide_eq_true (by omega)
      have d2 : decide (κ < n) = true := decide_eq_true hl
      go_wp2_with (at_builtin; refine wpList_append_kept rfl _ _ 47 rfl (w.heap.size + 2) 3 Try.underlying47 hi hz hs hb rfl (by decide) rfl (World.ownsRow.alloc HO.out _) rfl (SlV.lit _ 3 #[.int .i64 (κ : Nat)] 1 1 rfl (by unfold maxLen; omega)) (ints_one [_]) (by omega) (by unfold maxLen; omega) (by omega) (by simp; omega) ?_)
      intro v2 w6 ho hf _ hbk
      have HO2 : Hid (w6.ownsRow (w.heap.size + 2) 3 1 v2 (κ + 1) (ints (iota (κ + 1)))) := Lib.hid (by rw [iota_succ, ints_app]; exact ho)
      have hfa := (Fx.refl No ws).alloc (.cells #[.int .i64 ((κ : Nat) : Int)] 3)
      have hown : ∀ j, u5.ownBlock = some j → w.heap.size + 2 ≤ j := fun j e => (World.ownsRow.lt HO.out j e).1
      have HF2 : Hid (Fx No w w6) := Lib.hid ((HF.out.alloc _).trans' hf fun j h1 h2 => by have := hown j h1; omega)
      have HB0' : Hid (w6.cell? ⟨w.heap.size, 0, none⟩ = some (.pointer (some ⟨b, 0, none⟩))) := Lib.hid (hf.cell' (hfa.cell' HB0.out (fun h => h)) (fun e => by have := hown w.heap.size e; omega))
      have HB1' : Hid (w6.cell? ⟨w.heap.size + 1, 0, none⟩ = some (.func (.func 36) #[] #[])) := Lib.hid (hf.cell' (hfa.cell' HB1.out (fun h => h)) (fun e => by have := hown (w.heap.size + 1) e; omega))
      have hsz6 : w.heap.size + 2 ≤ w6.heap.size := by have h1 := hfa.size; have h2 := hf.size; omega
      clear ho hf hbk hfa
      go_wp2
      go_roundw
      case rel => exact ⟨κ + 1, by first | rfl | go_num, by omega, fun h => by omega, HF2.out, hsz6, HO2.out, HB0'.out, HB1'.out⟩
      case measure => simp [intOf]; omega
    · obtain rfl : κ = n := by omega
      have d1 : decide ((κ : Int) < (κ : Int)) = false := decide_eq_false (by omega)
      have d2 : decide (κ < κ) = false := decide_eq_false (by omega)
      rcases Nat.eq_zero_or_pos κ with h0 | h0
      · subst h0
        obtain rfl := hnil rfl
        have hcon := fun W => AnyF.slices_SortFunc_none (P := Try.prog) (ρ := sortL_ren) { sortL with } none 0 (.func (.func 45) #[] #[.pointer (some ⟨w.heap.size + 1, 0, none⟩), .pointer (some ⟨w.heap.size, 0, none⟩)]) W
        change ∀ W, Calls Try.prog 44 _ _ _ at hcon
        clear hnil
        go_wp2_with fail
        refine (hcon _).mono ?_
        rintro e w2 ⟨rfl, rfl⟩
        go_wp2
        go_ret
        exact ⟨_, [], rfl, HF.out, ⟨rfl, fun p hp => by omega⟩, SlV.nil _ _ _, fun g e => by cases e⟩
      · clear hnil
        obtain ⟨g, gcap, rfl, hg1, hg2⟩ := ownsRow_pos HO.out h0
        have inh : Inhabited (Fin κ) := ⟨⟨0, h0⟩⟩
        obtain ⟨d, hd⟩ : ∃ d : Array (Fin κ), d = Array.ofFn id := ⟨_, rfl⟩
        have hds : d.size = κ := by rw [hd]; simp
        have hH : Holds encF ws g 0 d := fun j hj => by
          have hjk : j < κ := by omega
          have h1 := HO.out.cells (g := g) rfl j (.int .i64 ((j : Nat) : Int)) (by simp [ints, iota, hjk])
          rw [Addr.add_lit] at h1
          refine ⟨?_, World.ownsRow.frozenAt HO.out _⟩
          rw [h1]
          simp [encF, hd, hjk, getElem!_pos]
        obtain ⟨cf, hcf⟩ : ∃ cf : Fin κ → Fin κ → Int, cf = fun i j => cmpU (gi L i.val) (gi L j.val) := ⟨_, rfl⟩
        have hlt : ∀ i j : Fin κ, ltOf cf i j = ltU L i.val j.val := fun i j => by rw [hcf]; unfold ltOf ltU; exact cmpU_lt _ _
        have hO : SWO (ltOf cf) := ⟨fun x => by rw [hlt]; simp [ltU], fun x y z h1 h2 => by rw [hlt] at *; simp [ltU] at *; omega, fun x y z h1 h2 => by rw [hlt] at *; simp [ltU] at *; omega⟩
        have eg : ∀ args w, (callFunc 45 args).run Try.prog w = .ok (.enter 45 args) w := enters_of Try.func45 (by kernel_rfl) rfl
        have hcmp : CmpLays1 Try.prog 45 #[.pointer (some ⟨w.heap.size + 1, 0, none⟩), .pointer (some ⟨w.heap.size, 0, none⟩)] encF cf g 0 d.size ws := CmpReads.lays fun m os dk hs x y => by
          have hfs : Fx (fun k => k = g) ws (sortWorld encF ws g 0 m dk os) := fx_sortWorld _ _ _ _ _ _ _
          have hx := x.isLt
          have hy := y.isLt
          obtain ⟨ga, o, e1, h3, h4⟩ := HC.out x.val (by rw [← HN.out]; exact hx)
          obtain ⟨ga', o', e2, _, h5⟩ := HC.out y.val (by rw [← HN.out]; exact hy)
          rw [e1] at e2
          simp only [Option.some.injEq, Addr.mk.injEq] at e2
          obtain ⟨rfl, rfl, _⟩ := e2
          have hga := hnD ga (by rw [HN.out]; exact h3)
          have := closU_any (W := sortWorld encF ws g 0 m dk os) (bb := w.heap.size + 1) (cb := w.heap.size) (b := b) (nao := nao) (n := κ) (ncap := ncap) (x := x.val) (y := y.val) (a := gi L x.val) (c := gi L y.val) (hfs.cell' HB1.out (fun e => by have h : w.heap.size + 1 = g := e; omega)) (hfs.cell' HB0.out (fun e => by have h : w.heap.size = g := e; omega))
            (hfs.cell' (HF.out.cell' hc1 (fun h => h)) (fun e => by have h : b = g := e; omega)) hx hy ⟨ga, o, e1, hfs.cell' (HF.out.cell' h4 (fun h => h)) (fun e => by have h : ga = g := e; omega), hfs.cell' (HF.out.cell' h5 (fun h => h)) (fun e => by have h : ga = g := e; omega)⟩
          rw [hcf]
          exact this
        have hcon := Any.slices_SortFunc sortL encF (fun _ => rfl) cf hO 45 #[.pointer (some ⟨w.heap.size + 1, 0, none⟩), .pointer (some ⟨w.heap.size, 0, none⟩)] g 0 gcap d ws eg hcmp hH hg2 (by omega)
        change Calls Try.prog 44 _ _ _ at hcon
        rw [show (Value.slice (some ⟨g, 0, none⟩) d.size gcap) = .slice (some ⟨g, 0, none⟩) κ gcap from by rw [hds]] at hcon
        have HCon := Lib.hid hcon
        have HH := Lib.hid hH
        have HCf := Lib.hid hlt
        have HD := Lib.hid hd
        clear hcon hcmp hH hlt hO eg hcf hd hds
        go_wp2_with fail
        refine HCon.out.mono ?_
        rintro e w2 ⟨rfl, d', k2, os, hp, hs, hw⟩
        have hinj : ∀ a c, a < κ → c < κ → a ≠ c → ltU L a c = true ∨ ltU L c a = true := fun a c ha hc hne => by
          unfold ltU
          have : gi L a ≠ gi L c := fun e => by
            have h1 : L[a]'(by have := HN.out; omega) = L[c]'(by have := HN.out; omega) := by simpa [gi, List.getD, show a < L.length by have := HN.out; omega, show c < L.length by have := HN.out; omega] using e
            rcases Nat.lt_or_gt_of_ne hne with q | q
            · exact (List.pairwise_iff_getElem.1 HNd.out) a c _ _ q h1
            · exact (List.pairwise_iff_getElem.1 HNd.out) c a _ _ q h1.symm
          simp only [decide_eq_true_eq]
          omega
        obtain ⟨R, hfR, hR, hRow⟩ := sorted_row (w := w) h0 HCf.out HD.out hinj (fun a => by simp [ltU]) hp hs (ownsRow_base HO.out (by omega)) HH.out hw HF.out
        have HFR := Lib.hid hfR
        have HRR := Lib.hid hR
        have HRow := Lib.hid hRow
        clear hp hs hw hfR hR hRow hinj
        go_wp2
        go_ret
        exact ⟨_, R, rfl, HFR.out, HRR.out, HRow.out⟩
#print axioms rising_core
end Go.Proofs.Ytpegloapdkfgiaa
