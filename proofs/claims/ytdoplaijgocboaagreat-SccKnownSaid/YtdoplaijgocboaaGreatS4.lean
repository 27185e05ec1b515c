/- The library's sort, laid at the numbers of a seat of tag s1z (written by the kit's lay-plain). | scc: the components sorted. | scc: Parts: the components of a graph. | scc: Of: the number of each node's component. | scc: Joined: are the nodes named of one component? | scc: Within: the test that it makes; slices.IndexFunc with it. -/
import Derived.Shelf.SlSortCmp.NoneTotal
import Derived.Test.YtdoplaijgocboaaGreatProg
import Derived.Test.YtdoplaijgocboaaGreatS3
import Derived.Deep.QuietTactic
import Derived.BigQuiet
import Derived.RegionTactic
import Derived.Deep.OwnRows
import Derived.BigRegion
import Derived.Test.YtdoplaijgocboaaGreatS1

namespace Go.Proofs.YtdoplaijgocboaaGreat
open Go.Shelf
def sortL_ren : Go.Shelf.Ren := ⟨fun | 6 => 39 | 15 => 57 | 14 => 56 | 28 => 77 | 29 => 78 | 20 => 69 | 21 => 70 | 22 => 71 | 23 => 72 | 24 => 73 | 25 => 74 | 26 => 75 | 27 => 76 | 46 => 94 | 47 => 95 | 48 => 96 | 49 => 97 | 50 => 98 | 57 => 105 | n => n, fun | 22 => 31 | 24 => 23 | 25 => 75 | 3 => 3 | 39 => 105 | 0 => 0 | 53 => 127 | 55 => 129 | 4 => 4 | 46 => 121 | 45 => 120 | 50 => 107 | 5 => 5 | 9 => 9 | 66 => 141 | 70 => 145 | 76 => 149 | 77 => 150 | n => n, fun | n => n⟩
theorem sortL : Go.Proofs.SlLaysF.n6 Tryz.prog sortL_ren := {
  mixed := by kernel_rfl
  f6 := ⟨Tryz.f39.name, by decide, Tryz.func39.trans (congrArg some (by kernel_rfl))⟩
  f14 := ⟨Tryz.f56.name, by decide, Tryz.func56.trans (congrArg some (by kernel_rfl))⟩
  f15 := Tryz.func57.trans (congrArg some (by kernel_rfl))
  f20 := ⟨Tryz.f69.name, by decide, Tryz.func69.trans (congrArg some (by kernel_rfl))⟩
  f21 := ⟨Tryz.f70.name, by decide, Tryz.func70.trans (congrArg some (by kernel_rfl))⟩
  f22 := ⟨Tryz.f71.name, by decide, Tryz.func71.trans (congrArg some (by kernel_rfl))⟩
  f23 := ⟨Tryz.f72.name, by decide, Tryz.func72.trans (congrArg some (by kernel_rfl))⟩
  f24 := ⟨Tryz.f73.name, by decide, Tryz.func73.trans (congrArg some (by kernel_rfl))⟩
  f25 := ⟨Tryz.f74.name, by decide, Tryz.func74.trans (congrArg some (by kernel_rfl))⟩
  f26 := ⟨Tryz.f75.name, by decide, Tryz.func75.trans (congrArg some (by kernel_rfl))⟩
  f27 := ⟨Tryz.f76.name, by decide, Tryz.func76.trans (congrArg some (by kernel_rfl))⟩
  f28 := Tryz.func77.trans (congrArg some (by kernel_rfl))
  f29 := Tryz.func78.trans (congrArg some (by kernel_rfl))
  f46 := ⟨Tryz.f94.name, by decide, Tryz.func94.trans (congrArg some (by kernel_rfl))⟩
  f47 := Tryz.func95.trans (congrArg some (by kernel_rfl))
  f48 := Tryz.func96.trans (congrArg some (by kernel_rfl))
  f49 := ⟨Tryz.f97.name, by decide, Tryz.func97.trans (congrArg some (by kernel_rfl))⟩
  f50 := ⟨Tryz.f98.name, by decide, Tryz.func98.trans (congrArg some (by kernel_rfl))⟩
  f57 := ⟨Tryz.f105.name, by decide, Tryz.func105.trans (congrArg some (by kernel_rfl))⟩
  t0 := Tryz.underlying0
  a0 := Tryz.isAgg0
  z0 := Tryz.sizeOf0
  v0 := Tryz.zeroValue0
  t3 := Tryz.underlying3
  a3 := Tryz.isAgg3
  z3 := Tryz.sizeOf3
  v3 := Tryz.zeroValue3
  t4 := Tryz.underlying4
  a4 := Tryz.isAgg4
  z4 := Tryz.sizeOf4
  v4 := Tryz.zeroValue4
  t5 := Tryz.underlying5
  a5 := Tryz.isAgg5
  z5 := Tryz.sizeOf5
  v5 := Tryz.zeroValue5
  t9 := Tryz.underlying9
  a9 := Tryz.isAgg9
  z9 := Tryz.sizeOf9
  v9 := Tryz.zeroValue9
  t22 := Tryz.underlying31
  a22 := Tryz.isAgg31
  z22 := Tryz.sizeOf31
  v22 := Tryz.zeroValue31
  a24 := Tryz.isAgg23
  z24 := Tryz.sizeOf23
  t25 := Tryz.underlying75
  a25 := Tryz.isAgg75
  z25 := Tryz.sizeOf75
  v25 := Tryz.zeroValue75
  t39 := Tryz.underlying105
  a39 := Tryz.isAgg105
  z39 := Tryz.sizeOf105
  v39 := Tryz.zeroValue105
  t45 := Tryz.underlying120
  a45 := Tryz.isAgg120
  z45 := Tryz.sizeOf120
  v45 := Tryz.zeroValue120
  t46 := Tryz.underlying121
  a46 := Tryz.isAgg121
  z46 := Tryz.sizeOf121
  v46 := Tryz.zeroValue121
  t50 := Tryz.underlying107
  a50 := Tryz.isAgg107
  z50 := Tryz.sizeOf107
  v50 := Tryz.zeroValue107
  t53 := Tryz.underlying127
  a53 := Tryz.isAgg127
  z53 := Tryz.sizeOf127
  v53 := Tryz.zeroValue127
  t55 := Tryz.underlying129
  a55 := Tryz.isAgg129
  z55 := Tryz.sizeOf129
  v55 := Tryz.zeroValue129
  t66 := Tryz.underlying141
  a66 := Tryz.isAgg141
  z66 := Tryz.sizeOf141
  v66 := Tryz.zeroValue141
  t70 := Tryz.underlying145
  a70 := Tryz.isAgg145
  z70 := Tryz.sizeOf145
  v70 := Tryz.zeroValue145
  t76 := Tryz.underlying149
  a76 := Tryz.isAgg149
  z76 := Tryz.sizeOf149
  v76 := Tryz.zeroValue149
  t77 := Tryz.underlying150
  a77 := Tryz.isAgg150
  z77 := Tryz.sizeOf150
  v77 := Tryz.zeroValue150 }
#print axioms sortL
end Go.Proofs.YtdoplaijgocboaaGreat

namespace Go.Proofs.YtdoplaijgocboaaGreat
open Go.RowKit Go.Sort Go.Shelf Go.Lib
set_option linter.unusedVariables false

theorem closP_any {W : World} {a b la lb ca cb x y : Nat} (h1 : W.cell? ⟨a, 0, none⟩ = some (.int .i64 (x : Nat))) (h2 : W.cell? ⟨b, 0, none⟩ = some (.int .i64 (y : Nat))) (ha : 0 < la) (hb : 0 < lb) (hx : x ≤ 70000) (hy : y ≤ 70000) :
    Calls Tryz.prog 40 #[.slice (some ⟨a, 0, none⟩) la ca, .slice (some ⟨b, 0, none⟩) lb cb] W fun e w' => e = .returned (.int .i64 ((x : Int) - (y : Int))) ∧ ∃ q, w' = W.drewN q := by
  have a0 : (0 : Int) < (la : Int) := by omega
  have b0 : (0 : Int) < (lb : Int) := by omega
  go_enter Tryz.func40, Tryz.ntmps40
  go_wp2
  go_quiet (fail)
  go_wp2
  go_ret
  exact ⟨rfl, _, rfl⟩
theorem fx_sortWorld {α : Type} [Inhabited α] (enc : α → Value) (w : World) (blk off n : Nat) (dk : Array α) (os : Array Obj) : Fx (fun k => k = blk) w (sortWorld enc w blk off n dk os) := by
  unfold sortWorld grow putRow mapBlock Sort.ahead
  refine ⟨rfl, rfl, rfl, by simp, fun k hk hn => ?_⟩
  simp only
  rw [Array.getElem?_append_left (by simpa using hk), Array.getElem?_modify, if_neg (fun e => hn e.symm)]
/-- components as a value -/
def PtsV (base : Nat) (w : World) (v : Value) (P : List (List Nat)) : Prop := ∃ B C : Nat → Nat, SlV w (fun j => base ≤ j) v 1 P.length (partVals B C P) ∧ ∀ i, i < P.length → base ≤ B i ∧ B i < w.heap.size ∧ CellsI w (B i) 0 (natsI (P.getD i [])) ∧ (P.getD i []).length ≤ C i ∧ C i ≤ maxLen
section
variable {w0 w w' : World} {k : SP} {col : Nat → Nat} {N : Nat} {L : List Ed} {D S : Nat → Prop} {num low : Nat → Nat} {seen : Nat} {opn : Nat → Bool} {st : List Nat} {stv : Value} {P : List (List Nat)} {B C : Nat → Nat} {pv : Value}
theorem sortP_any (h : SrV w0 w k col N L D num low seen opn st stv P B C pv) (hp : ∀ p ∈ P, p ≠ [] ∧ ∀ v ∈ p, v < N) (hl : P.length ≤ 70000) :
    Calls Tryz.prog 39 #[pv, .func (.func 40) #[] #[]] w fun e w' => e = .returned (.tuple #[]) ∧ Fx (fun x => pv.ownBlock = some x) w w' ∧ ∃ P' : List (List Nat), P'.Perm P ∧ P'.Pairwise (fun p q => p.headD 0 ≤ q.headD 0) ∧ PtsV w0.heap.size w' pv P' := by
  have hNN := h.g.nn
  rcases Nat.eq_zero_or_pos P.length with h0 | h0
  · obtain rfl : P = [] := List.eq_nil_of_length_eq_zero h0
    obtain ⟨ao, cap, rfl, _⟩ := SlV.ofOwns h.ps
    have hcon := AnyF.slices_SortFunc_none (P := Tryz.prog) (ρ := sortL_ren) { sortL with } ao cap (.func (.func 40) #[] #[]) w
    refine Calls.mono hcon ?_
    rintro e w2 ⟨rfl, rfl⟩
    exact ⟨rfl, Fx.refl _ _, [], List.Perm.refl _, List.Pairwise.nil, B, C, (SlV.ofOwns h.ps).mono fun x hx => hx.1, fun i hi => by simp at hi⟩
  · obtain ⟨n, hn⟩ : ∃ n, n = P.length := ⟨_, rfl⟩
    obtain ⟨g, gcap, rfl, hg1, hg2⟩ := ownsRow_pos h.ps h0
    have inh : Inhabited (Fin n) := ⟨⟨0, by omega⟩⟩
    obtain ⟨enc, henc⟩ : ∃ enc : Fin n → Value, enc = fun i => .slice (some ⟨B i.val, 0, none⟩) (P.getD i.val []).length (C i.val) := ⟨_, rfl⟩
    obtain ⟨d, hd⟩ : ∃ d : Array (Fin n), d = Array.ofFn id := ⟨_, rfl⟩
    have hds : d.size = n := by rw [hd]; simp
    have hpc : ∀ j, (hj : j < n) → (partVals B C P)[j]? = some (enc ⟨j, hj⟩) := fun j hj => by rw [henc]; simp [partVals, show j < P.length by omega]
    have hH : Holds enc w g 0 d := fun j hj => by
      have hjk : j < n := by omega
      have h1 := h.ps.cells (g := g) rfl j _ (hpc j hjk)
      rw [Addr.add_lit] at h1
      refine ⟨?_, World.ownsRow.frozenAt h.ps _⟩
      rw [h1]
      simp [hd, hjk, getElem!_pos]
    obtain ⟨hv, hhv⟩ : ∃ hv : Nat → Nat, hv = fun i => (P.getD i []).headD 0 := ⟨_, rfl⟩
    have hcell : ∀ i, i < n → w.cell? ⟨B i, 0, none⟩ = some (.int .i64 (hv i : Nat)) ∧ 0 < (P.getD i []).length ∧ hv i ≤ 70000 ∧ B i ≠ g := fun i hi => by
      have hi' : i < P.length := by omega
      have hm : P.getD i [] ∈ P := by simp [List.getD, hi', List.getElem_mem]
      obtain ⟨q1, q2⟩ := hp _ hm
      have q3 := h.pe i hi'
      have q4 := h.kb i hi'
      have q5 := h.kp g rfl
      have e : hv i = (P.getD i []).headD 0 := by rw [hhv]
      refine ⟨?_, List.length_pos_iff.2 q1, ?_, fun e => by rw [e] at q4; omega⟩
      · have := (q3 0 (by rw [natsI_len]; exact List.length_pos_iff.2 q1)).1
        rw [e]
        revert this
        generalize P.getD i [] = p at q1 ⊢
        cases p with
        | nil => exact absurd rfl q1
        | cons a l => intro this; simpa [natsI, gi] using this
      · rw [e]
        have : (P.getD i []).headD 0 ∈ P.getD i [] := by
          generalize P.getD i [] = p at q1 ⊢
          cases p with
          | nil => exact absurd rfl q1
          | cons a l => simp
        have := q2 _ this
        omega
    obtain ⟨cf, hcf⟩ : ∃ cf : Fin n → Fin n → Int, cf = fun i j => (hv i.val : Int) - (hv j.val : Int) := ⟨_, rfl⟩
    have hlt : ∀ i j : Fin n, ltOf cf i j = decide (hv i.val < hv j.val) := fun i j => by rw [hcf]; unfold ltOf; exact decide_eq_decide.2 (by show (hv i.val : Int) - (hv j.val : Int) < 0 ↔ _; omega)
    have hO : SWO (ltOf cf) := ⟨fun x => by rw [hlt]; simp, fun x y z h1 h2 => by rw [hlt] at *; simp at *; omega, fun x y z h1 h2 => by rw [hlt] at *; simp at *; omega⟩
    have eg : ∀ args w, (callFunc 40 args).run Tryz.prog w = .ok (.enter 40 args) w := enters_of Tryz.func40 (by kernel_rfl) rfl
    have hcmp : CmpLays1 Tryz.prog 40 #[] enc cf g 0 d.size w := CmpReads.lays fun m os dk hs x y => by
      have hfs : Fx (fun k => k = g) w (sortWorld enc w g 0 m dk os) := fx_sortWorld _ _ _ _ _ _ _
      obtain ⟨x1, x2, x3, x4⟩ := hcell x.val x.isLt
      obtain ⟨y1, y2, y3, y4⟩ := hcell y.val y.isLt
      have := closP_any (W := sortWorld enc w g 0 m dk os) (ca := C x.val) (cb := C y.val) (hfs.cell' x1 x4) (hfs.cell' y1 y4) x2 y2 x3 y3
      rw [hcf, henc]
      rw [henc] at this
      exact this
    have hcon := Any.slices_SortFunc sortL enc (fun i => by rw [henc]; rfl) cf hO 40 #[] g 0 gcap d w eg hcmp hH hg2 (by omega)
    rw [show (Value.slice (some ⟨g, 0, none⟩) d.size gcap) = .slice (some ⟨g, 0, none⟩) P.length gcap from by rw [hds, hn]] at hcon
    refine Calls.mono hcon ?_
    rintro e w2 ⟨rfl, d', k2, os, hpm, hs, rfl⟩
    have hds' : d'.size = n := by rw [hpm.1, hds]
    have hH' : Holds enc (sortWorld enc w g 0 k2 d' os) g 0 d' := holds_sortWorld enc w g 0 k2 d d' os hg2 hH (by rw [hds', hds])
    have hfs : Fx (fun k => k = g) w (sortWorld enc w g 0 k2 d' os) := fx_sortWorld _ _ _ _ _ _ _
    obtain ⟨R, hR⟩ : ∃ R : List Nat, R = d'.toList.map Fin.val := ⟨_, rfl⟩
    have hRl : R.length = n := by rw [hR]; simp [hds']
    have hRlt : ∀ i ∈ R, i < n := fun i hi => by
      rw [hR] at hi
      obtain ⟨a, _, rfl⟩ := List.mem_map.1 hi
      exact a.isLt
    have hRp : R.Perm (List.range n) := by
      have h1 := hpm.2.2
      rw [hds] at h1
      have e1 : (d'.extract 0 n) = d' := by
        have := Array.extract_size (xs := d')
        rwa [hds'] at this
      have e2 : (d.extract 0 n) = d := by
        have := Array.extract_size (xs := d)
        rwa [hds] at this
      rw [e1, e2] at h1
      have h2 := h1.map Fin.val
      rw [hR]
      refine h2.trans ?_
      have : d.toList.map Fin.val = List.range n := by
        rw [hd]
        apply List.ext_getElem (by simp)
        intro i h3 h4
        simp
      rw [this]
    refine ⟨rfl, hfs.mono fun x _ e => by have e : x = g := e; rw [e]; rfl, R.map fun i => P.getD i [], ?_, ?_, fun i => B (R.getD i 0), fun i => C (R.getD i 0), ?_, fun i hi => ?_⟩
    · have := hRp.map fun i => P.getD i []
      refine this.trans ?_
      have e : (List.range n).map (fun i => P.getD i []) = P := by
        apply List.ext_getElem (by simp [hn])
        intro i h3 h4
        simp [List.getD, h4]
      rw [e]
    · rw [List.pairwise_map]
      rw [List.pairwise_iff_getElem]
      intro i j hi hj hij
      have hj' : j < n := by omega
      have := hs i j (Nat.zero_le _) hij (by rw [hds]; exact hj')
      rw [hlt] at this
      have e1 : R[i] = (d'[i]!).val := by simp [hR, getElem!_pos d' i (by omega)]
      have e2 : R[j] = (d'[j]!).val := by simp [hR, getElem!_pos d' j (by omega)]
      rw [e1, e2]
      rw [hhv] at this
      simpa using this
    · obtain ⟨ao, cp, e, h2, h3, _, _, _⟩ := SlV.ofOwns h.ps
      simp only [Value.slice.injEq] at e
      obtain ⟨_, _, rfl⟩ := e
      rw [List.length_map, hRl]
      refine ⟨_, gcap, by rw [hn], by omega, h3, by simp [partVals, hRl], by simp, .inr ⟨g, 0, rfl, hg1, fun p hpl => ?_⟩⟩
      have hpn : p < n := by simpa [partVals, hRl] using hpl
      have h5 := (hH' p (by omega)).1
      rw [h5]
      have e1 : R.getD p 0 = (d'[p]!).val := by simp [hR, List.getD, getElem!_pos d' p (by omega), show p < d'.size by omega]
      have e2 : (R.map fun i => P.getD i []).getD p [] = P.getD (R.getD p 0) [] := by simp [List.getD, show p < R.length by omega]
      have e3 : ∀ (f : Nat → Value) (v0 : Value), ((List.range n).map f).getD p v0 = f p := fun f v0 => by simp [List.getD, hpn]
      simp only [partVals, List.length_map, hRl]
      rw [e3]
      simp only [e2, e1, henc]
    · have hin : i < n := by simpa [hRl] using hi
      have hri : R.getD i 0 < n := by
        have : R.getD i 0 = R[i]'(by omega) := by simp [List.getD, show i < R.length by omega]
        rw [this]
        exact hRlt _ (List.getElem_mem _)
      have e2 : (R.map fun i => P.getD i []).getD i [] = P.getD (R.getD i 0) [] := by simp [List.getD, show i < R.length by omega]
      have hri' : R.getD i 0 < P.length := by omega
      have q4 := h.kb _ hri'
      have q6 := h.new (B (R.getD i 0)) (by omega)
      have z := hfs.size
      rw [e2]
      exact ⟨q6.1, Nat.lt_of_lt_of_le q6.2 z, fun j hj => hfs.cellF (h.pe _ hri' j hj).1 (h.pe _ hri' j hj).2 (hcell _ hri).2.2.2, h.pcap _ hri'⟩
end
#print axioms sortP_any
end Go.Proofs.YtdoplaijgocboaaGreat

namespace Go.Proofs.YtdoplaijgocboaaGreat
open Go.RowKit Go.Sort Go.Shelf Go.Lib
set_option linter.unusedVariables false

theorem SrV.start {w0 w : World} {k : SP} {N : Nat} {L : List Ed} {D : Nat → Prop} (hg : GraphV w0 D k.gb N L) (hf : Fx No w0 w)
    (hb : ∀ x, (x = k.sb ∨ x = k.nb ∨ x = k.lb ∨ x = k.ob ∨ x = k.pb) → w0.heap.size ≤ x ∧ x < w.heap.size)
    (hd : k.sb ≠ k.nb ∧ k.sb ≠ k.lb ∧ k.sb ≠ k.ob ∧ k.sb ≠ k.pb ∧ k.nb ≠ k.lb ∧ k.nb ≠ k.ob ∧ k.nb ≠ k.pb ∧ k.lb ≠ k.ob ∧ k.lb ≠ k.pb ∧ k.ob ≠ k.pb)
    (c0 : w.cell? ⟨k.sb, 0, none⟩ = some (.pointer (some ⟨k.gb, 0, none⟩))) (c1 : w.cell? ⟨k.sb, 1, none⟩ = some (.int .i64 0) ∧ w.frozen? ⟨k.sb, 1, none⟩ = false)
    (c2 : w.cell? ⟨k.sb, 2, none⟩ = some (.slice (some ⟨k.nb, 0, none⟩) N N)) (c3 : w.cell? ⟨k.sb, 3, none⟩ = some (.slice (some ⟨k.lb, 0, none⟩) N N))
    (c4 : w.cell? ⟨k.sb, 4, none⟩ = some (.slice none 0 0) ∧ w.frozen? ⟨k.sb, 4, none⟩ = false) (c5 : w.cell? ⟨k.sb, 5, none⟩ = some (.slice (some ⟨k.ob, 0, none⟩) N N))
    (c6 : w.cell? ⟨k.sb, 6, none⟩ = some (.func (.func 37) #[.pointer (some ⟨k.pb, 0, none⟩)] #[]))
    (hn : NumB w k.nb N fun _ => 0) (hl : NumB w k.lb N fun _ => 0) (ho : TruB w k.ob N fun _ => false) (pc : w.cell? ⟨k.pb, 0, none⟩ = some (.slice none 0 0) ∧ w.frozen? ⟨k.pb, 0, none⟩ = false) :
    ∃ col, SrV w0 w k col N L D (fun _ => 0) (fun _ => 0) 0 (fun _ => false) [] (.slice none 0 0) [] (fun _ => 0) (fun _ => 0) (.slice none 0 0) := by
  obtain ⟨d1, d2, d3, d4, d5, d6, d7, d8, d9, d10⟩ := hd
  refine ⟨fun x => if x = k.sb then 1 else if x = k.nb then 2 else if x = k.lb then 3 else if x = k.ob then 4 else if x = k.pb then 6 else 0, hf, hg.no hf, fun x hx => ?_, fun x hx => ?_, by simp, by simp [d1.symm], by simp [d2.symm, d5.symm], by simp [d3.symm, d6.symm, d8.symm], by simp [d4.symm, d7.symm, d9.symm, d10.symm], fun g e => by simp [Value.ownBlock] at e, fun g e => by simp [Value.ownBlock] at e, fun i hi => by simp at hi, fun i j hi => by simp at hi, c0, c1, c2, c3, c4, c5, c6, hn, hl, ho, World.ownsRow_nil _ _ _ _, pc, World.ownsRow_nil _ _ _ _, fun i hi => by simp at hi, fun i hi => by simp at hi⟩
  · have hx' := hg.lt x hx
    have q : ¬ (x = k.sb ∨ x = k.nb ∨ x = k.lb ∨ x = k.ob ∨ x = k.pb) := fun q => by have := (hb x q).1; omega
    simp only [not_or] at q
    simp [q]
  · apply hb
    apply Classical.byContradiction
    intro q
    simp only [not_or] at q
    simp [q] at hx
section
variable {X : World} {z : Value} {n : Nat} {t : TypeId} {b : Nat} {o o' : Obj}
theorem made1 (hb : b = X.heap.size) : ∀ i, i < n → (X.alloc (.cells (madeCells #[z] n) t)).cell? ⟨b, i, none⟩ = some z ∧ (X.alloc (.cells (madeCells #[z] n) t)).frozen? ⟨b, i, none⟩ = false := fun i hi =>
  new_cells hb (by simp [madeCells, hi, Nat.mod_one])
theorem made2 (hb : b = X.heap.size) : ∀ i, i < n → ((X.alloc (.cells (madeCells #[z] n) t)).alloc o).cell? ⟨b, i, none⟩ = some z ∧ ((X.alloc (.cells (madeCells #[z] n) t)).alloc o).frozen? ⟨b, i, none⟩ = false := fun i hi =>
  ((Fx.refl No _).alloc _).cellF (made1 hb i hi).1 (made1 hb i hi).2 (fun q => q)
theorem made3 (hb : b = X.heap.size) : ∀ i, i < n → (((X.alloc (.cells (madeCells #[z] n) t)).alloc o).alloc o').cell? ⟨b, i, none⟩ = some z ∧ (((X.alloc (.cells (madeCells #[z] n) t)).alloc o).alloc o').frozen? ⟨b, i, none⟩ = false := fun i hi =>
  (((Fx.refl No _).alloc _).alloc _).cellF (made1 hb i hi).1 (made1 hb i hi).2 (fun q => q)
end
theorem start_of {w W3 : World} {N gb a b c s p : Nat} {L : List Ed} {D : Nat → Prop} (hg : GraphV w D gb N L) (hf : Fx No w W3) (hs : s = W3.heap.size) (hp : p = w.heap.size) (hz : W3.heap.size = w.heap.size + 4)
    (hd : a ≠ b ∧ a ≠ c ∧ b ≠ c) (ha : w.heap.size < a ∧ a < w.heap.size + 4) (hb : w.heap.size < b ∧ b < w.heap.size + 4) (hc : w.heap.size < c ∧ c < w.heap.size + 4)
    (hn : NumB W3 a N fun _ => 0) (hl : NumB W3 b N fun _ => 0) (ho : TruB W3 c N fun _ => false) (pc : W3.cell? ⟨p, 0, none⟩ = some (.slice none 0 0) ∧ W3.frozen? ⟨p, 0, none⟩ = false) :
    ∃ col, SrV w (W3.alloc (.cells #[.pointer (some ⟨gb, 0, none⟩), .int .i64 0, .slice (some ⟨a, 0, none⟩) N N, .slice (some ⟨b, 0, none⟩) N N, .slice none 0 0, .slice (some ⟨c, 0, none⟩) N N, .func (.func 37) #[.pointer (some ⟨p, 0, none⟩)] #[]] 72)).drew ⟨gb, s, a, b, c, p⟩ col N L D (fun _ => 0) (fun _ => 0) 0 (fun _ => false) [] (.slice none 0 0) [] (fun _ => 0) (fun _ => 0) (.slice none 0 0) := by
  obtain ⟨W, hW⟩ : ∃ W, W = W3.alloc (.cells #[.pointer (some ⟨gb, 0, none⟩), .int .i64 0, .slice (some ⟨a, 0, none⟩) N N, .slice (some ⟨b, 0, none⟩) N N, .slice none 0 0, .slice (some ⟨c, 0, none⟩) N N, .func (.func 37) #[.pointer (some ⟨p, 0, none⟩)] #[]] 72) := ⟨_, rfl⟩
  have hq : Fx No W3 W := by rw [hW]; exact (Fx.refl No _).alloc _
  have hk : ∀ i v, #[.pointer (some ⟨gb, 0, none⟩), .int .i64 0, .slice (some ⟨a, 0, none⟩) N N, .slice (some ⟨b, 0, none⟩) N N, .slice none 0 0, .slice (some ⟨c, 0, none⟩) N N, .func (.func 37) #[.pointer (some ⟨p, 0, none⟩)] #[]][i]? = some v → W.drew.cell? ⟨s, i, none⟩ = some v ∧ W.drew.frozen? ⟨s, i, none⟩ = false := fun i v e => by
    have := new_cells (W := W3) (t := 72) hs e
    rw [← hW] at this
    exact ((Fx.refl No W).drew).cellF this.1 this.2 (fun q => q)
  have hq2 := hq.trans (Fx.refl No W).drew
  have zz : W.drew.heap.size = w.heap.size + 5 := by rw [hW]; show (W3.alloc _).heap.size = _; rw [World.size_alloc, hz]
  rw [← hW]
  refine SrV.start hg (hf.trans hq2) (fun x hx => ?_) ⟨?_, ?_, ?_, ?_, ?_, ?_, ?_, ?_, ?_, ?_⟩ (hk 0 _ rfl).1 (hk 1 _ rfl) (hk 2 _ rfl).1 (hk 3 _ rfl).1 (hk 4 _ rfl) (hk 5 _ rfl).1 (hk 6 _ rfl).1 (hn.keep hq2 (fun q => q)) (hl.keep hq2 (fun q => q)) (ho.keep hq2 (fun q => q)) (hq2.cellF pc.1 pc.2 (fun q => q))
  · rcases hx with e | e | e | e | e <;> (have e : x = _ := e; simp only at e; omega)
  all_goals (simp only; omega)
section
variable {w : World} {N gb : Nat} {L : List Ed} {D : Nat → Prop}
set_option maxRecDepth 100000 in
set_option maxHeartbeats 8000000 in
theorem parts_any (hg : GraphV w D gb N L) :
    Calls Tryz.prog 15 #[.pointer (some ⟨gb, 0, none⟩)] w fun e w' => ∃ (pv : Value) (P : List (List Nat)), e = .returned pv ∧ Fx No w w' ∧ PtsV w.heap.size w' pv P ∧ PtOk (EG L) P ∧ (∀ v, v < N ↔ clP P v) ∧ P.Pairwise (fun p q => p.headD 0 ≤ q.headD 0) := by
  have hNN := hg.nn
  have hm1 := run_make_row' (P := Tryz.prog) 23 3 (.int .i64 0) 8 Tryz.underlying23 (by kernel_rfl) rfl .i64 .i64 N (by omega) (by omega)
  have hm2 := run_make_row' (P := Tryz.prog) 63 4 (.bool false) 1 Tryz.underlying63 (by kernel_rfl) rfl .i64 .i64 N (by omega) (by omega)
  have HG := Lib.hid hg
  clear hg
  go_enter Tryz.func15, Tryz.ntmps15
  go_wp2_with (go_at_call 22; refine (gLen_any HG.out).mono ?_; rintro e w1 ⟨rfl, rfl⟩)
  go_cut [5] (fun s5 W => ∃ k : SP, k.gb = gb ∧ k.pb = w.heap.size ∧ s5 = .pointer (some ⟨k.sb, 0, none⟩) ∧ ∃ col, SrV w W k col N L D (fun _ => 0) (fun _ => 0) 0 (fun _ => false) [] (.slice none 0 0) [] (fun _ => 0) (fun _ => 0) (.slice none 0 0))
  case first =>
    go_region
    all_goals
      go_wp2
      go_meet
      refine ⟨⟨gb, _, _, _, _, _⟩, rfl, rfl, rfl, start_of HG.out ?_ (by simp) ?_ ?_ ?_ ?_ ?_ ?_ ?_ ?_ ?_ ?_⟩
      · exact ((((Fx.refl No w).alloc _).alloc _).alloc _).alloc _
      · rfl
      · simp
      · omega
      · omega
      · omega
      · omega
      · first | (refine made1 ?_; simp; done) | (refine made2 ?_; simp; done) | (refine made3 ?_; simp; done)
      · first | (refine made1 ?_; simp; done) | (refine made2 ?_; simp; done) | (refine made3 ?_; simp; done)
      · first | (refine made1 ?_; simp; done) | (refine made2 ?_; simp; done) | (refine made3 ?_; simp; done)
      · have := new_cells (W := w) (cs := #[.slice none 0 0]) (t := 68) (b := w.heap.size) (i := 0) (v := .slice none 0 0) rfl rfl
        exact ((((Fx.refl No _).alloc _).alloc _).alloc _).cellF this.1 this.2 (fun q => q)
  case rest =>
    obtain ⟨k, rfl, hkp, rfl, col, hS⟩ := hcut
    rw [← hkp]
    have HS := Lib.hid hS
    clear hS hkp hm1 hm2
    go_wp2
    go_loopg [22] N (fun g sv wx => ∃ (i : Nat) (col num low : Nat → Nat) (seen : Nat) (opn : Nat → Bool) (stv : Value) (P : List (List Nat)) (B C : Nat → Nat) (pv : Value), i + g = N ∧ sv = .int .i64 (i : Nat) ∧ SrV w wx k col N L D num low seen opn [] stv P B C pv ∧ Tj (EG L) N num low seen (clP P) [] ∧ (∀ v, v < N → opn v = false) ∧ PtOk (EG L) P ∧ seen + unseen N num ≤ N ∧ ∀ j, j < i → num j ≠ 0)
    case atStart => exact ⟨0, col, _, _, _, _, _, _, _, _, _, by omega, rfl, HS.out, Tj.start.congrCl fun v => by simp [clP], fun _ _ => rfl, ⟨fun p h => (by cases h), List.Pairwise.nil⟩, by rw [Nat.zero_add]; unfold unseen; exact Nat.le_trans List.countP_le_length (by simp), fun j hj => by omega⟩
    case round =>
      obtain ⟨i, col2, num2, low2, seen2, opn2, stv2, P2, B2, C2, pv2, hi, rfl, hS2, hT, hO, hP, hC, hI⟩ := hrel
      have HS2 := Lib.hid hS2
      have HT := Lib.hid hT
      have HO := Lib.hid hO
      have HP := Lib.hid hP
      have HC := Lib.hid hC
      have HI := Lib.hid hI
      have c2 := hS2.c2
      have c6 := hS2.pc.1
      by_cases hlt : i < N
      · have i1 : (0 : Int) ≤ (i : Int) := by omega
        have i2 : (i : Int) < (N : Int) := by omega
        have n2 := (hS2.num i hlt).1
        clear hS2 hT hO hP hC hI c6
        by_cases h0 : num2 i = 0
        · rw [h0] at n2
          go_wp2_with (go_at_call 38; refine (from_any HS2.out HT.out HO.out HP.out HC.out hlt h0).mono ?_; rintro e w2 ⟨rfl, col3, num3, low3, seen3, opn3, stv3, P3, B3, C3, pv3, h1, h2, h3, h4, h5, h6, h7⟩)
          have H := Lib.hid (And.intro h1 (And.intro h2 (And.intro h3 (And.intro h4 (And.intro h5 (And.intro h6 h7))))))
          clear h1 h2 h3 h4 h5 h6 h7
          go_wp2
          go_roundg (N - (i + 1))
          case measure => omega
          case rel =>
            obtain ⟨h1, h2, h3, h4, h5, h6, h7⟩ := H.out
            exact ⟨i + 1, col3, num3, low3, seen3, opn3, stv3, P3, B3, C3, pv3, by omega, by go_num, h1, h2, h3, h4, h5, fun j hj => by
              by_cases e : j = i
              · rw [e]; exact h7
              · exact h6 j (HI.out j (by omega))⟩
        · obtain ⟨nv, hnv⟩ : ∃ y, y = num2 i := ⟨_, rfl⟩
          rw [← hnv] at n2
          have hv1 : ¬ nv = 0 := by omega
          have hv2 : ¬ ((nv : Int) = 0) := by omega
          have H0 := Lib.hid h0
          clear hnv h0
          go_wp2
          go_roundg (N - (i + 1))
          case measure => omega
          case rel => exact ⟨i + 1, col2, num2, low2, seen2, opn2, stv2, P2, B2, C2, pv2, by omega, by go_num, HS2.out, HT.out, HO.out, HP.out, HC.out, fun j hj => by
              by_cases e : j = i
              · rw [e]; exact H0.out
              · exact HI.out j (by omega)⟩
      · obtain rfl : i = N := by omega
        clear hS2 hT hO hP hC hI c2
        have hlen := ptLen HP.out HT.out.clN
        go_wp2_with (go_at_call 39; refine (sortP_any HS2.out (fun p hp => ⟨(HP.out.ok p hp).1, fun v hv => HT.out.clN v ⟨p, hp, hv⟩⟩) (by omega)).mono ?_; rintro e w2 ⟨rfl, hf2, P', hp1, hp2, hV⟩; have c6 := hf2.cell' c6 (fun e => by have := HS2.out.kp k.pb e; have := HS2.out.k6; omega))
        have HF : Hid (Fx No w w2) := Lib.hid (HS2.out.fx.trans' hf2 fun j e hl => by have q := HS2.out.kp j e; have := HS2.out.new j (by omega); omega)
        have HV := Lib.hid (And.intro hp1 (And.intro hp2 hV))
        clear hf2 hp1 hp2 hV
        go_wp2
        go_ret
        obtain ⟨hp1, hp2, hV⟩ := HV.out
        refine ⟨pv2, P', rfl, HF.out, hV, ⟨fun p hp => HP.out.ok p (hp1.mem_iff.1 hp), (hp1.pairwise_iff fun {a b} q u hu hub => q u hub hu).2 HP.out.dj⟩, fun v => ⟨fun hv => ?_, fun hv => ?_⟩, hp2⟩
        · rcases (HT.out.vis v hv).1 (HI.out v hv) with ⟨p, hp, hm⟩ | q
          · exact ⟨p, hp1.mem_iff.2 hp, hm⟩
          · simp [stk] at q
        · obtain ⟨p, hp, hm⟩ := hv
          exact HT.out.clN v ⟨p, hp1.mem_iff.1 hp, hm⟩
end
#print axioms parts_any
end Go.Proofs.YtdoplaijgocboaaGreat

namespace Go.Proofs.YtdoplaijgocboaaGreat
open Go.RowKit Go.Sort Go.Shelf Go.Lib
set_option linter.unusedVariables false

theorem parts_canon {L : List Ed} {N : Nat} {sm : Nat → Nat → Bool} {P : List (List Nat)} (h : Eqv sm N) (hsm : ∀ i j, i < N → j < N → (sm i j = true ↔ Sm (EG L) i j)) (hp : PtOk (EG L) P) (hc : ∀ v, v < N ↔ clP P v) (hs : P.Pairwise fun p q => p.headD 0 ≤ q.headD 0) : P = canon sm N := by
  have hhead : ∀ p ∈ P, p.headD 0 ∈ p := fun p hm => by
    have := (hp.ok p hm).1
    cases p with
    | nil => exact absurd rfl this
    | cons a l => simp
  refine canon_uniq h (fun p hm => ⟨(hp.ok p hm).1, (hp.ok p hm).2.1, fun u hu => ?_⟩) (fun v hv => (hc v).1 hv) ?_
  · have hu' := (hc u).2 ⟨p, hm, hu⟩
    refine ⟨hu', fun v => ?_⟩
    have q := (hp.ok p hm).2.2 u hu v
    constructor
    · intro hv
      have hv' := (hc v).2 ⟨p, hm, hv⟩
      exact ⟨hv', (hsm u v hu' hv').2 (q.1 hv)⟩
    · rintro ⟨hv', hv⟩
      exact q.2 ((hsm u v hu' hv').1 hv)
  · refine List.Pairwise.imp_of_mem (fun {a b} ha hb q => ?_) (hs.and hp.dj)
    rcases Nat.lt_or_ge (a.headD 0) (b.headD 0) with e | e
    · exact e
    · exact absurd (hhead b hb) (by rw [show b.headD 0 = a.headD 0 by omega]; exact q.2 _ (hhead a ha))
theorem PtsV.facts {base : Nat} {w : World} {v : Value} {P : List (List Nat)} (h : PtsV base w v P) : ∃ ao cap, v = .slice ao P.length cap ∧ ∀ i, i < P.length → ∃ g o b c, ao = some ⟨g, o, none⟩ ∧ base ≤ g ∧ w.cell? ⟨g, o + i, none⟩ = some (.slice (some ⟨b, 0, none⟩) (P.getD i []).length c) ∧ base ≤ b ∧ (P.getD i []).length ≤ c ∧ c ≤ maxLen ∧ CellsI w b 0 (natsI (P.getD i [])) := by
  obtain ⟨B, C, ⟨ao, cap, rfl, h2, h3, h4, h5, h6⟩, hB⟩ := h
  refine ⟨ao, cap, rfl, fun i hi => ?_⟩
  obtain ⟨g, o, e, h8, h9⟩ := h6.addr (by rw [partVals_len]; omega)
  obtain ⟨b1, b2, b3, b4, b5⟩ := hB i hi
  have := h9 i (by rw [partVals_len]; exact hi)
  refine ⟨g, o, B i, C i, e, h8, ?_, b1, b4, b5, b3⟩
  rw [this]
  simp [partVals, List.getD, hi]
section
variable {w : World} {N gb : Nat} {L : List Ed} {D : Nat → Prop} {sm : Nat → Nat → Bool}
set_option maxRecDepth 100000 in
set_option maxHeartbeats 8000000 in
theorem sof_any (hg : GraphV w D gb N L) (h : Eqv sm N) (hsm : ∀ i j, i < N → j < N → (sm i j = true ↔ Sm (EG L) i j)) :
    Calls Tryz.prog 16 #[.pointer (some ⟨gb, 0, none⟩)] w fun e w' => ∃ g, e = .returned (.slice (some ⟨g, 0, none⟩) N N) ∧ Fx No w w' ∧ w.heap.size ≤ g ∧ g < w'.heap.size ∧ NumB w' g N (cno sm) := by
  have hNN := hg.nn
  have HG := Lib.hid hg
  have HE := Lib.hid h
  have HSm := Lib.hid hsm
  clear hg h hsm
  obtain ⟨w1, hw1⟩ : ∃ W, W = w.alloc (.cells (madeCells #[.int .i64 0] N) 3) := ⟨_, rfl⟩
  have hf1 : Fx No w w1 := by rw [hw1]; exact (Fx.refl No w).alloc _
  have hz1 : w1.heap.size = w.heap.size + 1 := by rw [hw1, World.size_alloc]
  have hn1 : NumB w1 w.heap.size N fun _ => 0 := by rw [hw1]; exact made1 rfl
  have HF1 := Lib.hid hf1
  have HN1 := Lib.hid hn1
  have HZ1 := Lib.hid hz1
  have HW1 := Lib.hid hw1
  clear hf1 hz1 hn1
  have hm1 := run_make_row' (P := Tryz.prog) 23 3 (.int .i64 0) 8 Tryz.underlying23 (by kernel_rfl) rfl .i64 .i64 N (by omega) (by omega)
  clear hw1
  go_enter Tryz.func16, Tryz.ntmps16
  go_wp2_with (first
    | (go_at_call 22; refine (gLen_any HG.out).mono ?_; rintro e w2 ⟨rfl, rfl⟩)
    | (rw [← HW1.out]; go_at_call 15; refine (parts_any (HG.out.no HF1.out)).mono ?_; rintro e w2 ⟨pv, P, rfl, hf2, hV, hP, hC, hS⟩; obtain ⟨ao, cap, rfl, hA⟩ := hV.facts; obtain rfl := parts_canon HE.out HSm.out hP hC hS; have HA := Lib.hid hA; have HF2 := Lib.hid hf2; clear hV hP hC hS hA hf2))
  obtain ⟨n, hn⟩ : ∃ n, n = (canon sm N).length := ⟨_, rfl⟩
  obtain ⟨g, hgs⟩ : ∃ g, g = w.heap.size := ⟨_, rfl⟩
  rw [← hn, ← hgs]
  have HN := Lib.hid hn
  have HGs := Lib.hid hgs
  have hn7 : n ≤ 70000 := by
    have := reps_len (sm := sm) N
    rw [hn]; simp only [canon, List.length_map]; omega
  clear hn hgs hm1
  go_loopg [16] n (fun gk sv ws => ∃ (i : Nat) (f : Nat → Nat), i + gk = n ∧ sv = .int .i64 (i : Nat) ∧ Fx (fun x => x = g) w2 ws ∧ NumB ws g N f ∧ ∀ v, v < N → cno sm v < i → f v = cno sm v)
  case atStart => exact ⟨0, fun _ => 0, by omega, rfl, Fx.refl _ _, by rw [HGs.out]; exact HN1.out.keep HF2.out (fun q => q), fun v _ h => by omega⟩
  case round =>
    obtain ⟨i, f, hi, rfl, hf3, hnb, hfv⟩ := hrel
    by_cases hlt : i < n
    · obtain ⟨pg, po, pb, pc, rfl, hb1, hcl, hb2, hl, hmx, hci⟩ := HA.out i (by rw [← HN.out]; exact hlt)
      obtain ⟨p, hp⟩ : ∃ p, p = (canon sm N).getD i [] := ⟨_, rfl⟩
      obtain ⟨m, hm⟩ : ∃ m, m = p.length := ⟨_, rfl⟩
      rw [← hp] at hcl hl hci
      rw [← hm] at hcl hl
      have hpe : (canon sm N)[i]? = some p := by rw [hp]; have := HN.out; simp [List.getD, show i < (canon sm N).length by omega]
      have hpN : ∀ v ∈ p, v < N := fun v hv => by
        have h1 := List.mem_of_getElem? hpe
        unfold canon at h1
        obtain ⟨r, _, rfl⟩ := List.mem_map.1 h1
        exact (mem_cls.1 hv).1
      have hz := HZ1.out
      have hgz := HGs.out
      have ng : pg ≠ g := by omega
      have nb : pb ≠ g := by omega
      have hcl := hf3.cell' hcl ng
      have i1 : (0 : Int) ≤ (i : Int) := by omega
      have i2 : (i : Int) < (n : Int) := by omega
      have HCi : Hid (∀ W, Fx (fun x => x = g) w2 W → ∀ q, (hq : q < p.length) → W.cell? ⟨pb, q, none⟩ = some (.int .i64 (p[q] : Nat))) := Lib.hid fun W hW q hq => by
        have := (hci q (by rw [natsI_len]; exact hq)).1
        rw [Nat.zero_add, gi_natsI hq] at this
        exact hW.cell' this nb
      have HNb := Lib.hid hnb
      have HFv := Lib.hid hfv
      have HF3 := Lib.hid hf3
      have HPe := Lib.hid hpe
      have HPn := Lib.hid hpN
      have HM := Lib.hid hm
      have hm9 : m ≤ 9223372036854775807 := by unfold maxLen at hmx; omega
      clear hci hnb hfv hf3 hpe hpN hm hp hz hgz hb1 hb2 ng nb
      go_wp2
      go_loopg [23] m (fun gk sv ws => ∃ (q : Nat) (f : Nat → Nat), q + gk = m ∧ sv = .int .i64 (q : Nat) ∧ Fx (fun x => x = g) w2 ws ∧ NumB ws g N f ∧ ∀ v, v < N → (cno sm v < i ∨ v ∈ p.take q) → f v = cno sm v)
      case atStart => exact ⟨0, f, by omega, rfl, HF3.out, HNb.out, fun v hv h => HFv.out v hv (by simpa using h)⟩
      case round =>
        obtain ⟨q, f2, hq, rfl, hf4, hnb2, hfv2⟩ := hrel
        have HF4 := Lib.hid hf4
        have HNb2 := Lib.hid hnb2
        have HFv2 := Lib.hid hfv2
        by_cases hqm : q < m
        · have hqp : q < p.length := by rw [← HM.out]; exact hqm
          have hx := HCi.out _ hf4 q hqp
          obtain ⟨x, hxe⟩ : ∃ x, x = p[q] := ⟨_, rfl⟩
          rw [← hxe] at hx
          have hxN : x < N := HPn.out x (by rw [hxe]; exact List.getElem_mem _)
          have hxi : cno sm x = i := (canon_at HE.out HPe.out hxN).1 (by rw [hxe]; exact List.getElem_mem _)
          have HXe := Lib.hid hxe
          have HXi := Lib.hid hxi
          have hg4 := hnb2 x hxN
          have x1 : (0 : Int) ≤ (x : Int) := by omega
          have x2 : (x : Int) < (N : Int) := by omega
          have q1 : (0 : Int) ≤ (q : Int) := by omega
          have q2 : (q : Int) < (m : Int) := by omega
          have HR : Hid (Fx (fun x => x = g) w2 (wr.setCell ⟨g, x, none⟩ (.int .i64 (i : Nat))) ∧ NumB (wr.setCell ⟨g, x, none⟩ (.int .i64 (i : Nat))) g N (fun j => if j = x then i else f2 j)) := Lib.hid ⟨hf4.trans (Fx.put _ _ _ _), hnb2.put hxN i⟩
          clear hf4 hnb2 hfv2 hxe hxi
          go_wp2
          go_roundg (m - (q + 1))
          case measure => omega
          case rel => exact ⟨q + 1, _, by omega, by go_num, HR.out.1, HR.out.2, fun v hv h => by
              show (if v = x then i else f2 v) = _
              by_cases e : v = x
              · rw [if_pos e, e, HXi.out]
              · rw [if_neg e]
                refine HFv2.out v hv (h.imp_right fun hm => ?_)
                rw [List.take_succ_eq_append_getElem hqp, List.mem_append, List.mem_singleton] at hm
                exact hm.resolve_right fun r => e (by rw [r, HXe.out])⟩
        · obtain rfl : q = m := by omega
          clear hf4 hnb2 hfv2
          go_wp2
          go_roundg (n - (i + 1))
          case measure => omega
          case rel => exact ⟨i + 1, f2, by omega, by go_num, HF4.out, HNb2.out, fun v hv h => HFv2.out v hv (by
              rcases Nat.lt_or_ge (cno sm v) i with e | e
              · exact .inl e
              · right
                rw [HM.out, List.take_length]
                exact (canon_at HE.out HPe.out hv).2 (by omega))⟩
    · obtain rfl : i = n := by omega
      have HF3 := Lib.hid hf3
      have HNb := Lib.hid hnb
      have HFv := Lib.hid hfv
      clear hf3 hnb hfv
      go_wp2
      go_ret
      have z1 := HF2.out.size
      have z2 := HF3.out.size
      have z3 := HZ1.out
      have z4 := HGs.out
      exact ⟨g, rfl, (HF1.out.trans HF2.out).trans' HF3.out fun j e hl => by have e : j = g := e; omega, by omega, by omega, HNb.out.congr fun v hv => HFv.out v hv (by
        have := cno_lt HE.out hv
        rw [HN.out]; simpa [canon] using this)⟩
end
#print axioms sof_any
end Go.Proofs.YtdoplaijgocboaaGreat

namespace Go.Proofs.YtdoplaijgocboaaGreat
open Go.RowKit Go.Sort Go.Shelf Go.Lib
set_option linter.unusedVariables false

/-- where the first one is that is so; -1: none -/
def jIdx (p : Int → Bool) : List Int → Nat → Int
  | [], _ => -1
  | x :: l, k => if p x then (k : Int) else jIdx p l (k + 1)
theorem jIdx_drop (p : Int → Bool) {l : List Int} {k : Nat} (hk : k < l.length) : jIdx p (l.drop k) k = if p (gi l k) then (k : Int) else jIdx p (l.drop (k + 1)) (k + 1) := by
  rw [List.drop_eq_getElem_cons hk]
  simp [jIdx, gi, hk]
theorem jIdx_any (p : Int → Bool) : ∀ (l : List Int) (k : Nat), decide (0 ≤ jIdx p l k) = l.any p
  | [], k => by simp [jIdx]
  | x :: l, k => by
    unfold jIdx
    rw [List.any_cons]
    cases p x
    · simpa using jIdx_any p l (k + 1)
    · simp
section
variable {w w' : World} {D S T : Nat → Prop}
set_option maxRecDepth 100000 in
set_option maxHeartbeats 1000000 in
theorem indexFuncJ_any {v : Value} {xs : List Int} {c c2 : Value} {p : Int → Bool} (h : IntsV w D v xs) (hC : ∀ W, Fx No w W → ∀ k, k < xs.length → (∀ j, j < k → p (gi xs j) = false) → Calls Tryz.prog 46 #[.int .i64 (gi xs k), c, c2] W fun r w' => r = .returned (.bool (p (gi xs k))) ∧ Fx No W w') :
    Calls Tryz.prog 61 #[v, .func (.func 46) #[] #[c, c2]] w fun r w' => r = .returned (.int .i64 (jIdx p xs 0)) ∧ Fx No w w' := by
  have HC := Lib.hid hC
  obtain ⟨ao, cap, rfl, hcl, hc⟩ := IntsV.facts h
  have HX := Lib.hid hc
  have H0 : Hid (jIdx p xs 0 = jIdx p (xs.drop 0) 0 ∧ ∀ j, j < 0 → p (gi xs j) = false) := Lib.hid ⟨by simp, fun j hj => by omega⟩
  clear hC hc h
  go_enter Tryz.func61, Tryz.ntmps61
  go_wp2
  go_loopw [8] (fun i ws => ∃ k : Nat, i = .int .i64 k ∧ k ≤ xs.length ∧ Fx No w ws ∧ Hid (jIdx p xs 0 = jIdx p (xs.drop k) k ∧ ∀ j, j < k → p (gi xs j) = false)) (fun i _ => xs.length - (intOf i).toNat)
  case atStart => exact ⟨0, rfl, Nat.zero_le _, Fx.refl _ _, H0⟩
  case round =>
    obtain ⟨k, rfl, hk, hf, HK⟩ := hrel
    have HF := Lib.hid hf
    clear hf
    by_cases hlt : k < xs.length
    · obtain ⟨bb, oo, rfl, _, p0⟩ := HX.out k hlt
      have HS := Lib.hid (jIdx_drop p hlt)
      have CX0 := HC.out wr HF.out k hlt HK.out.2
      obtain ⟨x, hx⟩ : ∃ x, x = gi xs k := ⟨_, rfl⟩
      have HXe := Lib.hid hx
      rw [← hx] at p0 HS CX0
      have k0 := HF.out.cell' p0 (fun h => h)
      have CX := Lib.hid CX0
      have hk0 : (0 : Int) ≤ (k : Int) := by omega
      have hk1 : (k : Int) < (xs.length : Int) := by omega
      clear p0 hx CX0
      obtain ⟨px, hpx⟩ : ∃ t, t = p x := ⟨_, rfl⟩
      have HPx := Lib.hid hpx
      rw [← hpx] at HS CX
      clear hpx
      go_wp2_with fail
      refine CX.out.mono ?_
      rintro r w1 ⟨rfl, hf⟩
      have HF1 := Lib.hid (HF.out.trans hf)
      clear hf CX
      cases px
      · go_wp2
        go_roundw
        case rel => exact ⟨k + 1, by go_num, by omega, HF1.out, Lib.hid ⟨by rw [HK.out.1, HS.out]; simp, fun j hj => by
          by_cases e : j = k
          · rw [e, ← HXe.out, ← HPx.out]
          · exact HK.out.2 j (by omega)⟩⟩
        case measure => simp [intOf]; omega
      · go_wp2
        go_ret
        refine ⟨?_, HF1.out⟩
        rw [HK.out.1, HS.out]; rfl
    · obtain rfl : k = xs.length := by omega
      go_wp2
      go_ret
      refine ⟨?_, HF.out⟩
      rw [HK.out.1]; simp [jIdx]
theorem containsFuncJ_any {v : Value} {xs : List Int} {c c2 : Value} {p : Int → Bool} (h : IntsV w D v xs) (hC : ∀ W, Fx No w W → ∀ k, k < xs.length → (∀ j, j < k → p (gi xs j) = false) → Calls Tryz.prog 46 #[.int .i64 (gi xs k), c, c2] W fun r w' => r = .returned (.bool (p (gi xs k))) ∧ Fx No W w') :
    Calls Tryz.prog 45 #[v, .func (.func 46) #[] #[c, c2]] w fun r w' => r = .returned (.bool (xs.any p)) ∧ Fx No w w' := by
  have H := Lib.hid h
  have HC := Lib.hid hC
  have d1 : decide (0 ≤ jIdx p xs 0) = xs.any p := jIdx_any p xs 0
  obtain ⟨z, hz⟩ : ∃ z, z = jIdx p xs 0 := ⟨_, rfl⟩
  have HZ := Lib.hid hz
  rw [← hz] at d1
  obtain ⟨t, ht⟩ : ∃ t, t = xs.any p := ⟨_, rfl⟩
  rw [← ht] at d1 ⊢
  clear h hC hz ht
  go_enter Tryz.func45, Tryz.ntmps45
  go_wp2_with fail
  refine (indexFuncJ_any H.out HC.out).mono ?_
  rintro r w1 ⟨rfl, hf⟩
  have HF := Lib.hid hf
  rw [← HZ.out]
  clear hf
  go_wp2
  go_ret
  exact ⟨rfl, HF.out⟩
/-- a node that is not there, or of another component than the first -/
def jBad (N : Nat) (f : Nat → Nat) (z0 z : Int) : Bool := !decide (0 ≤ z ∧ z < (N : Int)) || decide (f z.toNat ≠ f z0.toNat)
set_option maxRecDepth 100000 in
set_option maxHeartbeats 4000000 in
theorem closJ_any {W : World} {bo bi g ig io nl nc N : Nat} {f : Nat → Nat} {z z0 : Int} (h1 : W.cell? ⟨bo, 0, none⟩ = some (.slice (some ⟨g, 0, none⟩) N N)) (h2 : W.cell? ⟨bi, 0, none⟩ = some (.slice (some ⟨ig, io, none⟩) nl nc)) (h3 : W.cell? ⟨ig, io, none⟩ = some (.int .i64 z0)) (hl : 0 < nl) (hn : NumB W g N f) (hz : (0 ≤ z ∧ z < (N : Int)) → 0 ≤ z0 ∧ z0 < (N : Int)) :
    Calls Tryz.prog 46 #[.int .i64 z, .pointer (some ⟨bo, 0, none⟩), .pointer (some ⟨bi, 0, none⟩)] W fun r w' => r = .returned (.bool (jBad N f z0 z)) ∧ Fx No W w' := by
  have l0 : (0 : Int) < (nl : Int) := by omega
  by_cases r1 : z < 0
  · have hb : jBad N f z0 z = true := by simp [jBad]; left; omega
    rw [hb]
    have d1 : decide (z < 0) = true := decide_eq_true r1
    clear hn hz
    go_enter Tryz.func46, Tryz.ntmps46
    go_wp2
    go_quiet (fail)
    go_wp2
    go_ret
    exact ⟨rfl, (Fx.refl No _).drewN _⟩
  · have d1 : decide (z < 0) = false := decide_eq_false r1
    by_cases r2 : (N : Int) ≤ z
    · have hb : jBad N f z0 z = true := by simp [jBad]; left; omega
      rw [hb]
      have d2 : decide ((N : Int) ≤ z) = true := decide_eq_true r2
      clear hn hz
      go_enter Tryz.func46, Tryz.ntmps46
      go_wp2
      go_quiet (fail)
      go_wp2
      go_ret
      exact ⟨rfl, (Fx.refl No _).drewN _⟩
    · have d2 : decide ((N : Int) ≤ z) = false := decide_eq_false r2
      obtain ⟨a, rfl⟩ : ∃ a : Nat, z = (a : Int) := ⟨z.toNat, by omega⟩
      obtain ⟨q1, q2⟩ := hz ⟨by omega, by omega⟩
      obtain ⟨b, rfl⟩ : ∃ b : Nat, z0 = (b : Int) := ⟨z0.toNat, by omega⟩
      have d3 : decide (N ≤ a) = false := decide_eq_false (by omega)
      have d4 : decide ((a : Int) < (N : Int)) = true := decide_eq_true (by omega)
      have ca := (hn a (by omega)).1
      have cb := (hn b (by omega)).1
      have a0 : (0 : Int) ≤ (a : Int) := by omega
      have a1 : (a : Int) < (N : Int) := by omega
      have b0 : (0 : Int) ≤ (b : Int) := by omega
      have b1 : (b : Int) < (N : Int) := by omega
      obtain ⟨t, ht⟩ : ∃ t, t = decide (f a ≠ f b) := ⟨_, rfl⟩
      have hb : jBad N f (b : Int) (a : Int) = t := by
        rw [ht]
        unfold jBad
        rw [decide_eq_true (show 0 ≤ (a : Int) ∧ (a : Int) < (N : Int) from ⟨a0, a1⟩)]
        simp [Int.toNat_natCast]
      rw [hb]
      have HT := Lib.hid ht
      clear hn hz ht hb
      go_enter Tryz.func46, Tryz.ntmps46
      go_wp2
      go_quiet (fail)
      go_wp2
      go_ret
      refine ⟨?_, (Fx.refl No _).drewN _⟩
      rw [HT.out]
      by_cases e : f a = f b
      · rw [e]; simp
      · have e2 : ((f a : Nat) : Int) ≠ ((f b : Nat) : Int) := by omega
        simp [e, bne, e2]
set_option maxRecDepth 100000 in
set_option maxHeartbeats 4000000 in
theorem joined_any {N gb : Nat} {L : List Ed} {E : Nat → Prop} {sm : Nat → Nat → Bool} {v : Value} {xs : List Int} (hg : GraphV w D gb N L) (h : Eqv sm N) (hsm : ∀ i j, i < N → j < N → (sm i j = true ↔ Sm (EG L) i j)) (hx : IntsV w E v xs) :
    Calls Tryz.prog 24 #[.pointer (some ⟨gb, 0, none⟩), v] w fun e w' => e = .returned (.bool (!xs.any (jBad N (cno sm) (gi xs 0)))) ∧ Fx No w w' := by
  have HG := Lib.hid hg
  have HE := Lib.hid h
  have HSm := Lib.hid hsm
  have HX := Lib.hid hx
  obtain ⟨ao, cap, rfl, hl9, hk⟩ := IntsV.facts hx
  have HK := Lib.hid hk
  obtain ⟨t, ht⟩ : ∃ t, t = xs.any (jBad N (cno sm) (gi xs 0)) := ⟨_, rfl⟩
  rw [← ht]
  have HT := Lib.hid ht
  have hb := (new_cells (W := w) (cs := #[.slice ao xs.length cap]) (t := 23) (b := w.heap.size) (i := 0) rfl rfl).1
  clear hg h hsm hx hk ht
  go_enter Tryz.func24, Tryz.ntmps24
  go_upto_region 2 with (go_at_call 16; refine (sof_any (HG.out.no ((Fx.refl No w).alloc _)) HE.out HSm.out).mono ?_; rintro e w2 ⟨g, rfl, hf2, hg1, hg2, hnb⟩; have hf0 := ((Fx.refl No w).alloc (.cells #[.slice ao xs.length cap] 23)).trans hf2; have hbi := hf2.cell' hb (fun q => q); have HNb := Lib.hid hnb; have HF0 := Lib.hid hf0; have HBi := Lib.hid hbi; clear hf2 hnb hf0 hb hbi hg1 hg2)
  refine wp_hold (fun W => Fx No w W ∧ W.cell? ⟨w2.heap.size, 0, none⟩ = some (.slice (some ⟨g, 0, none⟩) N N) ∧ W.cell? ⟨w.heap.size, 0, none⟩ = some (.slice ao xs.length cap) ∧ NumB W g N (cno sm)) ⟨HF0.out.trans ((Fx.refl No w2).alloc _), (new_cells rfl rfl).1, ((Fx.refl No w2).alloc _).cell' HBi.out (fun q => q), HNb.out.keep ((Fx.refl No w2).alloc _) (fun q => q)⟩ ?_
  rintro w3 ⟨hf3, ho3, hi3, hn3⟩
  have HF3 := Lib.hid hf3
  have CC : Hid (Calls Tryz.prog 45 #[.slice ao xs.length cap, .func (.func 46) #[] #[.pointer (some ⟨w2.heap.size, 0, none⟩), .pointer (some ⟨w.heap.size, 0, none⟩)]] w3 fun r w' => r = .returned (.bool t) ∧ Fx No w3 w') := Lib.hid (by
    rw [HT.out]
    refine containsFuncJ_any (IntsV.keep HX.out hf3 No.disj) fun W hW k hk hpr => ?_
    obtain ⟨ig, io, rfl, _, hc0⟩ := HK.out 0 (by omega)
    refine closJ_any (hW.cell' ho3 (fun q => q)) (hW.cell' hi3 (fun q => q)) (hW.cell' (hf3.cell' hc0 (fun q => q)) (fun q => q)) (by omega) (hn3.keep hW (fun q => q)) fun hz => ?_
    by_cases e : k = 0
    · rw [← e]; exact hz
    · have := hpr 0 (by omega)
      unfold jBad at this
      simp only [Bool.or_eq_false_iff, Bool.not_eq_false', decide_eq_true_eq] at this
      exact this.1)
  clear hf3 hn3
  go_wp2_with fail
  refine CC.out.mono ?_
  rintro e w4 ⟨rfl, hf4⟩
  have HF4 := Lib.hid (HF3.out.trans hf4)
  clear hf4
  go_wp2
  go_ret
  exact ⟨rfl, HF4.out⟩
end
#print axioms joined_any
#print axioms containsFuncJ_any
#print axioms closJ_any
end Go.Proofs.YtdoplaijgocboaaGreat

namespace Go.Proofs.YtdoplaijgocboaaGreat
open Go.RowKit Go.Sort Go.Shelf Go.Lib
set_option linter.unusedVariables false

section
variable {w w' : World} {D S T : Nat → Prop}
/-- an edge from one component to another -/
def outE2 (f : Nat → Nat) (x : Ed) : Bool := decide (f x.f.toNat ≠ f x.t.toNat)
set_option maxRecDepth 100000 in
set_option maxHeartbeats 4000000 in
theorem closW_any {W : World} {bo g N : Nat} {f : Nat → Nat} {x : Ed} (h1 : W.cell? ⟨bo, 0, none⟩ = some (.slice (some ⟨g, 0, none⟩) N N)) (hn : NumB W g N f) (hx : (0 ≤ x.f ∧ x.f < (N : Int)) ∧ 0 ≤ x.t ∧ x.t < (N : Int)) :
    Calls Tryz.prog 36 #[evE x, .pointer (some ⟨bo, 0, none⟩)] W fun r w' => r = .returned (.bool (outE2 f x)) ∧ Fx No W w' := by
  obtain ⟨xf, xt, xl⟩ := x
  obtain ⟨⟨a0, a1⟩, b0, b1⟩ := hx
  obtain ⟨a, rfl⟩ : ∃ a : Nat, xf = (a : Int) := ⟨xf.toNat, by simp only at a0; omega⟩
  obtain ⟨b, rfl⟩ : ∃ b : Nat, xt = (b : Int) := ⟨xt.toNat, by simp only at b0; omega⟩
  simp only at a0 a1 b0 b1
  have hA := (Fx.refl No W).alloc (.cells #[.int .i64 (a : Int), .int .i64 (b : Int), .int .i64 xl] 46)
  have ca := hA.cell' (hn a (by omega)).1 (fun q => q)
  have cb := hA.cell' (hn b (by omega)).1 (fun q => q)
  have c1 := hA.cell' h1 (fun q => q)
  have HA := Lib.hid hA
  obtain ⟨t, ht⟩ : ∃ t, t = decide (f a ≠ f b) := ⟨_, rfl⟩
  have hb : outE2 f ⟨(a : Int), (b : Int), xl⟩ = t := by rw [ht]; simp [outE2]
  rw [hb]
  unfold evE
  have HT := Lib.hid ht
  clear hn ht hb hA
  go_enter Tryz.func36, Tryz.ntmps36
  go_wp2
  go_quiet (fail)
  go_wp2
  go_ret
  refine ⟨?_, HA.out.drewN _⟩
  rw [HT.out]
  by_cases e : f a = f b
  · rw [e]; simp
  · have e2 : ((f a : Nat) : Int) ≠ ((f b : Nat) : Int) := by omega
    simp [e, bne, e2]
set_option maxRecDepth 100000 in
set_option maxHeartbeats 1000000 in
theorem indexFuncW_any {v : Value} {xs : List Ed} {c : Value} {p : Ed → Bool} (h : EdsV w D v xs) (hC : ∀ W, Fx No w W → ∀ x ∈ xs, Calls Tryz.prog 36 #[evE x, c] W fun r w' => r = .returned (.bool (p x)) ∧ Fx No W w') :
    Calls Tryz.prog 51 #[v, .func (.func 36) #[] #[c]] w fun r w' => r = .returned (.int .i64 (fIdx p xs 0)) ∧ Fx No w w' := by
  have HC := Lib.hid hC
  obtain ⟨ao, cap, rfl, hcl, hcm, hc⟩ := EdsV.facts h
  have HX := Lib.hid hc
  have H0 : Hid (fIdx p xs 0 = fIdx p (xs.drop 0) 0) := Lib.hid (by simp)
  clear hC hc h
  go_enter Tryz.func51, Tryz.ntmps51
  go_wp2
  go_loopw [8] (fun i ws => ∃ k : Nat, i = .int .i64 k ∧ k ≤ xs.length ∧ Fx No w ws ∧ Hid (fIdx p xs 0 = fIdx p (xs.drop k) k)) (fun i _ => xs.length - (intOf i).toNat)
  case atStart => exact ⟨0, rfl, Nat.zero_le _, Fx.refl _ _, H0⟩
  case round =>
    obtain ⟨k, rfl, hk, hf, HK⟩ := hrel
    have HF := Lib.hid hf
    clear hf
    by_cases hlt : k < xs.length
    · obtain ⟨bb, oo, rfl, _, p0, p1, p2⟩ := HX.out k hlt
      have HS := Lib.hid (fIdx_drop p hlt)
      have hmem := gt_mem hlt
      obtain ⟨x, hx⟩ : ∃ x, x = gt xs k := ⟨_, rfl⟩
      rw [← hx] at p0 p1 p2 HS hmem
      have k0 := HF.out.cell' p0 (fun h => h)
      have k1 := HF.out.cell' p1 (fun h => h)
      have k2 := HF.out.cell' p2 (fun h => h)
      have CX : Hid (Calls Tryz.prog 36 #[.agg #[.int .i64 x.f, .int .i64 x.t, .int .i64 x.l], c] wr fun r w' => r = .returned (.bool (p x)) ∧ Fx No wr w') := Lib.hid (HC.out wr HF.out x hmem)
      have hk0 : (0 : Int) ≤ (k : Int) := by omega
      have hk1 : (k : Int) < (xs.length : Int) := by omega
      clear p0 p1 p2 hx
      obtain ⟨px, hpx⟩ : ∃ t, t = p x := ⟨_, rfl⟩
      rw [← hpx] at HS CX
      clear hpx
      go_wp2_with fail
      refine CX.out.mono ?_
      rintro r w1 ⟨rfl, hf⟩
      have HF1 := Lib.hid (HF.out.trans hf)
      clear hf CX
      cases px
      · go_wp2
        go_roundw
        case rel => exact ⟨k + 1, by go_num, by omega, HF1.out, Lib.hid (by rw [HK.out, HS.out]; simp)⟩
        case measure => simp [intOf]; omega
      · go_wp2
        go_ret
        refine ⟨?_, HF1.out⟩
        rw [HK.out, HS.out]; rfl
    · obtain rfl : k = xs.length := by omega
      go_wp2
      go_ret
      refine ⟨?_, HF.out⟩
      rw [HK.out]; simp [fIdx]
end
#print axioms closW_any
#print axioms indexFuncW_any
end Go.Proofs.YtdoplaijgocboaaGreat
