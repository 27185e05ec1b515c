/- The library's sort, laid at the numbers of a seat of tag s1z (written by the kit's lay-plain). | scc: slices.Index, Clone, Sort of ints; a part is taken in. | scc: end: all that is next to a node was seen. | scc: the row of frames in memory; components found so far; counting what was not seen. | scc: where the search from a node stands: its steps. -/
import Derived.Shelf.Sort.Plain
import Derived.Test.YtdoplaijgocboaaGreatProg
import Derived.Test.YtdoplaijgocboaaGreatS1
import Derived.Test.YtdoplaijgocboaaGreatM1
import Derived.Sort.OwnSortedInts
import Derived.BigQuiet

namespace Go.Proofs.YtdoplaijgocboaaGreat
open Go.Shelf
def sortI_ren : Go.Shelf.Ren := ⟨fun | 189 => 53 | 125 => 57 | 257 => 65 | 128 => 77 | 129 => 78 | 294 => 83 | 295 => 84 | 296 => 85 | 297 => 86 | 298 => 87 | 299 => 88 | 216 => 89 | 300 => 90 | 301 => 91 | 328 => 101 | 329 => 95 | 330 => 96 | 331 => 102 | 332 => 103 | 215 => 99 | 343 => 107 | n => n, fun | 28 => 23 | 3 => 3 | 46 => 105 | 0 => 0 | 51 => 127 | 53 => 129 | 4 => 4 | 183 => 121 | 182 => 120 | 131 => 107 | 5 => 5 | 9 => 9 | 218 => 141 | 222 => 145 | 228 => 149 | 229 => 150 | n => n, fun | n => n⟩
theorem sortI : Go.Proofs.Lays.n189 Tryz.prog sortI_ren := {
  mixed := by kernel_rfl
  f125 := Tryz.func57.trans (congrArg some (by kernel_rfl))
  f128 := Tryz.func77.trans (congrArg some (by kernel_rfl))
  f129 := Tryz.func78.trans (congrArg some (by kernel_rfl))
  f189 := Tryz.func53.trans (congrArg some (by kernel_rfl))
  f215 := Tryz.func99.trans (congrArg some (by kernel_rfl))
  f216 := Tryz.func89.trans (congrArg some (by kernel_rfl))
  f257 := Tryz.func65.trans (congrArg some (by kernel_rfl))
  f294 := Tryz.func83.trans (congrArg some (by kernel_rfl))
  f295 := Tryz.func84.trans (congrArg some (by kernel_rfl))
  f296 := Tryz.func85.trans (congrArg some (by kernel_rfl))
  f297 := Tryz.func86.trans (congrArg some (by kernel_rfl))
  f298 := Tryz.func87.trans (congrArg some (by kernel_rfl))
  f299 := Tryz.func88.trans (congrArg some (by kernel_rfl))
  f300 := Tryz.func90.trans (congrArg some (by kernel_rfl))
  f301 := Tryz.func91.trans (congrArg some (by kernel_rfl))
  f328 := Tryz.func101.trans (congrArg some (by kernel_rfl))
  f329 := Tryz.func95.trans (congrArg some (by kernel_rfl))
  f330 := Tryz.func96.trans (congrArg some (by kernel_rfl))
  f331 := Tryz.func102.trans (congrArg some (by kernel_rfl))
  f332 := Tryz.func103.trans (congrArg some (by kernel_rfl))
  f343 := Tryz.func107.trans (congrArg some (by kernel_rfl))
  t0 := Tryz.underlying0
  a0 := Tryz.isAgg0
  z0 := Tryz.sizeOf0
  v0 := Tryz.zeroValue0
  t3 := Tryz.underlying3
  a3 := Tryz.isAgg3
  z3 := Tryz.sizeOf3
  v3 := Tryz.zeroValue3
  t4 := Tryz.underlying4
  a4 := Tryz.isAgg4
  z4 := Tryz.sizeOf4
  v4 := Tryz.zeroValue4
  t5 := Tryz.underlying5
  a5 := Tryz.isAgg5
  z5 := Tryz.sizeOf5
  v5 := Tryz.zeroValue5
  t9 := Tryz.underlying9
  a9 := Tryz.isAgg9
  z9 := Tryz.sizeOf9
  v9 := Tryz.zeroValue9
  t28 := Tryz.underlying23
  a28 := Tryz.isAgg23
  z28 := Tryz.sizeOf23
  v28 := Tryz.zeroValue23
  t46 := Tryz.underlying105
  a46 := Tryz.isAgg105
  z46 := Tryz.sizeOf105
  v46 := Tryz.zeroValue105
  t51 := Tryz.underlying127
  a51 := Tryz.isAgg127
  z51 := Tryz.sizeOf127
  v51 := Tryz.zeroValue127
  t53 := Tryz.underlying129
  a53 := Tryz.isAgg129
  z53 := Tryz.sizeOf129
  v53 := Tryz.zeroValue129
  t131 := Tryz.underlying107
  a131 := Tryz.isAgg107
  z131 := Tryz.sizeOf107
  v131 := Tryz.zeroValue107
  t182 := Tryz.underlying120
  a182 := Tryz.isAgg120
  z182 := Tryz.sizeOf120
  v182 := Tryz.zeroValue120
  t183 := Tryz.underlying121
  a183 := Tryz.isAgg121
  z183 := Tryz.sizeOf121
  v183 := Tryz.zeroValue121
  t218 := Tryz.underlying141
  a218 := Tryz.isAgg141
  z218 := Tryz.sizeOf141
  v218 := Tryz.zeroValue141
  t222 := Tryz.underlying145
  a222 := Tryz.isAgg145
  z222 := Tryz.sizeOf145
  v222 := Tryz.zeroValue145
  t228 := Tryz.underlying149
  a228 := Tryz.isAgg149
  z228 := Tryz.sizeOf149
  v228 := Tryz.zeroValue149
  t229 := Tryz.underlying150
  a229 := Tryz.isAgg150
  z229 := Tryz.sizeOf150
  v229 := Tryz.zeroValue150 }
#print axioms sortI
end Go.Proofs.YtdoplaijgocboaaGreat

namespace Go.Proofs.YtdoplaijgocboaaGreat
open Go.RowKit
set_option linter.unusedVariables false

section
variable {w w' : World} {D : Nat → Prop} {v : Value} {l : List Int}
/-- where a number stands first -/
theorem index_any (h : IntsV w D v l) {a : Nat} (ha : a < l.length) (hf : ∀ j, j < a → gi l j ≠ gi l a) :
    Calls Tryz.prog 67 #[v, .int .i64 (gi l a)] w fun e w' => e = .returned (.int .i64 (a : Nat)) ∧ Fx No w w' := by
  obtain ⟨ao, cap, rfl, hl, hc⟩ := h.facts
  have HC := Lib.hid hc
  have HF := Lib.hid hf
  obtain ⟨x, hx⟩ : ∃ x, x = gi l a := ⟨_, rfl⟩
  have HX := Lib.hid hx
  rw [← hx]
  clear h hc hf hx
  go_enter Tryz.func67, Tryz.ntmps67
  go_wp2
  go_loopw [5, 8] (fun _ i ws => ∃ q : Nat, i = .int .i64 q ∧ q ≤ a ∧ Fx No w ws) (fun _ i _ => l.length - (intOf i).toNat)
  case atStart => exact ⟨0, rfl, Nat.zero_le _, Fx.refl _ _⟩
  case round =>
    obtain ⟨q, rfl, hq, hfx⟩ := hrel
    have HFx := Lib.hid hfx
    have hql : q < l.length := by omega
    obtain ⟨b, o, rfl, _, hcell⟩ := HC.out q hql
    have hcell := hfx.cell' hcell (fun h => h)
    have d1 : decide ((q : Int) < (l.length : Int)) = true := decide_eq_true (by omega)
    have hq0 : (0 : Int) ≤ (q : Int) := by omega
    have hq1 : (q : Int) < (l.length : Int) := by omega
    clear hfx
    by_cases e : q = a
    · subst e
      rw [← HX.out] at hcell
      go_wp2
      go_ret
      exact ⟨rfl, HFx.out⟩
    · have hne : gi l q ≠ x := by rw [HX.out]; exact HF.out q (by omega)
      obtain ⟨y, hy⟩ : ∃ y, y = gi l q := ⟨_, rfl⟩
      rw [← hy] at hcell hne
      have d2 : (x == y) = false := by rw [beq_eq_false_iff_ne]; exact fun e => hne e.symm
      have d3 : ¬ x = y := fun e => hne e.symm
      clear hy hne
      go_wp2
      go_roundw
      case rel => exact ⟨q + 1, by go_num, by omega, HFx.out⟩
      case measure => simp [intOf]; omega
theorem cloneI_any (h : IntsV w D v l) (h0 : 0 < l.length) (hl : l.length ≤ 1000000) :
    Calls Tryz.prog 68 #[v] w fun e w' => ∃ v', e = .returned v' ∧ Fx No w w' ∧ w'.ownsRow w.heap.size 3 1 v' l.length (ints l) := by
  obtain ⟨ii, hi, hz, hs, hb⟩ := info_parts info_int'
  have H := Lib.hid h
  obtain ⟨ao, cap, rfl, hcl, hc⟩ := h.facts
  obtain ⟨b, o, rfl, _, _⟩ := hc 0 h0
  clear h hc
  have hq : ∀ W, (binOp .eql 23 (.slice (some ⟨b, o, none⟩) l.length cap) (.slice none 0 0)).run Tryz.prog W = .ok (.bool false) W := fun W => Lib.run_eql_slice_nil W _ _ (some ⟨b, o, none⟩) _ cap 0 0 Tryz.underlying23
  have HO : Hid ((w.alloc (.cells #[] 3)).ownsRow w.heap.size 3 1 (.slice (some ⟨w.heap.size, 0, none⟩) 0 0) 0 []) := Lib.hid ⟨rfl, .inr ⟨_, 0, #[], rfl, Nat.le_refl _, by show (w.heap.push _)[w.heap.size]? = _; simp, Nat.le_refl _, Nat.zero_le _, rfl, rfl⟩⟩
  have HS : Hid (SlV (w.alloc (.cells #[] 3)) D (.slice (some ⟨b, o, none⟩) l.length cap) 1 l.length (ints l)) := Lib.hid (SlV.keep H.out ((Fx.refl No w).alloc _) No.disj)
  go_enter Tryz.func68, Tryz.ntmps68
  go_wp2_with (at_builtin; refine wpList_append_sl rfl _ _ 23 rfl w.heap.size 3 Tryz.underlying23 hi hz hs hb rfl (by decide) rfl HO.out rfl HS.out (ints_one _) (by unfold maxLen; omega) (by omega) (by simp) ?_)
  intro v' w1 ho hf _
  have HO2 : Hid (w1.ownsRow w.heap.size 3 1 v' l.length (ints l)) := Lib.hid (by simpa using ho)
  have HF : Hid (Fx No w w1) := Lib.hid (((Fx.refl No w).alloc _).trans' hf fun j h1 h2 => by
    have h3 : w.heap.size = j := by simpa [Value.ownBlock] using h1
    omega)
  clear ho hf
  go_wp2
  go_ret
  exact ⟨_, rfl, HF.out, HO2.out⟩
end
def srt (l : List Int) : List Int := l.mergeSort fun x y => decide (x ≤ y)
theorem srt_perm (l : List Int) : (srt l).Perm l := List.mergeSort_perm l _
theorem srt_len (l : List Int) : (srt l).length = l.length := (srt_perm l).length_eq
theorem srt_sorted (l : List Int) : (srt l).Pairwise (· ≤ ·) := by
  have h := List.pairwise_mergeSort (le := fun x y : Int => decide (x ≤ y)) (fun a b c h1 h2 => by simp at h1 h2 ⊢; omega) (fun a b => by simp; omega) l
  exact h.imp fun q => by simpa using q
/-- the library's sort -/
theorem sort_any {w : World} {B : Nat} {v : Value} {l : List Int} (h : w.ownsRow B 3 1 v l.length (ints l)) (h0 : 0 < l.length) (hl : l.length ≤ 1000000) :
    Calls Tryz.prog 53 #[v] w fun e w' => e = .returned (.tuple #[]) ∧ Fx (fun k => v.ownBlock = some k) w w' ∧ w'.ownsRow B 3 1 v l.length (ints (srt l)) := by
  have hr := RowI.ofOwn h
  rcases h.2 with ⟨rfl, h1⟩ | ⟨g, cap, cur, rfl, hb, hg, h1, h2, h3, h4⟩
  · omega
  have hglt : g < w.heap.size := (Array.getElem?_eq_some_iff.1 hg).1
  have hH : Sort.Holds (Value.int .i64) w g 0 l.toArray := fun j hj => by
    have hj' : j < l.length := by simpa using hj
    obtain ⟨ao, c, e1, _, _, _, e5⟩ := hr
    simp only [Value.slice.injEq] at e1
    obtain ⟨rfl, _⟩ := e1
    rcases e5 with rfl | ⟨g', e6, _, _, e7⟩
    · simp at hj'
    · simp only [Option.some.injEq, Addr.mk.injEq] at e6
      obtain ⟨rfl, _⟩ := e6
      have := e7 j hj'
      rw [this.1]
      exact ⟨by simp [gi, hj'], this.2⟩
  have hc := Any.slices_Sort_int sortI g 0 cap l w hH hglt (by omega)
  refine Calls.mono (hc : Calls Tryz.prog 53 _ _ _) ?_
  rintro e w' ⟨rfl, n, os, rfl⟩
  refine ⟨rfl, Fx.ofGrown (grownBy_sortedI _) fun k hk _ => ?_, ?_⟩
  · simpa [Value.ownBlock] using hk
  · exact ownsRow_sortedI (srt_len l) hb hg h1 h2 h3
/-- a row of numbers, sorted -/
def srtN (p : List Nat) : List Nat := (srt (natsI p)).map Int.toNat
theorem natsI_srtN (p : List Nat) : natsI (srtN p) = srt (natsI p) := by
  unfold srtN
  unfold natsI
  rw [List.map_map]
  conv => rhs; rw [← List.map_id (srt (List.map (fun i => ((i : Nat) : Int)) p))]
  refine List.map_congr_left fun z hz => ?_
  have := (srt_perm (natsI p)).mem_iff.1 hz
  obtain ⟨i, _, rfl⟩ := List.mem_map.1 this
  rfl
theorem srtN_perm (p : List Nat) : (srtN p).Perm p := by
  unfold srtN
  refine ((srt_perm (natsI p)).map Int.toNat).trans ?_
  unfold natsI
  rw [List.map_map]
  have : p.map (Int.toNat ∘ fun i : Nat => (i : Int)) = p := by
    conv => rhs; rw [← List.map_id p]
    rfl
  rw [this]
theorem srtN_len (p : List Nat) : (srtN p).length = p.length := (srtN_perm p).length_eq
theorem srtN_asc {p : List Nat} (h : p.Nodup) : (srtN p).Pairwise fun x y => x < y := by
  have h1 : (srtN p).Pairwise fun x y => x ≤ y := by
    have h2 := srt_sorted (natsI p)
    rw [← natsI_srtN] at h2
    unfold natsI at h2
    rw [List.pairwise_map] at h2
    exact h2.imp fun q => by omega
  have h3 : (srtN p).Nodup := (srtN_perm p).nodup_iff.2 h
  exact (h1.and h3).imp fun q => by omega
section
variable {w0 w w' : World} {k : SP} {col : Nat → Nat} {N : Nat} {L : List Ed} {D S : Nat → Prop} {num low : Nat → Nat} {seen : Nat} {opn : Nat → Bool} {st st' : List Nat} {stv : Value} {P : List (List Nat)} {B C : Nat → Nat} {pv : Value}
/-- a part more: its row w2, the parts' row w3, the box -/
theorem SrV.part (h : SrV w0 w k col N L D num low seen opn st stv P B C pv) {p : List Nat} {pb cap : Nat} {W w2 w3 : World} {v' : Value} (hp0 : 0 < p.length) (hc0 : col pb = 0) (hD : ¬ D pb) (hpb : w0.heap.size ≤ pb) (hpw : pb < w.heap.size) (hW : Fx No w W) (hs : Fx (fun x => x = pb) W w2) (how : w2.ownsRow w0.heap.size 3 1 (.slice (some ⟨pb, 0, none⟩) p.length cap) p.length (ints (natsI p)))
    {W3 : World} (hW3 : Fx No w2 W3) (hfx : Fx (fun g => pv.ownBlock = some g) W3 w3) (ho : w3.ownsRow w0.heap.size 23 1 v' (P.length + 1) (partVals B C P ++ [.slice (some ⟨pb, 0, none⟩) p.length cap])) (hb2 : ∀ g, v'.ownBlock = some g → pv.ownBlock = some g ∨ W3.heap.size ≤ g) :
    ∃ (col' B' C' : Nat → Nat), SrV w0 (w3.setCell ⟨k.pb, 0, none⟩ v') k col' N L D num low seen opn st stv (P ++ [p]) B' C' v' ∧ ∀ x, x < w.heap.size → x ≠ pb → col' x = col x := by
  have zW := hW.size
  have z2 := hs.size
  have zW3 := hW3.size
  have z3 := hfx.size
  have hpl := World.ownsRow.lt how pb rfl
  have hf2 : Fx (fun x => x = pb) w w2 := hW.no.trans hs
  have hf3 : Fx (fun g => pv.ownBlock = some g ∨ g = pb) w w3 := ((hf2.transNo hW3).mono fun _ _ q => .inr q).trans (hfx.mono fun _ _ q => .inl q)
  have hf1 : Fx (fun x => x = k.pb) w3 (w3.setCell ⟨k.pb, 0, none⟩ v') := Fx.put _ _ _ _
  have hf : Fx (fun x => (pv.ownBlock = some x ∨ x = pb) ∨ x = k.pb) w (w3.setCell ⟨k.pb, 0, none⟩ v') := (hf3.mono fun _ _ q => .inl q).trans (hf1.mono fun _ _ q => .inr q)
  have hz : (w3.setCell ⟨k.pb, 0, none⟩ v').heap.size = w3.heap.size := by simp [World.setCell]
  have nz : ∀ x, col x ≠ 6 → col x ≠ 7 → x ≠ pb → ¬ ((pv.ownBlock = some x ∨ x = pb) ∨ x = k.pb) := fun x q1 q5 q0 e => by
    rcases e with (e | e) | e
    · have := h.kp x e; omega
    · exact q0 e
    · have := h.k6; rw [← e] at this; omega
  have n : ∀ x c, col x = c → 0 < c → c ≠ 6 → c ≠ 7 → ¬ ((pv.ownBlock = some x ∨ x = pb) ∨ x = k.pb) := fun x c q q0 q1 q5 => nz x (by omega) (by omega) fun e => by rw [e] at q; omega
  have n7 : ¬ pv.ownBlock = some k.pb := fun e => by have := h.kp _ e; have := h.k6; omega
  have n67 : k.pb ≠ pb := fun e => by have := h.k6; rw [e] at this; omega
  have lt : ∀ x, col x ≠ 0 → x < w.heap.size := fun x q => (h.new x q).2
  have l6 := lt k.pb (by rw [h.k6]; omega)
  have hv' : ∀ g, v'.ownBlock = some g → w0.heap.size ≤ g ∧ g < w3.heap.size := fun g e => World.ownsRow.lt ho g e
  have n8 : ¬ pv.ownBlock = some pb := fun e => by have := h.kp pb e; omega
  have how3 : w3.ownsRow w0.heap.size 3 1 (.slice (some ⟨pb, 0, none⟩) p.length cap) p.length (ints (natsI p)) := ownsRow_fx (ownsRow_fx how hW3 fun _ _ e => e) hfx fun g e e2 => by
    have e : pb = g := by simpa [Value.ownBlock] using e
    rw [← e] at e2; exact n8 e2
  have hnv : ∀ g, v'.ownBlock = some g → g ≠ pb := fun g e q => by
    subst q
    rcases hb2 g e with q | q
    · exact n8 q
    · omega
  obtain ⟨col', hcol⟩ : ∃ col' : Nat → Nat, ∀ x, col' x = if x = pb then 8 else if v'.ownBlock = some x ∧ w.heap.size ≤ x then 7 else col x := ⟨fun x => if x = pb then 8 else if v'.ownBlock = some x ∧ w.heap.size ≤ x then 7 else col x, fun _ => rfl⟩
  have hlow : ∀ x, x < w.heap.size → x ≠ pb → col' x = col x := fun x hx hne => by rw [hcol, if_neg hne, if_neg (by omega)]
  have hk : ∀ x c, col x = c → c ≠ 0 → col' x = c := fun x c q q0 => by rw [hlow x (lt x (by omega)) (fun e => by rw [e] at q; omega), q]
  have hP1 : (P ++ [p]).length = P.length + 1 := by simp
  have gold : ∀ i, i < P.length → (P ++ [p]).getD i [] = P.getD i [] := fun i hi => by simp [List.getD, List.getElem?_append_left hi]
  have gnew : (P ++ [p]).getD P.length [] = p := by simp [List.getD]
  refine ⟨col', fun i => if i = P.length then pb else B i, fun i => if i = P.length then cap else C i, ⟨?_, ?_, ?_, ?_, hk _ _ h.k1 (by omega), hk _ _ h.k2 (by omega), hk _ _ h.k3 (by omega), hk _ _ h.k4 (by omega), hk _ _ h.k6 (by omega), fun g e => hk _ _ (h.ks g e) (by omega), ?_, ?_, ?_,
    hf.cell' h.c0 (n _ _ h.k1 (by omega) (by omega) (by omega)), hf.cellF h.c1.1 h.c1.2 (n _ _ h.k1 (by omega) (by omega) (by omega)), hf.cell' h.c2 (n _ _ h.k1 (by omega) (by omega) (by omega)), hf.cell' h.c3 (n _ _ h.k1 (by omega) (by omega) (by omega)), hf.cellF h.c4.1 h.c4.2 (n _ _ h.k1 (by omega) (by omega) (by omega)), hf.cell' h.c5 (n _ _ h.k1 (by omega) (by omega) (by omega)), hf.cell' h.c6 (n _ _ h.k1 (by omega) (by omega) (by omega)),
    h.num.keep hf (n _ _ h.k2 (by omega) (by omega) (by omega)), h.low.keep hf (n _ _ h.k3 (by omega) (by omega) (by omega)), h.opn.keep hf (n _ _ h.k4 (by omega) (by omega) (by omega)), ownsRow_fx h.st hf fun g e => n _ _ (h.ks g e) (by omega) (by omega) (by omega), ?_, ?_, ?_, ?_⟩, hlow⟩
  · exact h.fx.trans' hf fun j e h2 => by
      rcases e with (e | e) | e
      · have := (h.new j (by rw [h.kp j e]; omega)).1; omega
      · have e : j = pb := e; omega
      · have := (h.new k.pb (by rw [h.k6]; omega)).1; have e : j = k.pb := e; omega
  · exact h.g.keep hf fun x hx e => nz x (by rw [h.old x hx]; omega) (by rw [h.old x hx]; omega) (fun q => hD (by rw [← q]; exact hx)) e
  · intro x hx
    have := h.g.lt x hx
    rw [hlow x (by omega) (fun q => hD (by rw [← q]; exact hx))]; exact h.old x hx
  · intro x hx
    rw [hcol] at hx
    rw [hz]
    split at hx
    · rename_i q; rw [q]; omega
    · split at hx
      · rename_i q; exact hv' x q.1
      · have := h.new x hx; omega
  · intro g e
    rcases hb2 g e with q | q
    · exact hk _ _ (h.kp g q) (by omega)
    · rw [hcol, if_neg (hnv g e), if_pos ⟨e, by omega⟩]
  · intro i hi
    by_cases e : i = P.length
    · simp only [e, if_true]; rw [hcol, if_pos rfl]
    · simp only [if_neg e]; exact hk _ _ (h.kb i (by omega)) (by omega)
  · intro i j hi hj e
    have lB : ∀ i, i < P.length → B i ≠ pb := fun i hi q => by have := h.kb i hi; rw [q] at this; omega
    by_cases e1 : i = P.length
    · by_cases e2 : j = P.length
      · omega
      · simp only [if_pos e1, if_neg e2] at e; exact absurd e.symm (lB j (by omega))
    · by_cases e2 : j = P.length
      · simp only [if_neg e1, if_pos e2] at e; exact absurd e (lB i (by omega))
      · simp only [if_neg e1, if_neg e2] at e; exact h.inj i j (by omega) (by omega) e
  · have q := hf3.cellF h.pc.1 h.pc.2 (fun e => e.elim n7 n67)
    exact ⟨World.cell?_setCell_same _ _ _ q.1, by simpa using q.2⟩
  · rw [partVals_snoc, hP1]
    exact ownsRow_fx ho hf1 fun g e e2 => by
      have e2 : g = k.pb := e2
      rcases hb2 g e with q | q
      · rw [e2] at q; exact n7 q
      · omega
  · intro i hi
    by_cases e : i = P.length
    · subst e
      rw [gnew]
      simp only [if_true]
      obtain ⟨ao, cp, e1, _, _, _, e5⟩ := RowI.ofOwn (l := natsI p) (by rw [natsI_len]; exact how3)
      simp only [Value.slice.injEq] at e1
      rcases e5 with e5 | ⟨g, e6, _, _, e7⟩
      · have := congrArg List.length e5; rw [natsI_len, List.length_nil] at this; omega
      · rw [← e1.1] at e6
        simp only [Option.some.injEq, Addr.mk.injEq] at e6
        obtain ⟨rfl, _⟩ := e6
        exact e7.keep hf1 (fun q => n67 q.symm)
    · rw [gold i (by omega)]
      simp only [if_neg e]
      exact (h.pe i (by omega)).keep hf (n _ _ (h.kb i (by omega)) (by omega) (by omega) (by omega))
  · intro i hi
    by_cases e : i = P.length
    · subst e
      rw [gnew]
      simp only [if_true]
      rcases how.2 with ⟨q, _⟩ | ⟨_, _, _, q, _, _, q1, q2, _⟩
      · cases q
      · simp only [Value.slice.injEq] at q
        obtain ⟨_, _, rfl⟩ := q
        exact ⟨q1, q2⟩
    · rw [gold i (by omega)]
      simp only [if_neg e]
      exact h.pcap i (by omega)
theorem info_intsS : (Tryz.prog.info? 23).map (fun i => (i.zero, i.size, i.bytes)) = some (some (.slice none 0 0), 1, 24) := by kernel_rfl
set_option maxRecDepth 100000 in
set_option maxHeartbeats 2000000 in
theorem add_any (h : SrV w0 w k col N L D num low seen opn st stv P B C pv) {p : List Nat} {pb cap : Nat} (hv : w.ownsRow w0.heap.size 3 1 (.slice (some ⟨pb, 0, none⟩) p.length cap) p.length (ints (natsI p))) (hp0 : 0 < p.length) (hpl : p.length ≤ 70000) (hPl : P.length ≤ 70000) (hc0 : col pb = 0) (hD : ¬ D pb) :
    Calls Tryz.prog 37 #[.pointer (some ⟨k.pb, 0, none⟩), .slice (some ⟨pb, 0, none⟩) p.length cap] w fun e w' => ∃ (col' B' C' : Nat → Nat) (pv' : Value), e = .returned (.tuple #[]) ∧ SrV w0 w' k col' N L D num low seen opn st stv (P ++ [srtN p]) B' C' pv' ∧ (∀ x, x < w.heap.size → x ≠ pb → col' x = col x) ∧ Fx (fun x => col x = 0 ∧ x = pb ∨ 6 ≤ col x ∧ col x ≤ 7) w w' := by
  obtain ⟨ii, hi, hz, hs, hb⟩ := info_parts info_intsS
  obtain ⟨po, pc, hpv, _⟩ := SlV.ofOwns h.ps
  subst hpv
  have hpw := World.ownsRow.lt hv pb rfl
  have H := Lib.hid h
  have HV := Lib.hid hv
  have n1 : ¬ pb = k.pb := fun e => by have := h.k6; rw [← e] at this; omega
  have n2 : ¬ (Value.slice po P.length pc).ownBlock = some pb := fun e => by have := h.kp pb e; omega
  have HC0 := Lib.hid hc0
  clear h hv hc0
  go_enter Tryz.func37, Tryz.ntmps37
  go_wp2_with fail
  refine (sort_any (l := natsI p) (v := .slice (some ⟨pb, 0, none⟩) p.length cap) (by rw [natsI_len]; exact HV.out) (by rw [natsI_len]; exact hp0) (by rw [natsI_len]; omega)).mono ?_
  rintro e w2 ⟨rfl, hf, ho⟩
  have hf' : Fx (fun x => x = pb) w w2 := hf.mono fun x _ e => by
    have e : pb = x := by simpa [Value.ownBlock] using e
    exact e.symm
  have hpc := hf'.cellF H.out.pc.1 H.out.pc.2 (fun e => n1 e.symm)
  have HF := Lib.hid hf'
  have HO : Hid (w2.ownsRow w0.heap.size 3 1 (.slice (some ⟨pb, 0, none⟩) (srtN p).length cap) (srtN p).length (ints (natsI (srtN p)))) := Lib.hid (by rw [srtN_len, natsI_srtN]; rw [natsI_len] at ho; exact ho)
  have HPs : Hid (w2.ownsRow w0.heap.size 23 1 (.slice po P.length pc) P.length (partVals B C P)) := Lib.hid (ownsRow_fx H.out.ps hf' fun g e q => by have q : g = pb := q; rw [q] at e; exact n2 e)
  have z2 := hf.size
  have zl := H.out.fx.size
  have l6 := (H.out.new k.pb (by rw [H.out.k6]; omega)).2
  clear hf hf' ho
  go_wp2_with (at_builtin; refine wpList_append_kept rfl _ _ 31 rfl w0.heap.size 23 Tryz.underlying31 hi hz hs hb rfl (by decide) rfl (World.ownsRow.alloc HPs.out _) rfl (SlV.lit w2 23 #[.slice (some ⟨pb, 0, none⟩) p.length cap] 1 1 rfl (by unfold maxLen; omega)) (fun u hu => by rw [List.mem_singleton] at hu; subst hu; rfl) (by omega) (by unfold maxLen; omega) (by omega) (by simp; omega) ?_)
  intro v' w3 ho hfx _ hb2
  obtain ⟨g', gc', rfl, _, _⟩ := ownsRow_pos ho (by omega)
  have hA := (Fx.refl No w2).alloc (.cells #[.slice (some ⟨pb, 0, none⟩) p.length cap] 23)
  have n6 : ¬ (Value.slice po P.length pc).ownBlock = some k.pb := fun e => by have := H.out.kp k.pb e; have := H.out.k6; omega
  have hq := hfx.cellF (hA.cellF hpc.1 hpc.2 (fun h => h)).1 (hA.cellF hpc.1 hpc.2 (fun h => h)).2 n6
  have hS := H.out.part (p := srtN p) (pb := pb) (cap := cap) (W := w) (w2 := w2) (w3 := w3) (by rw [srtN_len]; exact hp0) HC0.out hD hpw.1 hpw.2 (Fx.refl _ _) HF.out HO.out hA hfx (by rw [srtN_len]; exact ho) (fun g e => (hb2 g e).imp_right fun q => by simpa using q)
  have HS := Lib.hid hS
  have HFx : Hid (Fx (fun x => col x = 0 ∧ x = pb ∨ 6 ≤ col x ∧ col x ≤ 7) w (w3.setCell ⟨k.pb, 0, none⟩ (.slice (some ⟨g', 0, none⟩) (P.length + 1) gc'))) := Lib.hid (((HF.out.mono fun x _ e => .inl ⟨by have e : x = pb := e; rw [e]; exact HC0.out, e⟩).transNo hA |>.trans' hfx fun j e _ => .inr (by have := H.out.kp j e; omega)).trans' (Fx.put _ _ _ _) fun j e _ => .inr (by have e : j = k.pb := e; have := H.out.k6; rw [← e] at this; omega))
  clear hS hfx ho hb2 hpc hA
  go_wp2
  go_end0
  obtain ⟨col', B', C', h1, h2⟩ := HS.out
  exact ⟨col', B', C', _, rfl, h1, h2, HFx.out⟩
end
#print axioms add_any
end Go.Proofs.YtdoplaijgocboaaGreat

namespace Go.Proofs.YtdoplaijgocboaaGreat
open Go.RowKit
set_option linter.unusedVariables false

section
variable {w0 w w' : World} {k : SP} {col : Nat → Nat} {N : Nat} {L : List Ed} {D S : Nat → Prop} {num low : Nat → Nat} {seen : Nat} {opn : Nat → Bool} {st st' : List Nat} {stv : Value} {P : List (List Nat)} {B C : Nat → Nat} {pv : Value}
set_option maxRecDepth 100000 in
set_option maxHeartbeats 2000000 in
/-- it reaches below -/
theorem end_low (h : SrV w0 w k col N L D num low seen opn st stv P B C pv) {n : Nat} (hn : n < N) (hlt : low n < num n) :
    Calls Tryz.prog 55 #[.pointer (some ⟨k.sb, 0, none⟩), .int .i64 (n : Nat)] w fun e w' => e = .returned (.tuple #[]) ∧ Fx No w w' := by
  have c2 := h.c2
  have c3 := h.c3
  have e1 := (h.num n hn).1
  have e2 := (h.low n hn).1
  have hNN := h.g.nn
  have hn0 : (0 : Int) ≤ (n : Int) := by omega
  have hn1 : (n : Int) < (N : Int) := by omega
  obtain ⟨x, hx⟩ : ∃ x, x = num n := ⟨_, rfl⟩
  obtain ⟨y, hy⟩ : ∃ x, x = low n := ⟨_, rfl⟩
  rw [← hx] at e1 hlt
  rw [← hy] at e2 hlt
  have d1 : decide ((y : Int) < (x : Int)) = true := decide_eq_true (by omega)
  clear h hx hy
  go_enter Tryz.func55, Tryz.ntmps55
  go_wp2_with fail
  go_quiet (fail)
  all_goals
    go_wp2
    (try simp only [Exit.inBlock, Exit.then])
    refine bodyPost_ret (results_none rfl _ _ _) rfl ?_
    exact ⟨rfl, (Fx.refl No w).drewN _⟩
/-- a part of the stack is taken away -/
theorem ints_drop {A p : List Nat} {w : World} {E : Nat → Prop} {g cap : Nat} (h : IntsV w E (.slice (some ⟨g, 0, none⟩) (A ++ p).length cap) (natsI (A ++ p))) (hp : 0 < p.length) : IntsV w E (.slice (some ⟨g, A.length, none⟩) p.length (cap - A.length)) (natsI p) := by
  obtain ⟨ao, c, e1, h2, h3, h4, h5, h6⟩ := h
  simp only [Value.slice.injEq] at e1
  obtain ⟨rfl, _, rfl⟩ := e1
  rw [natsI_len, List.length_append] at h2
  refine ⟨some ⟨g, A.length, none⟩, cap - A.length, by rw [natsI_len], by rw [natsI_len]; omega, by omega, by simp [ints], by simp, ?_⟩
  obtain ⟨b, o, e7, h8, h9⟩ := h6.addr (by simp [ints, natsI_len]; omega)
  simp only [Option.some.injEq, Addr.mk.injEq] at e7
  obtain ⟨rfl, rfl, _⟩ := e7
  refine .inr ⟨g, A.length, rfl, h8, fun i hi => ?_⟩
  have hi' : i < p.length := by simpa [ints, natsI] using hi
  have := h9 (A.length + i) (by simp [ints, natsI_len]; omega)
  rw [Nat.zero_add] at this
  rw [this]
  simp [ints, natsI, List.getD, List.getElem?_append_right]
theorem stI (h : SrV w0 w k col N L D num low seen opn st stv P B C pv) : IntsV w (Iv w0.heap.size w.heap.size) stv (natsI st) := by
  unfold IntsV
  rw [natsI_len]
  exact SlV.ofOwns h.st
def clrN (p : List Nat) (m : Nat) (opn : Nat → Bool) : Nat → Bool := fun j => if j ∈ p.take m then false else opn j
theorem clrN_succ {p : List Nat} {m : Nat} (hm : m < p.length) (opn : Nat → Bool) : (fun j => if j = p[m] then false else clrN p m opn j) = clrN p (m + 1) opn := by
  funext j
  have hmem : j ∈ p.take (m + 1) ↔ j ∈ p.take m ∨ j = p[m] := by rw [List.take_succ_eq_append_getElem hm, List.mem_append, List.mem_singleton]
  unfold clrN
  by_cases e : j = p[m]
  · rw [if_pos e, if_pos (hmem.2 (.inr e))]
  · rw [if_neg e]
    by_cases e2 : j ∈ p.take m
    · rw [if_pos e2, if_pos (hmem.2 (.inl e2))]
    · rw [if_neg e2, if_neg (fun q => (hmem.1 q).elim e2 e)]
set_option maxRecDepth 100000 in
set_option maxHeartbeats 4000000 in
/-- it is the first one of its component to be seen -/
theorem end_part {A p : List Nat} (h : SrV w0 w k col N L D num low seen opn (A ++ p) stv P B C pv) {n : Nat} (hn : n < N) (hge : num n ≤ low n) (hp : p.head? = some n) (hnA : n ∉ A) (hlN : ∀ v ∈ p, v < N) (hl : (A ++ p).length ≤ 70000) (hPl : P.length ≤ 70000) :
    Calls Tryz.prog 55 #[.pointer (some ⟨k.sb, 0, none⟩), .int .i64 (n : Nat)] w fun e w' => ∃ (col' B' C' : Nat → Nat) (stv' pv' : Value), e = .returned (.tuple #[]) ∧
      SrV w0 w' k col' N L D num low seen (clrN p p.length opn) A stv' (P ++ [srtN p]) B' C' pv' ∧ (∀ x, x < w.heap.size → col' x = col x) ∧ Fx (fun x => 1 ≤ col x ∧ col x ≤ 7) w w' := by
  have hp0 : 0 < p.length := by
    cases p with
    | nil => simp at hp
    | cons a l => simp
  have c2 := h.c2
  have c3 := h.c3
  have e1 := (h.num n hn).1
  have e2 := (h.low n hn).1
  have hNN := h.g.nn
  have hn0 : (0 : Int) ≤ (n : Int) := by omega
  have hn1 : (n : Int) < (N : Int) := by omega
  obtain ⟨x, hx⟩ : ∃ x, x = num n := ⟨_, rfl⟩
  obtain ⟨y, hy⟩ : ∃ x, x = low n := ⟨_, rfl⟩
  rw [← hx] at e1 hge
  rw [← hy] at e2 hge
  have d1 : decide ((y : Int) < (x : Int)) = false := decide_eq_false (by omega)
  have d2 : decide (y < x) = false := decide_eq_false (by omega)
  have H := Lib.hid h
  have HNA := Lib.hid hnA
  have HHd := Lib.hid hp
  have HLN := Lib.hid hlN
  obtain ⟨sg, scap, hsv, _, _⟩ := ownsRow_pos h.st (by rw [List.length_append]; omega)
  obtain ⟨T, hT⟩ : ∃ T, T = (A ++ p).length := ⟨_, rfl⟩
  obtain ⟨a, ha⟩ : ∃ a, a = A.length := ⟨_, rfl⟩
  obtain ⟨m, hm⟩ : ∃ m, m = p.length := ⟨_, rfl⟩
  have hTam : T = a + m := by rw [hT, List.length_append, ha, hm]
  have hT1 : a + m ≤ T := by omega
  have hT2 : T ≤ a + m := by omega
  have hm0 : 0 < m := by omega
  have hT7 : T ≤ 70000 := by omega
  have HT := Lib.hid hT
  have HA := Lib.hid ha
  have HM := Lib.hid hm
  rw [← hT] at hsv
  subst hsv
  have hTc : T ≤ scap := by
    obtain ⟨_, cp, e, hle, _⟩ := SlV.ofOwns h.st
    simp only [Value.slice.injEq] at e
    rw [e.2.2, hT]; exact hle
  have hac : ¬ a = scap := by omega
  have hca : ¬ scap = a := by omega
  clear h hx hy hnA hp hlN hT ha hm hTam hl hp0
  go_enter Tryz.func55, Tryz.ntmps55
  go_wp2_with fail
  go_quiet (fail)
  all_goals
    refine q_hold (fun W => Fx No w W) ((Fx.refl No w).drewN _) ?_
    rintro w1 hf1
    have H1 := Lib.hid (H.out.no hf1)
    have HF1 := Lib.hid hf1
    have c4 := H1.out.c4.1
    clear c2 c3 e1 e2 d1 d2 hf1
    have HNe : Hid (gi (natsI (A ++ p)) A.length = (n : Nat)) := Lib.hid (by
      obtain ⟨l, rfl⟩ : ∃ l, p = n :: l := by
        cases p with
        | nil => have := HHd.out; simp at this
        | cons a l => have := HHd.out; simp at this; exact ⟨l, by rw [this]⟩
      simp [gi, natsI])
    go_wp2_with fail
    have HIx := index_any (stI H1.out) (a := A.length) (by rw [natsI_len, ← HT.out, ← HA.out]; omega) (fun j hj e => by
      rw [HNe.out] at e
      rw [gi_natsI (l := A ++ p) (k := j) (by rw [List.length_append]; omega), List.getElem_append_left hj] at e
      exact HNA.out (by have : A[j] = n := by omega
                        rw [← this]; exact List.getElem_mem hj))
    rw [HNe.out, ← HA.out] at HIx
    refine HIx.mono ?_
    clear HIx
    rintro e w2 ⟨rfl, hf2⟩
    have H2 := Lib.hid (H1.out.no hf2)
    have HF2 := Lib.hid (HF1.out.trans hf2)
    have c4 := H2.out.c4.1
    have hsl0 : (0 : Int) ≤ (a : Int) := by omega
    have hsl1 : (a : Int) ≤ (T : Int) := by omega
    have hTa : T - a = m := by omega
    have HSl : Hid (IntsV w2 (Iv w0.heap.size w2.heap.size) (.slice (some ⟨sg, a, none⟩) (T - a) (scap - a)) (natsI p)) := Lib.hid (by
      have q := stI H2.out
      rw [HT.out] at q
      have q2 := ints_drop q (by rw [← HM.out]; exact hm0)
      rw [← HA.out, ← HM.out] at q2
      rw [hTa]; exact q2)
    clear hf2 hTa
    go_wp2_with fail
    refine (cloneI_any HSl.out (by rw [natsI_len, ← HM.out]; exact hm0) (by rw [natsI_len, ← HM.out]; omega)).mono ?_
    rintro e w3 ⟨v3, rfl, hf3, ho3⟩
    rw [natsI_len, ← HM.out] at ho3
    obtain ⟨pb, pcap, rfl, hpb1, hpb2⟩ := ownsRow_pos ho3 hm0
    have H3 := Lib.hid (H2.out.no hf3)
    have HF3 := Lib.hid (HF2.out.trans hf3)
    have HO3 := Lib.hid ho3
    have c4 := H3.out.c4
    have z3 := HF2.out.size
    have z32 := hf3.size
    have hs4 := H3.out.stack (st' := A) (W := w3) (w2 := w3) (v' := .slice (some ⟨sg, 0, none⟩) a scap) (Fx.refl _ _) (Fx.refl _ _) (by
      have q := H3.out.st
      rw [← HT.out] at q
      have q2 := ownsRow_take (m := a) q (by omega)
      have e : (ints (natsI (A ++ p))).take (a * 1) = ints (natsI A) := by
        rw [natsI_app]
        unfold ints
        rw [List.map_append, Nat.mul_one, List.take_left' (by rw [List.length_map, natsI_len, ← HA.out])]
      rw [e] at q2
      rw [← HA.out]; exact q2) (fun g e => .inl (by simpa [Value.ownBlock] using e))
    have HS4 := Lib.hid hs4
    clear hf3 ho3 hs4 HSl c4
    have c4 := H3.out.c4.1
    have c4' := H3.out.c4.2
    go_wp2
    obtain ⟨col2, h4, hcl, hcn⟩ := HS4.out
    have HCl := Lib.hid hcl
    obtain ⟨w4, hw4⟩ : ∃ W, W = w3.setCell ⟨k.sb, 4, none⟩ (.slice (some ⟨sg, 0, none⟩) a scap) := ⟨_, rfl⟩
    rw [← hw4] at h4 ⊢
    have HF4 : Hid (Fx (fun x => 1 ≤ col x ∧ col x ≤ 7) w w4) := Lib.hid (by
      rw [hw4]
      exact HF3.out.no.trans' (Fx.put _ _ _ _) fun j e hl => by have e : j = k.sb := e; have := H.out.k1; rw [← e] at this; omega)
    have hpw : pb < w4.heap.size := by rw [hw4]; simp [World.setCell]; exact hpb2
    have l1 := (H.out.new k.sb (by rw [H.out.k1]; omega)).2
    have HO4 : Hid (w4.ownsRow w2.heap.size 3 1 (.slice (some ⟨pb, 0, none⟩) m pcap) m (ints (natsI p))) := Lib.hid (by
      rw [hw4]
      exact ownsRow_fx HO3.out (Fx.put _ _ _ _) fun g e e2 => by
        have e : pb = g := by simpa [Value.ownBlock] using e
        have e2 : g = k.sb := e2
        omega)
    have hcp0 : col pb = 0 := by
      apply Classical.byContradiction
      intro q
      have := (H.out.new pb q).2; omega
    have hcp : col2 pb = 0 := by rw [HCl.out pb hpb2]; exact hcp0
    have nob : ¬ pb = k.ob := fun e => by have := h4.k4; rw [← e] at this; omega
    have H4 := Lib.hid h4
    have HO4c : Hid (∀ q, q < m → w4.cell? ⟨pb, 0 + q, none⟩ = some (.int .i64 (gi (natsI p) q))) := Lib.hid fun q hq => by
      have q1 := HO4.out.cells (g := pb) rfl q (.int .i64 (gi (natsI p) q)) (by simp [ints, natsI, gi, show q < p.length by rw [← HM.out]; exact hq])
      rw [Addr.add_lit] at q1; exact q1
    have HZ : Hid (w.heap.size ≤ pb ∧ w0.heap.size ≤ w2.heap.size) := Lib.hid ⟨by omega, by have := H.out.fx.size; omega⟩
    have hw3 : w.heap.size ≤ w3.heap.size := by omega
    clear h4 hcl hcn HS4 hw4 H3 HF3 HO3 c4 c4' z3 z32 l1 hpb1 hpb2
    go_loopw [7, 47] (fun _ i ws => ∃ q : Nat, i = .int .i64 q ∧ q ≤ m ∧ Fx (fun x => x = k.ob) w4 ws ∧ SrV w0 ws k col2 N L D num low seen (clrN p q opn) A (.slice (some ⟨sg, 0, none⟩) a scap) P B C pv) (fun _ i _ => m - (intOf i).toNat)
    case atStart => exact ⟨0, rfl, Nat.zero_le _, Fx.refl _ _, by rw [show clrN p 0 opn = opn from funext fun j => by simp [clrN]]; exact H4.out⟩
    case round =>
      obtain ⟨q, rfl, hq, hf5, h5⟩ := hrel
      have HF5 := Lib.hid hf5
      have H5 := Lib.hid h5
      by_cases hqm : q < m
      · have dq : decide ((q : Int) < (m : Int)) = true := decide_eq_true (by omega)
        have hq0 : (0 : Int) ≤ (q : Int) := by omega
        have hq1 : (q : Int) < (m : Int) := by omega
        have hqp : q < p.length := by rw [← HM.out]; exact hqm
        have cq := hf5.cell' (HO4c.out q hqm) nob
        rw [gi_natsI hqp, Nat.zero_add] at cq
        have hcs := clrN_succ hqp opn
        have hvN := HLN.out _ (List.getElem_mem hqp)
        obtain ⟨x, hx⟩ : ∃ x, x = p[q] := ⟨_, rfl⟩
        rw [← hx] at cq hcs hvN
        have c5 := h5.c5
        have co := h5.opn x hvN
        have hx0 : (0 : Int) ≤ (x : Int) := by omega
        have hx1 : (x : Int) < (N : Int) := by omega
        have HS6 := Lib.hid (h5.putOpn hvN false)
        have HCs := Lib.hid hcs
        have HF6 : Hid (Fx (fun x => x = k.ob) w4 (wr.setCell ⟨k.ob, x, none⟩ (.bool false))) := Lib.hid (hf5.trans (Fx.put _ _ _ _))
        clear hf5 h5 hx hcs
        go_wp2
        go_roundw
        case rel => exact ⟨q + 1, by go_num, by omega, HF6.out, by rw [← HCs.out]; exact HS6.out⟩
        case measure => simp [intOf]; omega
      · obtain rfl : q = m := by omega
        have dq : decide ((q : Int) < (q : Int)) = false := decide_eq_false (by omega)
        have dq2 : decide (q < q) = false := decide_eq_false (by omega)
        have c6 := h5.c6
        have hvr : wr.ownsRow w0.heap.size 3 1 (.slice (some ⟨pb, 0, none⟩) p.length pcap) p.length (ints (natsI p)) := by
          rw [← HM.out]
          exact ownsRow_fx (ownsRow_base HO4.out HZ.out.2) hf5 fun g e e2 => by
            have e : pb = g := by simpa [Value.ownBlock] using e
            rw [← e] at e2; exact nob e2
        have CA := add_any h5 hvr (by rw [← HM.out]; exact hm0) (by rw [← HM.out]; omega) hPl hcp (fun q => by have := H.out.g.lt pb q; have := HZ.out.1; omega)
        rw [← HM.out] at CA
        have HCA := Lib.hid CA
        have HF7 : Hid (Fx (fun x => 1 ≤ col x ∧ col x ≤ 7) w wr) := Lib.hid (HF4.out.trans' hf5 fun j e hl => by have e : j = k.ob := e; have := H.out.k4; rw [← e] at this; omega)
        have z7 := HF7.out.size
        clear hf5 h5 hvr CA
        go_wp2_with fail
        refine HCA.out.mono ?_
        rintro e w8 ⟨col8, B8, C8, pv8, rfl, h8, hc8, hf8⟩
        have H8 := Lib.hid h8
        have HF8 : Hid (Fx (fun x => 1 ≤ col x ∧ col x ≤ 7) w w8) := Lib.hid (HF7.out.trans' hf8 fun j e hl => by
          have e9 : col2 j = col j := HCl.out j (by omega)
          rcases e with ⟨_, e⟩ | e
          · have := HZ.out.1; omega
          · omega)
        have HC8 : Hid (∀ x, x < w.heap.size → col8 x = col x) := Lib.hid fun x hx => by
          rw [hc8 x (by omega) (fun e => by have := HZ.out.1; omega)]
          exact HCl.out x (by omega)
        clear h8 hc8 hf8
        go_wp2
        go_end0
        exact ⟨col8, B8, C8, _, pv8, rfl, by rw [← HM.out]; exact H8.out, HC8.out, HF8.out⟩
end
#print axioms end_low
#print axioms end_part
end Go.Proofs.YtdoplaijgocboaaGreat

namespace Go.Proofs.YtdoplaijgocboaaGreat
open Go.RowKit
set_option linter.unusedVariables false

/-- a graph's edges between nodes -/
def EG (L : List Ed) (i j : Nat) : Prop := ∃ e ∈ L, e.f = (i : Int) ∧ e.t = (j : Int)
theorem EG_lt {L : List Ed} {N i j : Nat} (hL : ∀ x ∈ L, (0 ≤ x.f ∧ x.f < (N : Int)) ∧ 0 ≤ x.t ∧ x.t < (N : Int)) (h : EG L i j) : i < N ∧ j < N := by
  obtain ⟨e, he, h1, h2⟩ := h
  have := hL e he
  omega
theorem compTo_mem {l : List Int} {z : Int} : ∀ {a : Nat}, a ≤ l.length → (∃ q, q < a ∧ gi l q = z) → z ∈ compTo l a
  | 0, _, ⟨q, hq, _⟩ => by omega
  | a + 1, ha, ⟨q, hq, e⟩ => by
    rw [compTo, List.mem_append]
    by_cases hqa : q < a
    · exact .inl (compTo_mem (by omega) ⟨q, hqa, e⟩)
    · obtain rfl : q = a := by omega
      by_cases h : q = 0 ∨ gi l q ≠ gi l (q - 1)
      · right; rw [if_pos h, e]; simp
      · left
        have h0 : 0 < q := Nat.pos_of_ne_zero fun e => h (.inl e)
        have h1 : gi l q = gi l (q - 1) := Classical.byContradiction fun e => h (.inr e)
        exact compTo_mem (by omega) ⟨q - 1, by omega, by rw [← h1]; exact e⟩
theorem mem_nxN {L : List Ed} {N n j : Nat} (hL : ∀ x ∈ L, (0 ≤ x.f ∧ x.f < (N : Int)) ∧ 0 ≤ x.t ∧ x.t < (N : Int)) (hn : n < N) : j ∈ nxN L N n ↔ EG L n j := by
  have h1 : j ∈ nxN L N n ↔ (j : Int) ∈ natsI (nxN L N n) := by
    unfold natsI
    rw [List.mem_map]
    constructor
    · intro h; exact ⟨j, h, rfl⟩
    · rintro ⟨i, h, e⟩; rw [show j = i by omega]; exact h
  rw [h1, natsI_nxN hL]
  unfold comp
  constructor
  · intro h
    have := compTo_sub (Nat.le_refl _) _ h
    obtain ⟨e, he, h2⟩ := List.mem_map.1 this
    unfold rowI at he
    rw [if_pos ⟨by omega, by omega⟩, Int.toNat_natCast, mem_outE] at he
    exact ⟨e, he.1, he.2, h2⟩
  · rintro ⟨e, he, h2, h3⟩
    have hm : (j : Int) ∈ (rowI (outE L) N (n : Int)).map (·.t) := by
      refine List.mem_map.2 ⟨e, ?_, h3⟩
      unfold rowI
      rw [if_pos ⟨by omega, by omega⟩, Int.toNat_natCast, mem_outE]
      exact ⟨he, h2⟩
    obtain ⟨q, hq, e2⟩ := List.getElem_of_mem hm
    exact compTo_mem (Nat.le_refl _) ⟨q, hq, by simp only [gi, List.getD, List.getElem?_eq_getElem hq, Option.getD_some]; exact e2⟩
/-- the components that were found -/
def clP (P : List (List Nat)) (v : Nat) : Prop := ∃ p ∈ P, v ∈ p
structure PtOk (E : Nat → Nat → Prop) (P : List (List Nat)) : Prop where
  ok : ∀ p ∈ P, p ≠ [] ∧ p.Pairwise (fun x y => x < y) ∧ ∀ u ∈ p, ∀ v, v ∈ p ↔ Sm E u v
  dj : P.Pairwise fun p q => ∀ u ∈ p, u ∉ q
theorem PtOk.snoc {E : Nat → Nat → Prop} {P : List (List Nat)} (h : PtOk E P) {p : List Nat} (hp : p ≠ []) (hnd : p.Nodup) (hc : ∀ u ∈ p, ∀ v, v ∈ p ↔ Sm E u v) (hd : ∀ u ∈ p, ¬ clP P u) : PtOk E (P ++ [srtN p]) := by
  have hm : ∀ v, v ∈ srtN p ↔ v ∈ p := fun v => (srtN_perm p).mem_iff
  refine ⟨fun q hq => ?_, List.pairwise_append.2 ⟨h.dj, by simp, fun a ha b hb u hu hub => ?_⟩⟩
  · rcases List.mem_append.1 hq with hq | hq
    · exact h.ok q hq
    · rw [List.mem_singleton] at hq
      subst hq
      refine ⟨fun e => hp ?_, srtN_asc hnd, fun u hu v => by rw [hm]; exact hc u ((hm u).1 hu) v⟩
      have := srtN_len p
      rw [e] at this
      exact List.eq_nil_of_length_eq_zero this.symm
  · rw [List.mem_singleton] at hb
    subst hb
    exact hd u ((hm u).1 hub) ⟨a, ha, hu⟩
theorem clP_snoc {P : List (List Nat)} {p : List Nat} {v : Nat} : clP (P ++ [srtN p]) v ↔ clP P v ∨ v ∈ p := by
  unfold clP
  simp only [List.mem_append, List.mem_singleton]
  constructor
  · rintro ⟨q, hq | hq, hv⟩
    · exact .inl ⟨q, hq, hv⟩
    · subst hq; exact .inr ((srtN_perm p).mem_iff.1 hv)
  · rintro (⟨q, hq, hv⟩ | hv)
    · exact ⟨q, .inl hq, hv⟩
    · exact ⟨_, .inr rfl, (srtN_perm p).mem_iff.2 hv⟩
theorem Tj.congrCl {E : Nat → Nat → Prop} {N seen : Nat} {num low : Nat → Nat} {cl cl' : Nat → Prop} {Fs : List Fr} (h : Tj E N num low seen cl Fs) (hc : ∀ v, cl v ↔ cl' v) : Tj E N num low seen cl' Fs := by
  have : cl = cl' := funext fun v => propext (hc v)
  subst this; exact h
/-- how many nodes were not seen -/
def unseen (N : Nat) (num : Nat → Nat) : Nat := (List.range N).countP fun v => decide (num v = 0)
theorem unseen_put {N n s : Nat} {num : Nat → Nat} (hn : n < N) (h0 : num n = 0) (hs : 0 < s) : unseen N (fun j => if j = n then s else num j) < unseen N num := by
  unfold unseen
  have key : ∀ l : List Nat, l.countP (fun v => decide ((if v = n then s else num v) = 0)) ≤ l.countP (fun v => decide (num v = 0)) ∧ (n ∈ l → l.countP (fun v => decide ((if v = n then s else num v) = 0)) < l.countP (fun v => decide (num v = 0))) := by
    intro l
    induction l with
    | nil => simp
    | cons x l ih =>
      by_cases e : x = n
      · subst e
        have h1 : decide ((if x = x then s else num x) = 0) = false := by rw [if_pos rfl]; exact decide_eq_false (by omega)
        rw [List.countP_cons_of_neg (by simp [h1]; omega), List.countP_cons_of_pos (by simp [h0])]
        have := ih.1
        exact ⟨by omega, fun _ => by omega⟩
      · by_cases hx : num x = 0
        · rw [List.countP_cons_of_pos (by simp [e, hx]), List.countP_cons_of_pos (by simp [hx])]
          refine ⟨by have := ih.1; omega, fun hm => ?_⟩
          rcases List.mem_cons.1 hm with q | q
          · exact absurd q.symm e
          · have := ih.2 q; omega
        · rw [List.countP_cons_of_neg (by simp [e, hx]), List.countP_cons_of_neg (by simp [hx])]
          refine ⟨ih.1, fun hm => ?_⟩
          rcases List.mem_cons.1 hm with q | q
          · exact absurd q.symm e
          · exact ih.2 q
  exact (key _).2 (List.mem_range.2 hn)
theorem stk_len {E : Nat → Nat → Prop} {N seen : Nat} {num low : Nat → Nat} {cl : Nat → Prop} {Fs : List Fr} (h : Tj E N num low seen cl Fs) : (stk Fs).Nodup ∧ (stk Fs).length ≤ N := by
  have hnd : (stk Fs).Nodup := h.asc.imp fun {a b} q e => by subst e; omega
  refine ⟨hnd, ?_⟩
  have := hnd.length_le_of_subset (l₂ := List.range N) (fun v hv => List.mem_range.2 (h.lt v hv))
  simpa using this
/-! the row of frames -/
def wcells : List Fr → List Value → List Value
  | F :: Fs, v :: vs => wcells Fs vs ++ [.int .i64 (F.n : Nat), v]
  | _, _ => []
def NxV (w : World) (col : Nat → Nat) : List Fr → List Value → Prop
  | [], [] => True
  | F :: Fs, v :: vs => IntsV w (fun x => col x = 10) v (natsI F.nx) ∧ NxV w col Fs vs
  | _, _ => False
structure WayV (w0 w : World) (col : Nat → Nat) (wv : Value) (Fs : List Fr) (vs : List Value) : Prop where
  own : w.ownsRow w0.heap.size 99 2 wv Fs.length (wcells Fs vs)
  col9 : ∀ g, wv.ownBlock = some g → col g = 9
  nx : NxV w col Fs vs
section
variable {w0 w w' : World} {col col' : Nat → Nat} {wv : Value} {Fs : List Fr} {vs : List Value} {S : Nat → Prop}
theorem NxV.keep : ∀ {Fs : List Fr} {vs : List Value}, NxV w col Fs vs → Fx S w w' → (∀ x, col x = 10 → ¬ S x) → NxV w' col Fs vs
  | [], [], _, _, _ => trivial
  | F :: Fs, v :: vs, h, hf, hS => ⟨IntsV.keep h.1 hf hS, h.2.keep hf hS⟩
  | [], _ :: _, h, _, _ => h.elim
  | _ :: _, [], h, _, _ => h.elim
theorem NxV.recol : ∀ {Fs : List Fr} {vs : List Value}, NxV w col Fs vs → (∀ x, x < w.heap.size → col x = 10 → col' x = 10) → NxV w col' Fs vs
  | [], [], _, _ => trivial
  | F :: Fs, v :: vs, h, hc => ⟨(SlV.bound h.1).mono fun x hx => hc x hx.2 hx.1, h.2.recol hc⟩
  | [], _ :: _, h, _ => h.elim
  | _ :: _, [], h, _ => h.elim
theorem NxV.len : ∀ {Fs : List Fr} {vs : List Value}, NxV w col Fs vs → vs.length = Fs.length
  | [], [], _ => rfl
  | F :: Fs, v :: vs, h => by simp [h.2.len]
  | [], _ :: _, h => h.elim
  | _ :: _, [], h => h.elim
theorem wcells_len : ∀ {Fs : List Fr} {vs : List Value}, vs.length = Fs.length → (wcells Fs vs).length = Fs.length * 2
  | [], [], _ => rfl
  | F :: Fs, v :: vs, h => by rw [wcells, List.length_append, wcells_len (by simpa using h)]; simp; omega
  | [], _ :: _, h => by simp at h
  | _ :: _, [], h => by simp at h
theorem WayV.keep (h : WayV w0 w col wv Fs vs) (hf : Fx S w w') (hS : ∀ x, S x → x < w.heap.size → col x < 9) : WayV w0 w' col wv Fs vs :=
  ⟨ownsRow_fx h.own (S := fun x => S x ∧ x < w.heap.size) (hf.mono fun x hx hs => ⟨hs, hx⟩) fun g e hs => by have := hS g hs.1 hs.2; have := h.col9 g e; omega, h.col9,
   h.nx.keep (S := fun x => S x ∧ x < w.heap.size) (hf.mono fun x hx hs => ⟨hs, hx⟩) fun x e hs => by have := hS x hs.1 hs.2; omega⟩
theorem WayV.no (h : WayV w0 w col wv Fs vs) (hf : Fx No w w') : WayV w0 w' col wv Fs vs := h.keep hf fun x hx => hx.elim
theorem WayV.recol (h : WayV w0 w col wv Fs vs) (hc : ∀ x, x < w.heap.size → col' x = col x) : WayV w0 w col' wv Fs vs :=
  ⟨h.own, fun g e => by rw [hc g (World.ownsRow.lt h.own g e).2]; exact h.col9 g e, h.nx.recol fun x hx e => by rw [hc x hx]; exact e⟩
/-- the top frame's cells -/
theorem WayV.top {F : Fr} {Fs : List Fr} (h : WayV w0 w col wv (F :: Fs) vs) : ∃ g cap v vs', wv = .slice (some ⟨g, 0, none⟩) (Fs.length + 1) cap ∧ vs = v :: vs' ∧ col g = 9 ∧ g < w.heap.size ∧ w0.heap.size ≤ g ∧ Fs.length + 1 ≤ cap ∧
    w.cell? ⟨g, Fs.length * 2, none⟩ = some (.int .i64 (F.n : Nat)) ∧ w.cell? ⟨g, Fs.length * 2 + 1, none⟩ = some v ∧ w.frozen? ⟨g, Fs.length * 2 + 1, none⟩ = false ∧ IntsV w (fun x => col x = 10) v (natsI F.nx) := by
  obtain ⟨g, cap, hv, hb, hg⟩ := ownsRow_pos h.own (by simp)
  rw [List.length_cons] at hv
  subst hv
  have hnx := h.nx
  cases vs with
  | nil => exact hnx.elim
  | cons v vs' =>
    have hl := wcells_len hnx.2.len
    have hle : Fs.length + 1 ≤ cap := by
      obtain ⟨_, cp, e, hle, _⟩ := SlV.ofOwns h.own
      simp only [Value.slice.injEq] at e
      rw [e.2.2]; simpa using hle
    refine ⟨g, cap, v, vs', rfl, rfl, h.col9 g rfl, hg, hb, hle, ?_, ?_, World.ownsRow.frozenAt h.own _, hnx.1⟩
    · have := World.ownsRow.cellAt h.own (Fs.length * 2) (by omega)
      rw [this, wcells, List.getElem?_append_right (by omega), hl]; simp
    · have := World.ownsRow.cellAt h.own (Fs.length * 2 + 1) (by omega)
      rw [this, wcells, List.getElem?_append_right (by omega), hl]; simp
/-- what is still to be looked at is written -/
theorem WayV.put {F : Fr} {g cap : Nat} {v : Value} (h : WayV w0 w col (.slice (some ⟨g, 0, none⟩) (Fs.length + 1) cap) (F :: Fs) (v :: vs)) {v' : Value} {nx' : List Nat} (hv : IntsV w (fun x => col x = 10) v' (natsI nx')) :
    WayV w0 (w.setCell ⟨g, Fs.length * 2 + 1, none⟩ v') col (.slice (some ⟨g, 0, none⟩) (Fs.length + 1) cap) (⟨F.n, nx', F.sg⟩ :: Fs) (v' :: vs) := by
  have hl := wcells_len h.nx.2.len
  have hs := (World.ownsRow.stored h.own (Fs.length * 2 + 1) v').1
  have hf : Fx (fun x => x = g) w (w.setCell ⟨g, Fs.length * 2 + 1, none⟩ v') := Fx.put _ _ _ _
  have hg := h.col9 g rfl
  have hn : ∀ x, col x = 10 → ¬ x = g := fun x e q => by rw [q] at e; omega
  refine ⟨?_, h.col9, IntsV.keep hv hf hn, h.nx.2.keep hf hn⟩
  have e : (wcells (F :: Fs) (v :: vs)).set (Fs.length * 2 + 1) v' = wcells (⟨F.n, nx', F.sg⟩ :: Fs) (v' :: vs) := by
    rw [wcells, wcells, List.set_append, if_neg (by omega), hl]
    simp
  rw [← e]
  exact hs
/-- the top frame is taken away -/
theorem WayV.pop {F : Fr} {g cap : Nat} {v : Value} (h : WayV w0 w col (.slice (some ⟨g, 0, none⟩) (Fs.length + 1) cap) (F :: Fs) (v :: vs)) : WayV w0 w col (.slice (some ⟨g, 0, none⟩) Fs.length cap) Fs vs := by
  have hl := wcells_len h.nx.2.len
  refine ⟨?_, fun g e => h.col9 g (by simpa [Value.ownBlock] using e), h.nx.2⟩
  have := ownsRow_take (m := Fs.length) h.own (by simp)
  rwa [wcells, ← hl, List.take_left] at this
/-- other segments -/
theorem WayV.seg {F : Fr} {Fs : List Fr} (h : WayV w0 w col wv (F :: Fs) vs) (sg : List Nat) : WayV w0 w col wv (⟨F.n, F.nx, sg⟩ :: Fs) vs := by
  cases vs with
  | nil => exact h.nx.elim
  | cons v vs => exact ⟨h.own, h.col9, h.nx⟩
/-- a frame more -/
theorem WayV.push (h : WayV w0 w col wv Fs vs) {k : Nat} {v v' : Value} {nx : List Nat} {W w2 : World} (hv : IntsV w (fun x => col x = 10) v (natsI nx)) (hW : Fx No w W) (hfx : Fx (fun g => wv.ownBlock = some g) W w2) (ho : w2.ownsRow w0.heap.size 99 2 v' (Fs.length + 1) (wcells Fs vs ++ [.int .i64 (k : Nat), v]))
    (hb2 : ∀ g, v'.ownBlock = some g → wv.ownBlock = some g ∨ W.heap.size ≤ g) (h0 : ∀ x, col x ≠ 0 → x < w.heap.size) :
    ∃ col' : Nat → Nat, WayV w0 w2 col' v' (⟨k, nx, []⟩ :: Fs) (v :: vs) ∧ (∀ x, x < W.heap.size → col' x = col x) ∧ ∀ x, W.heap.size ≤ x → col' x ≠ 0 → w0.heap.size ≤ x ∧ x < w2.heap.size := by
  obtain ⟨col', hcol⟩ : ∃ col' : Nat → Nat, ∀ x, col' x = if v'.ownBlock = some x ∧ W.heap.size ≤ x then 9 else col x := ⟨fun x => if v'.ownBlock = some x ∧ W.heap.size ≤ x then 9 else col x, fun _ => rfl⟩
  have zW := hW.size
  have hlow : ∀ x, x < W.heap.size → col' x = col x := fun x hx => by rw [hcol, if_neg (by omega)]
  have hn : ∀ x, col x = 10 → ¬ wv.ownBlock = some x := fun x e q => by have := h.col9 x q; omega
  have hk : ∀ x, x < w2.heap.size → col x = 10 → col' x = 10 := fun x _ e => by rw [hlow x (by have := h0 x (by omega); omega)]; exact e
  refine ⟨col', ⟨ho, fun g e => ?_, ?_, ?_⟩, hlow, fun x hx q => ?_⟩
  · rcases hb2 g e with q | q
    · rw [hlow g (by have := (World.ownsRow.lt h.own g q).2; omega)]; exact h.col9 g q
    · rw [hcol, if_pos ⟨e, q⟩]
  · exact (SlV.bound (IntsV.keep (IntsV.keep hv hW No.disj) hfx hn)).mono fun x hx => hk x hx.2 hx.1
  · exact ((h.nx.keep hW fun _ _ q => q).keep hfx hn).recol hk
  · rw [hcol] at q
    split at q
    · rename_i q2; exact World.ownsRow.lt ho x q2.1
    · have := h0 x q; omega
end
#print axioms WayV.push
#print axioms unseen_put
#print axioms mem_nxN
end Go.Proofs.YtdoplaijgocboaaGreat

namespace Go.Proofs.YtdoplaijgocboaaGreat
open Go.RowKit
set_option linter.unusedVariables false

structure FrSt (w0 : World) (k : SP) (N : Nat) (L : List Ed) (D : Nat → Prop) (num0 : Nat → Nat) (w : World) (wv : Value) (Fs : List Fr) (col num low : Nat → Nat) (seen : Nat) (opn : Nat → Bool) (stv : Value) (P : List (List Nat)) (B C : Nat → Nat) (pv : Value) (vs : List Value) : Prop where
  s : SrV w0 w k col N L D num low seen opn (stk Fs) stv P B C pv
  y : WayV w0 w col wv Fs vs
  t : Tj (EG L) N num low seen (clP P) Fs
  o : ∀ v, v < N → (opn v = true ↔ v ∈ stk Fs)
  p : PtOk (EG L) P
  m : ∀ v, num0 v ≠ 0 → num v ≠ 0
  c : seen + unseen N num ≤ N
  e : ∀ F ∈ Fs, ∀ y ∈ F.nx, EG L F.n y
theorem ptLen {E : Nat → Nat → Prop} {N : Nat} {P : List (List Nat)} (h : PtOk E P) (hN : ∀ v, clP P v → v < N) : P.length ≤ N := by
  have hnd : (P.map fun p => p.headD 0).Nodup := by
    unfold List.Nodup
    rw [List.pairwise_map]
    refine (List.Pairwise.imp_of_mem (fun {a b} ha hb hab e => ?_) h.dj)
    have h1 : a.headD 0 ∈ a := by
      have := (h.ok a ha).1
      cases a with
      | nil => exact absurd rfl this
      | cons x l => simp
    have h2 : b.headD 0 ∈ b := by
      have := (h.ok b hb).1
      cases b with
      | nil => exact absurd rfl this
      | cons x l => simp
    exact hab _ h1 (by rw [e]; exact h2)
  have := hnd.length_le_of_subset (l₂ := List.range N) (fun v hv => by
    obtain ⟨p, hp, rfl⟩ := List.mem_map.1 hv
    refine List.mem_range.2 (hN _ ⟨p, hp, ?_⟩)
    have := (h.ok p hp).1
    cases p with
    | nil => exact absurd rfl this
    | cons x l => simp)
  simpa using this
section
variable {w0 w w' : World} {k : SP} {col : Nat → Nat} {N : Nat} {L : List Ed} {D S : Nat → Prop} {num0 num low : Nat → Nat} {seen : Nat} {opn : Nat → Bool} {st st' : List Nat} {stv : Value} {P : List (List Nat)} {B C : Nat → Nat} {pv wv : Value} {Fs : List Fr} {F : Fr} {vs : List Value}
theorem FrSt.no (h : FrSt w0 k N L D num0 w wv Fs col num low seen opn stv P B C pv vs) (hf : Fx No w w') : FrSt w0 k N L D num0 w' wv Fs col num low seen opn stv P B C pv vs := ⟨h.s.no hf, h.y.no hf, h.t, h.o, h.p, h.m, h.c, h.e⟩
theorem FrSt.lens (h : FrSt w0 k N L D num0 w wv Fs col num low seen opn stv P B C pv vs) : P.length ≤ N ∧ (stk Fs).length ≤ N ∧ seen ≤ N ∧ N ≤ 70000 := ⟨ptLen h.p h.t.clN, (stk_len h.t).2, by have := h.c; omega, h.s.g.nn⟩
theorem frs_len : ∀ Fs : List Fr, Fs.length ≤ (stk Fs).length
  | [] => Nat.le_refl _
  | F :: Fs => by have := frs_len Fs; simp [stk]; omega
/-- the first frame -/
theorem FrSt.first {w1 w2 : World} {col1 col2 : Nat → Nat} {n : Nat} {stv1 nxv wv' : Value} {low1 : Nat → Nat} (ht : Tj (EG L) N num low seen (clP P) []) (ho : ∀ v, v < N → opn v = false) (hp : PtOk (EG L) P) (hc : seen + unseen N num ≤ N) (hn : n < N) (h0 : num n = 0)
    (hs : SrV w0 w2 k col2 N L D (fun j => if j = n then seen + 1 else num j) (fun j => if j = n then seen + 1 else low j) (seen + 1) (fun j => if j = n then true else opn j) ([] ++ [n]) stv1 P B C pv) (hy : WayV w0 w2 col2 wv' [⟨n, nxN L N n, []⟩] vs) :
    FrSt w0 k N L D (fun j => if j = n then seen + 1 else num j) w2 wv' [⟨n, nxN L N n, []⟩] col2 (fun j => if j = n then seen + 1 else num j) (fun j => if j = n then seen + 1 else low j) (seen + 1) (fun j => if j = n then true else opn j) stv1 P B C pv vs := by
  refine ⟨hs, hy, ht.push hn h0 (fun v hv => (mem_nxN hs.g.nodes hn).2 hv) (fun F' h => by cases h), fun v hv => ?_, hp, fun v q => q, ?_, fun F hF y hy => ?_⟩
  · by_cases e : v = n
    · simp [e, stk]
    · simp [e, stk, ho v hv]
  · have := unseen_put hn h0 (show 0 < seen + 1 by omega)
    omega
  · rw [List.mem_singleton] at hF
    subst hF
    exact (mem_nxN hs.g.nodes hn).1 hy
/-- a frame more -/
theorem FrSt.push {w2 : World} {col2 : Nat → Nat} {x : Nat} {ks : List Nat} {stv1 wv' : Value} (h : FrSt w0 k N L D num0 w wv (F :: Fs) col num low seen opn stv P B C pv vs) (hnx : F.nx = x :: ks) (hE : EG L F.n x) (hx : x < N) (h0 : num x = 0)
    (hs : SrV w0 w2 k col2 N L D (fun j => if j = x then seen + 1 else num j) (fun j => if j = x then seen + 1 else low j) (seen + 1) (fun j => if j = x then true else opn j) (stk (F :: Fs) ++ [x]) stv1 P B C pv) {vs' : List Value} (hy : WayV w0 w2 col2 wv' (⟨x, nxN L N x, []⟩ :: ⟨F.n, ks, F.sg⟩ :: Fs) vs') :
    FrSt w0 k N L D num0 w2 wv' (⟨x, nxN L N x, []⟩ :: ⟨F.n, ks, F.sg⟩ :: Fs) col2 (fun j => if j = x then seen + 1 else num j) (fun j => if j = x then seen + 1 else low j) (seen + 1) (fun j => if j = x then true else opn j) stv1 P B C pv vs' ∧ unseen N (fun j => if j = x then seen + 1 else num j) < unseen N num := by
  have hu := unseen_put (num := num) hx h0 (show 0 < seen + 1 by omega)
  have ht1 := h.t.push (k := x) (nx := nxN L N x) hx h0 (fun v hv => (mem_nxN h.s.g.nodes hx).2 hv) (fun F' e => by
    obtain rfl : F = F' := by simpa using e
    exact Rch.one hE)
  have ht : Tj (EG L) N (fun v => if v = x then seen + 1 else num v) (fun v => if v = x then seen + 1 else low v) (seen + 1) (clP P) (⟨x, nxN L N x, []⟩ :: ⟨F.n, ks, F.sg⟩ :: Fs) := by
    refine ⟨ht1.lt, ht1.clN, ht1.vis, ht1.dis, ht1.asc, ht1.top, ht1.clo, ?_⟩
    obtain ⟨h0F, hF, hG⟩ := ht1.good
    refine ⟨⟨h0F.sg, fun F' e => by
      obtain rfl : (⟨F.n, ks, F.sg⟩ : Fr) = F' := by simpa using e
      exact h0F.up F rfl, h0F.lo, h0F.wit, h0F.done⟩, ⟨hF.sg, hF.up, hF.lo, hF.wit, fun u hu v hv hxx => ?_⟩, hG⟩
    by_cases e : u = F.n ∧ v = x
    · right
      refine ⟨by rw [e.2]; simp [stk], ?_⟩
      have h1 := hF.lo
      have hFx : F.n ≠ x := fun q => by
        have := (h.t.vis x hx).2 (.inr (by rw [← q]; simp [stk]))
        exact this h0
      simp only [e.2, if_true, hFx, if_false] at h1 ⊢
      have := h.t.top F.n
      omega
    · exact hF.done u hu v hv fun q => by
        rw [hnx, List.mem_cons]
        rintro (r | r)
        · exact e ⟨q, r⟩
        · exact hxx q r
  refine ⟨⟨by simpa [stk] using hs, hy, ht, fun v hv => ?_, h.p, fun v q => ?_, by have := h.c; omega, fun G hG y hy2 => ?_⟩, hu⟩
  · have := h.o v hv
    by_cases e : v = x
    · subst e; simp [stk]
    · simp only [if_neg e, this, stk]
      simp [e]
  · by_cases e : v = x
    · simp [e]
    · simp only [if_neg e]; exact h.m v q
  · rcases List.mem_cons.1 hG with q | q
    · subst q; exact (mem_nxN h.s.g.nodes hx).1 hy2
    · rcases List.mem_cons.1 q with q | q
      · subst q; exact h.e F (by simp) y (by rw [hnx]; exact List.mem_cons_of_mem _ hy2)
      · exact h.e G (List.mem_cons_of_mem _ q) y hy2
/-- a node is looked at that was seen -/
theorem FrSt.look {w2 : World} {x : Nat} {ks : List Nat} {low' : Nat → Nat} (h : FrSt w0 k N L D num0 w wv (F :: Fs) col num low seen opn stv P B C pv vs) (hnx : F.nx = x :: ks) (hE : EG L F.n x) (hx : x < N) (h0 : num x ≠ 0) (hl : low' = if opn x = true then (fun v => if v = F.n then min (low F.n) (num x) else low v) else low)
    (hs : SrV w0 w2 k col N L D num low' seen opn (stk (F :: Fs)) stv P B C pv) {vs' : List Value} (hy : WayV w0 w2 col wv (⟨F.n, ks, F.sg⟩ :: Fs) vs') :
    FrSt w0 k N L D num0 w2 wv (⟨F.n, ks, F.sg⟩ :: Fs) col num low' seen opn stv P B C pv vs' := by
  refine ⟨hs, hy, h.t.look hnx hx h0 hE ?_, h.o, h.p, h.m, h.c, fun G hG y hy2 => (List.mem_cons.1 hG).elim (fun q => by subst q; exact h.e F (by simp) y (by rw [hnx]; exact List.mem_cons_of_mem _ hy2)) (fun q => h.e G (List.mem_cons_of_mem _ q) y hy2)⟩
  rw [hl]
  by_cases q : opn x = true
  · rw [if_pos q, if_pos ((h.o x hx).1 q)]
  · rw [if_neg q, if_neg (fun r => q ((h.o x hx).2 r))]
/-- the top frame is joined with the one below -/
theorem FrSt.join {w2 : World} {F' : Fr} {wv' : Value} {vs' : List Value} (h : FrSt w0 k N L D num0 w wv (F :: F' :: Fs) col num low seen opn stv P B C pv vs) (hnx : F.nx = []) (hlt : low F.n < num F.n)
    (hs : SrV w0 w2 k col N L D num (fun v => if v = F'.n then min (low F'.n) (low F.n) else low v) seen opn (stk (F :: F' :: Fs)) stv P B C pv) (hy : WayV w0 w2 col wv' (F' :: Fs) vs') :
    FrSt w0 k N L D num0 w2 wv' (⟨F'.n, F'.nx, F'.sg ++ F.n :: F.sg⟩ :: Fs) col num (fun v => if v = F'.n then min (low F'.n) (low F.n) else low v) seen opn stv P B C pv vs' := by
  have hst : stk (⟨F'.n, F'.nx, F'.sg ++ F.n :: F.sg⟩ :: Fs) = stk (F :: F' :: Fs) := by simp [stk]
  exact ⟨by rw [hst]; exact hs, hy.seg _, h.t.join hnx hlt rfl, by rw [hst]; exact h.o, h.p, h.m, h.c, fun G hG y hy2 => (List.mem_cons.1 hG).elim (fun q => by subst q; exact h.e F' (by simp) y hy2) (fun q => h.e G (by simp [q]) y hy2)⟩
/-- a component is found -/
theorem FrSt.part {w2 : World} {wv' stv' pv' : Value} {vs' : List Value} {col' B' C' : Nat → Nat} (h : FrSt w0 k N L D num0 w wv (F :: Fs) col num low seen opn stv P B C pv vs) (hnx : F.nx = []) (hge : num F.n ≤ low F.n)
    (hs : SrV w0 w2 k col' N L D num low seen (clrN (F.n :: F.sg) (F.n :: F.sg).length opn) (stk Fs) stv' (P ++ [srtN (F.n :: F.sg)]) B' C' pv') (hy : WayV w0 w2 col' wv' Fs vs') :
    FrSt w0 k N L D num0 w2 wv' Fs col' num low seen (clrN (F.n :: F.sg) (F.n :: F.sg).length opn) stv' (P ++ [srtN (F.n :: F.sg)]) B' C' pv' vs' := by
  obtain ⟨ht, hc⟩ := h.t.part hnx hge
  have hnd := (stk_len h.t).1
  have hnd2 : (F.n :: F.sg).Nodup := (List.nodup_append.1 hnd).2.1
  refine ⟨hs, hy, ht.congrCl fun v => (clP_snoc).symm, fun v hv => ?_, h.p.snoc (by simp) hnd2 hc fun u hu q => h.t.dis u q (mem_stk_cons.2 (.inr (List.mem_cons.1 hu))), h.m, h.c, fun G hG => h.e G (List.mem_cons_of_mem _ hG)⟩
  have ho := h.o v hv
  unfold clrN
  rw [List.take_length]
  by_cases e : v ∈ F.n :: F.sg
  · rw [if_pos e]
    constructor
    · intro q; cases q
    · intro q
      exact absurd rfl ((List.nodup_append.1 hnd).2.2 v q v e)
  · rw [if_neg e, ho, mem_stk_cons]
    constructor
    · rintro (q | q)
      · exact q
      · exact absurd (List.mem_cons.2 q) e
    · exact .inl
end
#print axioms FrSt.part
end Go.Proofs.YtdoplaijgocboaaGreat
