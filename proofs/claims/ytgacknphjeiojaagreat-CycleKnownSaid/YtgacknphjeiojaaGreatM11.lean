/- The document's rows of truths: from which nodes there is a walk of just so many edges. | The document's walk of just so many edges: plain. | The document's answers: node, first, Just. | The document's walk. | The document's answers: Path, Far, Through, Shortest. | The law CyclePaths. -/
import Derived.Test.YtgacknphjeiojaaGreatM10

namespace Go.Proofs.YtgacknphjeiojaaGreat
open Go.RowKit
set_option linter.unusedVariables false

/-- a row of truths, whole in a block -/
structure JRow (w : World) (u : Value) (N : Nat) (f : Nat → Bool) (b : Nat) : Prop where
  sl : u = .slice (some ⟨b, 0, none⟩) N N
  at_ : ∀ m, m < N → w.cell? ⟨b, m, none⟩ = some (.bool (f m))
/-- so many of them, to be read -/
def JusV (w : World) (v : Value) (n N : Nat) (f : Nat → Nat → Bool) : Prop := ∃ so oo cap, v = .slice (some ⟨so, oo, none⟩) n cap ∧ ∀ k, k < n → ∃ b, w.cell? ⟨so, oo + k, none⟩ = some (.slice (some ⟨b, 0, none⟩) N N) ∧ ∀ m, m < N → w.cell? ⟨b, m, none⟩ = some (.bool (f k m))
/-- so many of them, the call's own -/
def JusO (w : World) (base : Nat) (v : Value) (n N : Nat) (f : Nat → Nat → Bool) : Prop :=
  ∃ xs : List Value, w.ownsRow base 115 1 v n xs ∧ ∀ k, k < n → ∃ u b, xs[k]? = some u ∧ JRow w u N (f k) b ∧ base ≤ b ∧ b < w.heap.size
section
variable {w w' : World} {S : Nat → Prop} {base n N : Nat} {v u : Value} {f : Nat → Nat → Bool} {g : Nat → Bool} {b : Nat}
theorem JRow.fx (h : JRow w u N g b) (hf : Fx S w w') (hb : ¬ S b) : JRow w' u N g b := ⟨h.sl, fun m hm => hf.cell' (h.at_ m hm) hb⟩
theorem JusV.no (h : JusV w v n N f) (hf : Fx No w w') : JusV w' v n N f := by
  obtain ⟨so, oo, cap, h1, h2⟩ := h
  refine ⟨so, oo, cap, h1, fun k hk => ?_⟩
  obtain ⟨b, h3, h4⟩ := h2 k hk
  exact ⟨b, hf.cell' h3 (fun q => q), fun m hm => hf.cell' (h4 m hm) (fun q => q)⟩
theorem own_cells {t : TypeId} {xs : List Value} {x : Value} {k : Nat} (h : w.ownsRow base t 1 v n xs) (hx : xs[k]? = some x) : ∃ so oo cap, v = .slice (some ⟨so, oo, none⟩) n cap ∧ v.ownBlock = some so ∧ w.cell? ⟨so, oo + k, none⟩ = some x := by
  obtain ⟨ao, cap, h1, h2, h3, h4, h5, h6⟩ := SlV.own h
  have hk : k < xs.length := (List.getElem?_eq_some_iff.1 hx).1
  obtain ⟨so, oo, rfl, h8, h9⟩ := h6.addr (by omega)
  refine ⟨so, oo, cap, h1, h8, ?_⟩
  have := h9 k hk
  rw [this]
  rw [List.getElem?_eq_getElem hk] at hx
  simp only [List.getD, List.getElem?_eq_getElem hk, Option.getD_some]
  exact hx
theorem JusO.apart (hN : 0 < N) (h : JusO w base v n N f) {b : Nat} {c : Bool} (hb : w.cell? ⟨b, 0, none⟩ = some (.bool c)) (h0 : 0 < n) : ¬ v.ownBlock = some b := by
  obtain ⟨xs, h1, h2⟩ := h
  intro e
  obtain ⟨u, b', h3, h4, _⟩ := h2 0 h0
  obtain ⟨so, oo, cap, rfl, h6, h7⟩ := own_cells h1 h3
  rw [h6] at e
  obtain rfl : so = b := by simpa using e
  have h8 := h1
  obtain ⟨_, h9⟩ := h8
  rcases h9 with ⟨h10, _⟩ | ⟨g, c', cur, h10, _⟩
  · cases h10
  · simp only [Value.slice.injEq, Option.some.injEq, Addr.mk.injEq] at h10
    obtain ⟨⟨rfl, rfl, _⟩, _⟩ := h10
    rw [Nat.zero_add, hb, h4.sl] at h7
    cases h7
theorem JusO.fx (h : JusO w base v n N f) (hf : Fx S w w') (hv : ∀ k, v.ownBlock = some k → ¬ S k) (hb : ∀ b, base ≤ b → b < w.heap.size → ¬ S b) : JusO w' base v n N f := by
  obtain ⟨xs, h1, h2⟩ := h
  refine ⟨xs, ownsRow_fx h1 hf hv, fun k hk => ?_⟩
  obtain ⟨u, b, h3, h4, h5, h6⟩ := h2 k hk
  exact ⟨u, b, h3, h4.fx hf (hb b h5 h6), h5, Nat.lt_of_lt_of_le h6 hf.size⟩
theorem JusO.no (h : JusO w base v n N f) (hf : Fx No w w') : JusO w' base v n N f := h.fx hf (fun _ _ q => q) fun _ _ _ q => q
/-- behind an append -/
theorem JusO.snoc {xs : List Value} {v' : Value} (hN : 0 < N) (h0 : 0 < n) (h : JusO w base v n N f) (hx : w.ownsRow base 115 1 v n xs) (hxs : ∀ k, k < n → ∃ u b, xs[k]? = some u ∧ JRow w u N (f k) b ∧ base ≤ b ∧ b < w.heap.size)
    (hu : JRow w u N (f n) b) (hb : base ≤ b) (hbl : b < w.heap.size) (hlen : xs.length = n) (ho : w'.ownsRow base 115 1 v' (n + 1) (xs ++ [u])) (hf : Fx (fun k => v.ownBlock = some k) w w') : JusO w' base v' (n + 1) N f := by
  refine ⟨xs ++ [u], ho, fun k hk => ?_⟩
  by_cases hlt : k < n
  · obtain ⟨u', b', h3, h4, h5, h6⟩ := hxs k hlt
    refine ⟨u', b', ?_, h4.fx hf (h.apart hN (h4.at_ 0 hN) h0), h5, Nat.lt_of_lt_of_le h6 hf.size⟩
    rw [List.getElem?_append_left (by omega)]; exact h3
  · obtain rfl : k = n := by omega
    refine ⟨u, b, ?_, hu.fx hf (h.apart hN (hu.at_ 0 hN) h0), hb, Nat.lt_of_lt_of_le hbl hf.size⟩
    rw [List.getElem?_append_right (by omega), hlen, Nat.sub_self]; rfl
theorem JusO.lower {base' : Nat} (h : JusO w base v n N f) (hb : base' ≤ base) : JusO w base' v n N f := by
  obtain ⟨xs, h1, h2⟩ := h
  refine ⟨xs, ownsRow_base h1 hb, fun k hk => ?_⟩
  obtain ⟨u, b, h3, h4, h5, h6⟩ := h2 k hk
  exact ⟨u, b, h3, h4, Nat.le_trans hb h5, h6⟩
theorem JusO.read (h : JusO w base v n N f) (h0 : 0 < n) : JusV w v n N f := by
  obtain ⟨xs, h1, h2⟩ := h
  obtain ⟨u, b, h3, _⟩ := h2 0 h0
  obtain ⟨so, oo, cap, rfl, h6, _⟩ := own_cells h1 h3
  refine ⟨so, oo, cap, rfl, fun k hk => ?_⟩
  obtain ⟨u, b, h3, h4, _⟩ := h2 k hk
  obtain ⟨so', oo', cap', h5, _, h7⟩ := own_cells h1 h3
  simp only [Value.slice.injEq, Option.some.injEq, Addr.mk.injEq] at h5
  obtain ⟨⟨rfl, rfl, _⟩, _⟩ := h5
  exact ⟨b, by rw [h7, h4.sl], h4.at_⟩
end
theorem info_boolY : ∃ i, Tryz.prog.info? 4 = some i ∧ i.zero = some (.bool false) ∧ i.size = 1 ∧ i.bytes = 1 := info_parts (by kernel_rfl)
def noBools (k : Nat) : Array Value := Array.replicate k (.bool false)
theorem makeBoolsY {E : Int} {k : Nat} (h0 : 0 ≤ E) (h1 : E ≤ 1000000) (hk : E.toNat = k) (w : World) :
    (Instr.makeSlice 115 (.int .i64 E) (.int .i64 E)).run Tryz.prog w = .ok (.slice (some ⟨w.heap.size, 0, none⟩) k k) (w.alloc (.cells (noBools k) 4)) := by
  obtain ⟨i, hi, hz, hs, hb⟩ := info_boolY
  have := run_make (P := Tryz.prog) w 115 4 i _ Tryz.underlying115 hi hz .i64 .i64 E E h0 (Int.le_refl _) (by rw [hb]; omega) (by omega)
  rw [this, hk, hs]
  have e : madeCells (Value.bool false).cells (k * 1) = noBools k := by
    apply Array.ext'
    rw [show (Value.bool false).cells = #[.bool false] from rfl, toList_madeCells_one]
    simp [noBools]
  rw [e]
theorem jrow_made (w : World) (N : Nat) : JRow (w.alloc (.cells (noBools N) 4)) (.slice (some ⟨w.heap.size, 0, none⟩) N N) N (fun _ => false) w.heap.size :=
  ⟨rfl, fun m hm => by simp [noBools, hm]⟩
/-- a row turned at one place -/
theorem JRow.set {w : World} {u : Value} {N b : Nat} {f g : Nat → Bool} {i : Nat} {c : Bool} (h : JRow w u N f b) (hi : i < N) (hg : ∀ m, g m = if m = i then c else f m) : JRow (w.setCell ⟨b, i, none⟩ (.bool c)) u N g b := by
  refine ⟨h.sl, fun m hm => ?_⟩
  by_cases e : m = i
  · subst e
    rw [World.cell?_setCell_same _ _ _ (h.at_ m hm), hg, if_pos rfl]
  · rw [World.cell?_setCell_other _ _ _ _ (fun q => by injection q; omega), h.at_ m hm, hg, if_neg e]
#print axioms JusO.snoc
end Go.Proofs.YtgacknphjeiojaaGreat

namespace Go.Proofs.YtgacknphjeiojaaGreat
open Go.RowKit
set_option linter.unusedVariables false

/-- what is looked for -/
def pE (L : List Ed) (t k : Nat) (n : Int) (e : Ed) : Bool := decide (e.f = n) && jB L t k e.t.toNat
theorem find_at {p : Ed → Bool} : ∀ {L : List Ed} {i : Nat}, i < L.length → (∀ x ∈ L.take i, p x = false) → p (gt L i) = true → L.find? p = some (gt L i)
  | [], i, h, _, _ => by simp at h
  | x :: l, 0, _, _, h2 => by
    have h3 : p x = true := by simpa [gt] using h2
    simp [gt, h3]
  | x :: l, i + 1, h, h1, h2 => by
    have h3 : p x = false := h1 x (by simp)
    rw [List.find?_cons_of_neg (by simp [h3])]
    exact find_at (by simpa using h) (fun y hy => h1 y (by simp [hy])) (by simpa [gt] using h2)
theorem stepR_at {L : List Ed} {t k n i : Nat} (h : i < L.length) (h1 : ∀ x ∈ L.take i, pE L t k (n : Int) x = false) (h2 : pE L t k (n : Int) (gt L i) = true) : stepR L t k n = gt L i := by
  unfold stepR
  rw [show L.find? (fun e => decide (e.f = (n : Int)) && jB L t k e.t.toNat) = some (gt L i) from find_at h h1 h2]
  rfl
theorem none_left {L : List Ed} {t k n : Nat} (h : jB L t (k + 1) n = true) (h1 : ∀ x ∈ L.take L.length, pE L t k (n : Int) x = false) : False := by
  unfold jB at h
  obtain ⟨e, he, h2⟩ := List.any_eq_true.1 h
  have := h1 e (by simpa using he)
  unfold pE at this
  rw [h2] at this
  cases this
theorem no_next {L : List Ed} {p : Ed → Bool} {i : Nat} (h : i < L.length) (h1 : ∀ x ∈ L.take i, p x = false) (h2 : p (gt L i) = false) : ∀ x ∈ L.take (i + 1), p x = false := fun x hx => by
  rw [List.take_add_one, List.getElem?_eq_getElem h] at hx
  simp only [Option.toList_some, List.mem_append, List.mem_singleton] at hx
  rcases hx with hx | rfl
  · exact h1 x hx
  · simpa [gt, h] using h2
/-- a row of truths, so many edges in -/
def nxF (L : List Ed) (t k i : Nat) (m : Nat) : Bool := (L.take i).any fun e => decide (e.f = (m : Int)) && jB L t k e.t.toNat
theorem nxF_all (L : List Ed) (t k m : Nat) : nxF L t k L.length m = jB L t (k + 1) m := by rw [jB]; unfold nxF; rw [List.take_length]
theorem nxF_zero (L : List Ed) (t k m : Nat) : nxF L t k 0 m = false := rfl
theorem nxF_next {L : List Ed} {t k i m : Nat} (h : i < L.length) : nxF L t k (i + 1) m = (nxF L t k i m || (decide ((gt L i).f = (m : Int)) && jB L t k (gt L i).t.toNat)) := by
  unfold nxF
  rw [List.take_add_one, List.getElem?_eq_getElem h, List.any_append]
  simp [gt, h]
#print axioms stepR_at
end Go.Proofs.YtgacknphjeiojaaGreat

namespace Go.Proofs.YtgacknphjeiojaaGreat
open Go.RowKit
set_option linter.unusedVariables false

theorem firstJ_at {L : List Ed} {t N m k : Nat} (hk : k ≤ N) (h : jB L t k m = true) : firstJ L t N m k = (k : Int) := by rw [firstJ, dif_pos hk, if_pos h]
theorem firstJ_on {L : List Ed} {t N m k : Nat} (hk : k ≤ N) (h : jB L t k m = false) : firstJ L t N m k = firstJ L t N m (k + 1) := by rw [firstJ, dif_pos hk, if_neg (by simp [h])]
theorem firstJ_out {L : List Ed} {t N m : Nat} : firstJ L t N m (N + 1) = -1 := by rw [firstJ, dif_neg (by omega)]
theorem info_rowsY : ∃ i, Tryz.prog.info? 115 = some i ∧ i.zero = some (.slice none 0 0) ∧ i.size = 1 ∧ i.bytes = 24 := info_parts (by kernel_rfl)
theorem just_start {L : List Ed} (wA : World) {N t : Nat} (ht : t < N) : JusO ((wA.alloc (.cells ((noBools N).setIfInBounds t (.bool true)) 4)).alloc (.cells #[.slice (some ⟨wA.heap.size, 0, none⟩) N N] 115)) wA.heap.size (.slice (some ⟨wA.heap.size + 1, 0, none⟩) 1 1) 1 N (jB L t) := by
  have h1 := World.ownsRow_lit (base := wA.heap.size) (e := 115) (size := 1) (wA.alloc (.cells ((noBools N).setIfInBounds t (.bool true)) 4)) #[.slice (some ⟨wA.heap.size, 0, none⟩) N N] 1 (by simp) (by unfold maxLen; omega) rfl
  simp only [World.size_alloc] at h1
  refine ⟨_, h1, fun k hk => ?_⟩
  obtain rfl : k = 0 := by omega
  refine ⟨_, wA.heap.size, rfl, ?_, Nat.le_refl _, by simp only [World.size_alloc]; omega⟩
  refine JRow.fx (S := No) (w := wA.alloc (.cells ((noBools N).setIfInBounds t (.bool true)) 4)) ⟨rfl, fun m hm => ?_⟩ ((Fx.refl No _).alloc _) (fun q => q)
  rw [cell_newY rfl, Array.getElem?_setIfInBounds]
  by_cases e : t = m
  · subst e; simp [jB, noBools, ht]
  · rw [if_neg e]
    have e2 : ¬ m = t := fun q => e q.symm
    simp [jB, noBools, hm, e2]
section
variable {w w' : World} {D : Nat → Prop} {N : Nat} {L : List Ed} {rv : Value}
theorem refNode_any {ro : Option Addr} {n rc : Nat} (N : Nat) (m : Int) (w : World) : Calls Tryz.prog 52 #[.agg #[.int .i64 (N : Nat), .slice ro n rc], .int .i64 m] w fun e w' => e = .returned (.bool (decide (okN N m))) ∧ Fx No w w' := by
  by_cases h1 : 0 ≤ m
  · have d1 : decide (0 ≤ m) = true := decide_eq_true h1
    have he : decide (okN N m) = decide (m < (N : Int)) := by simp [okN, h1]
    rw [he]
    clear he
    go_enter Tryz.func52, Tryz.ntmps52
    go_wp2
    go_ret
    exact ⟨rfl, (Fx.refl _ _).alloc _⟩
  · have d1 : decide (0 ≤ m) = false := decide_eq_false h1
    have he : decide (okN N m) = false := by simp [okN, h1]
    rw [he]
    clear he
    go_enter Tryz.func52, Tryz.ntmps52
    go_wp2
    go_ret
    exact ⟨rfl, (Fx.refl _ _).alloc _⟩
set_option maxRecDepth 100000 in
set_option maxHeartbeats 1000000 in
theorem refFirst_any {v : Value} {t m n least : Nat} (hn : n = N + 1) (h : JusV w v n N (jB L t)) (hm : m < N) (hl : least ≤ n) (hN : N ≤ 1000000) :
    Calls Tryz.prog 54 #[v, .int .i64 (m : Nat), .int .i64 (least : Nat)] w fun e w' => e = .returned (.int .i64 (firstJ L t N m least)) ∧ Fx No w w' := by
  obtain ⟨so, oo, cap, rfl, hc⟩ := h
  have HC := Lib.hid hc
  have Hn := Lib.hid hn
  have hn1 : n ≤ 1000001 := by omega
  have hm0 : (0 : Int) ≤ (m : Int) := by omega
  have hm1 : (m : Int) < (N : Int) := by omega
  clear hc hn
  go_enter Tryz.func54, Tryz.ntmps54
  go_wp2
  go_loopw [7] (fun i ws => ∃ k : Nat, i = .int .i64 k ∧ k ≤ n ∧ Fx No w ws ∧ Hid (firstJ L t N m least = firstJ L t N m k)) (fun i _ => n - (intOf i).toNat)
  case atStart => exact ⟨least, rfl, hl, Fx.refl _ _, Lib.hid rfl⟩
  case round =>
    obtain ⟨k, rfl, hk, hf, HK⟩ := hrel
    have HF := Lib.hid hf
    clear hf
    by_cases hlt : k < n
    · obtain ⟨b, p0, p1⟩ := HC.out k hlt
      have p2 := p1 m hm
      have p0 := HF.out.cell' p0 (fun q => q)
      have p2 := HF.out.cell' p2 (fun q => q)
      obtain ⟨c, hc⟩ : ∃ c, c = jB L t k m := ⟨_, rfl⟩
      have HJ := Lib.hid hc
      rw [← hc] at p2
      have hk0 : (0 : Int) ≤ (k : Int) := by omega
      have hk1 : (k : Int) < (n : Int) := by omega
      have HN : Hid (k ≤ N) := Lib.hid (by have := Hn.out; omega)
      clear p1 hc
      cases c
      · go_wp2
        go_roundw
        case rel => exact ⟨k + 1, by go_num, by omega, HF.out, Lib.hid (by rw [HK.out, firstJ_on HN.out HJ.out.symm])⟩
        case measure => simp [intOf]; omega
      · go_wp2
        go_ret
        exact ⟨by rw [HK.out, firstJ_at HN.out HJ.out.symm]; rfl, HF.out⟩
    · obtain rfl : k = n := by omega
      go_wp2
      go_ret
      exact ⟨by rw [HK.out, Hn.out, firstJ_out]; rfl, HF.out⟩
set_option maxRecDepth 100000 in
set_option maxHeartbeats 4000000 in
theorem refJust_any (h : EdsV w D rv L) (hL : ∀ x ∈ L, (0 ≤ x.f ∧ x.f < (N : Int)) ∧ 0 ≤ x.t ∧ x.t < (N : Int)) (hN : N ≤ 100000) {t : Nat} (ht : t < N) :
    Calls Tryz.prog 53 #[.agg #[.int .i64 (N : Nat), rv], .int .i64 (t : Nat)] w fun e w' => ∃ v', e = .returned v' ∧ Fx No w w' ∧ JusV w' v' (N + 1) N (jB L t) := by
  obtain ⟨ii, hi, hz, hs, hb⟩ := info_rowsY
  obtain ⟨ao, cap, rfl, hcl, hcm, hc⟩ := EdsV.facts h
  have HC := Lib.hid hc
  have HLn := Lib.hid hL
  have hmk := makeBoolsY (E := (N : Int)) (k := N) (by omega) (by omega) (by omega)
  have ht0 : (0 : Int) ≤ (t : Int) := by omega
  have ht1 : (t : Int) < (N : Int) := by omega
  have s1 : ((w.alloc (.cells #[.int .i64 (N : Nat), .slice ao L.length cap] 34)).alloc (.cells (noBools N) 4)).cell? ⟨w.heap.size + 1, t, none⟩ = some (.bool false) := by simp [noBools, ht]
  have s2 : ((w.alloc (.cells #[.int .i64 (N : Nat), .slice ao L.length cap] 34)).alloc (.cells (noBools N) 4)).frozen? ⟨w.heap.size + 1, t, none⟩ = false := by simp
  have HS := Lib.hid (just_start (L := L) (w.alloc (.cells #[.int .i64 (N : Nat), .slice ao L.length cap] 34)) ht)
  clear h hc hL
  go_enter Tryz.func53, Tryz.ntmps53
  go_wp2
  go_loopw [6, 7] (fun v i ws => ∃ q : Nat, i = .int .i64 ((q : Int) + 1) ∧ q ≤ N ∧ Fx No w ws ∧ ws.cell? ⟨w.heap.size, 0, none⟩ = some (.int .i64 (N : Nat)) ∧ ws.cell? ⟨w.heap.size, 1, none⟩ = some (.slice ao L.length cap) ∧ JusO ws (w.heap.size + 1) v (q + 1) N (jB L t)) (fun _ i _ => N + 1 - (intOf i).toNat)
  case atStart =>
    have hf : Fx No (w.alloc (.cells #[.int .i64 (N : Nat), .slice ao L.length cap] 34)) (((w.alloc (.cells #[.int .i64 (N : Nat), .slice ao L.length cap] 34)).alloc (.cells ((noBools N).setIfInBounds t (.bool true)) 4)).alloc (.cells #[.slice (some ⟨w.heap.size + 1, 0, none⟩) N N] 115)) := ((Fx.refl No _).alloc _).alloc _
    refine ⟨0, rfl, Nat.zero_le _, ((Fx.refl No w).alloc _).trans hf, hf.cell' ((cell_newY rfl).trans rfl) (fun q => q), hf.cell' ((cell_newY rfl).trans rfl) (fun q => q), ?_⟩
    have h1 := HS.out
    simp only [World.size_alloc] at h1
    exact h1
  case round =>
    obtain ⟨q, rfl, hq, hf, c0, c1, hj⟩ := hrel
    obtain ⟨wo, hwo⟩ : ∃ x, x = wr := ⟨_, rfl⟩
    subst hwo
    have HF := Lib.hid hf
    have HJ := Lib.hid hj
    obtain ⟨so, jo, jcap, rfl, hv⟩ := hj.read (Nat.succ_pos q)
    have HV := Lib.hid hv
    have HC0 := Lib.hid c0
    have HC1 := Lib.hid c1
    have hzo := hf.size
    clear hf hj hv s1 s2
    by_cases hlt : q < N
    · have d1 : (q : Int) + 1 ≤ (N : Int) := by omega
      go_wp2
      clear c0 c1
      go_loopw [9] (fun i ws => ∃ j : Nat, i = .int .i64 j ∧ j ≤ L.length ∧ Fx No wo ws ∧ JRow ws (.slice (some ⟨wo.heap.size, 0, none⟩) N N) N (nxF L t q j) wo.heap.size ∧ (∀ m, m < N → ws.frozen? ⟨wo.heap.size, m, none⟩ = false) ∧ wo.heap.size < ws.heap.size) (fun i _ => L.length - (intOf i).toNat)
      case atStart => exact ⟨0, rfl, Nat.zero_le _, (Fx.refl _ _).alloc _, jrow_made wo N, fun m hm => by simp, by simp⟩
      case round =>
        obtain ⟨j, rfl, hjl, hf2, hrow, hfr, hlo⟩ := hrel
        have HF2 := Lib.hid hf2
        have HRow := Lib.hid hrow
        have HFr := Lib.hid hfr
        have c0 := hf2.cell' HC0.out (fun q => q)
        have c1 := hf2.cell' HC1.out (fun q => q)
        clear hf2 hrow hfr
        by_cases hjlt : j < L.length
        · obtain ⟨bb, o2, rfl, _, p0, p1, p2⟩ := HC.out j hjlt
          obtain ⟨⟨b1, b2⟩, b3, b4⟩ := HLn.out _ (gt_mem hjlt)
          have HNx : Hid (∀ m, nxF L t q (j + 1) m = (nxF L t q j m || (decide ((gt L j).f = (m : Int)) && jB L t q (gt L j).t.toNat))) := Lib.hid fun m => nxF_next hjlt
          obtain ⟨x, hx⟩ : ∃ x, x = gt L j := ⟨_, rfl⟩
          rw [← hx] at p0 p1 p2 b1 b2 b3 b4 HNx
          obtain ⟨xf, xt, xl⟩ := x
          simp only at p0 p1 p2 b1 b2 b3 b4 HNx
          obtain ⟨a, rfl⟩ := Int.eq_ofNat_of_zero_le b1
          obtain ⟨c, rfl⟩ := Int.eq_ofNat_of_zero_le b3
          simp only [Int.toNat_natCast] at HNx
          have ha : a < N := by omega
          have hc : c < N := by omega
          obtain ⟨rb, r0, r1⟩ := HV.out q (by omega)
          have r1 := r1 c hc
          have p0 := (HF.out.trans HF2.out).cell' p0 (fun q => q)
          have p1 := (HF.out.trans HF2.out).cell' p1 (fun q => q)
          have r0 := HF2.out.cell' r0 (fun q => q)
          have r1 := HF2.out.cell' r1 (fun q => q)
          have k1 := HRow.out.at_ a ha
          have k2 := HFr.out a ha
          obtain ⟨tv, htv⟩ : ∃ x, x = jB L t q c := ⟨_, rfl⟩
          rw [← htv] at r1 HNx
          have hk0 : (0 : Int) ≤ (j : Int) := by omega
          have hk1 : (j : Int) < (L.length : Int) := by omega
          have hq0 : (0 : Int) ≤ (q : Int) := by omega
          have hq1 : (q : Int) < (q : Int) + 1 := by omega
          have w1 : IntKind.i64.wrap (q : Int) = (q : Int) := by rw [IntKind.wrap_i64]; omega
          clear hx htv p2
          cases tv
          · have HR2 : Hid (JRow wr (.slice (some ⟨wo.heap.size, 0, none⟩) N N) N (nxF L t q (j + 1)) wo.heap.size) := Lib.hid ⟨HRow.out.sl, fun m hm => by rw [HRow.out.at_ m hm, HNx.out]; simp⟩
            go_wp2
            go_quiet (fail)
            go_wp2
            refine ⟨⟨j + 1, by go_num, by omega, HF2.out.drewN nq, HR2.out.fx ((Fx.refl No _).drewN nq) (fun q => q), fun m hm => by simpa using HFr.out m hm, by simpa using hlo⟩, by simp [intOf]; omega⟩
          · have HR2 : Hid (∀ nq, JRow ((wr.drewN nq).setCell ⟨wo.heap.size, a, none⟩ (.bool true)) (.slice (some ⟨wo.heap.size, 0, none⟩) N N) N (nxF L t q (j + 1)) wo.heap.size) := Lib.hid fun nq => (HRow.out.fx ((Fx.refl No _).drewN nq) (fun q => q)).set ha fun m => by
              rw [HNx.out]
              by_cases e : m = a
              · subst e; simp
              · have e2 : ¬ ((a : Int) = (m : Int)) := fun q => e (by omega)
                simp [e, e2]
            go_wp2
            go_quiet (fail)
            go_wp2
            refine ⟨⟨j + 1, by go_num, by omega, (HF2.out.drewN nq).setCell (.inl (Nat.le_refl _)) _, HR2.out nq, fun m hm => by simpa using HFr.out m hm, by simpa using hlo⟩, by simp [intOf]; omega⟩
        · obtain rfl : j = L.length := by omega
          have HJw := HJ.out.no HF2.out
          obtain ⟨xs, hx, hxs⟩ := HJw
          have HXs := Lib.hid hx
          have HJa : Hid (JusO (wr.alloc (.cells #[.slice (some ⟨wo.heap.size, 0, none⟩) N N] 115)) (w.heap.size + 1) (.slice (some ⟨so, jo, none⟩) (q + 1) jcap) (q + 1) N (jB L t)) := Lib.hid ((HJ.out.no HF2.out).no ((Fx.refl No _).alloc _))
          have HXa : Hid (∀ k, k < q + 1 → ∃ u b, xs[k]? = some u ∧ JRow (wr.alloc (.cells #[.slice (some ⟨wo.heap.size, 0, none⟩) N N] 115)) u N (jB L t k) b ∧ w.heap.size + 1 ≤ b ∧ b < (wr.alloc (.cells #[.slice (some ⟨wo.heap.size, 0, none⟩) N N] 115)).heap.size) := Lib.hid fun k hk => by
            obtain ⟨u, b, h1, h2, h3, h4⟩ := hxs k hk
            exact ⟨u, b, h1, h2.fx ((Fx.refl No _).alloc _) (fun q => q), h3, by simp only [World.size_alloc]; omega⟩
          have HRa : Hid (JRow (wr.alloc (.cells #[.slice (some ⟨wo.heap.size, 0, none⟩) N N] 115)) (.slice (some ⟨wo.heap.size, 0, none⟩) N N) N (jB L t (q + 1)) wo.heap.size) := Lib.hid (by
            have h1 := HRow.out.fx ((Fx.refl No wr).alloc (.cells #[.slice (some ⟨wo.heap.size, 0, none⟩) N N] 115)) (fun q => q)
            rw [show nxF L t q L.length = jB L t (q + 1) from funext fun m => nxF_all L t q m] at h1
            exact h1)
          have hlen : xs.length = q + 1 := by have := hx.1; omega
          clear hx hxs
          go_wp2_with (at_builtin; refine wpList_append_sl rfl _ _ 94 rfl (w.heap.size + 1) 115 Tryz.underlying94 hi hz hs hb rfl (by decide) rfl (World.ownsRow.alloc HXs.out _) rfl (SlV.lit _ 115 #[.slice (some ⟨wo.heap.size, 0, none⟩) N N] 1 1 rfl (by unfold maxLen; omega)) (by intro u hu; simp at hu; subst hu; rfl) (by unfold maxLen; omega) (by omega) (by simp; omega) ?_)
          intro v2 w2 ho hfx _
          have HJ2 : Hid (JusO w2 (w.heap.size + 1) v2 (q + 1 + 1) N (jB L t)) := Lib.hid (JusO.snoc (by omega) (by omega) HJa.out (World.ownsRow.alloc HXs.out _) HXa.out HRa.out (World.block_lt_of_cell? _ _ HC0.out) (by simp only [World.size_alloc]; omega) hlen ho hfx)
          have c0 := hfx.cell' (((Fx.refl No wr).alloc (.cells #[.slice (some ⟨wo.heap.size, 0, none⟩) N N] 115)).cell' c0 (fun q => q)) (fun h => by have := (World.ownsRow.lt HXs.out _ h).1; simp at this; omega)
          have c1 := hfx.cell' (((Fx.refl No wr).alloc (.cells #[.slice (some ⟨wo.heap.size, 0, none⟩) N N] 115)).cell' c1 (fun q => q)) (fun h => by have := (World.ownsRow.lt HXs.out _ h).1; simp at this; omega)
          have HF3 : Hid (Fx No w w2) := Lib.hid (((HF.out.trans HF2.out).alloc _).trans' hfx fun j h1 h2 => by have := (World.ownsRow.lt HXs.out j h1).1; omega)
          have hsz : w.heap.size + 1 ≤ wo.heap.size := World.block_lt_of_cell? _ _ HC0.out
          clear ho hfx
          go_wp2
          go_roundw
          case rel => exact ⟨q + 1, by go_num, by omega, HF3.out, c0, c1, HJ2.out⟩
          case measure => simp [intOf]; omega
    · obtain rfl : q = N := by omega
      go_wp2
      go_ret
      exact ⟨_, rfl, HF.out, HJ.out.read (by omega)⟩
end
#print axioms refFirst_any
end Go.Proofs.YtgacknphjeiojaaGreat

namespace Go.Proofs.YtgacknphjeiojaaGreat
open Go.RowKit
set_option linter.unusedVariables false

section
variable {w w' : World} {D : Nat → Prop} {N : Nat} {L : List Ed} {rv : Value}
set_option maxRecDepth 100000 in
set_option maxHeartbeats 4000000 in
theorem refWalk_any {v : Value} {t n f many : Nat} (h : EdsV w D rv L) (hL : ∀ x ∈ L, (0 ≤ x.f ∧ x.f < (N : Int)) ∧ 0 ≤ x.t ∧ x.t < (N : Int)) (hl : L.length ≤ 1000000) (hN : N ≤ 100000)
    (hn : n = N + 1) (hj : JusV w v n N (jB L t)) (hmn : many < n) (hf : f < N) (hb : jB L t many f = true) :
    Calls Tryz.prog 55 #[.agg #[.int .i64 (N : Nat), rv], v, .int .i64 (f : Nat), .int .i64 (many : Nat)] w fun e w' => ∃ v', e = .returned v' ∧ Fx No w w' ∧ OwnR w' w.heap.size v' (walkR L t many f) := by
  obtain ⟨ii, hi, hz, hs, hbb⟩ := info_parts info_edge13
  obtain ⟨ao, cap, rfl, hcl, hcm, hc⟩ := EdsV.facts h
  obtain ⟨so, oo, jcap, rfl, hjc⟩ := hj
  have HC := Lib.hid hc
  have HJ := Lib.hid hjc
  have HLn := Lib.hid hL
  have Hn := Lib.hid hn
  have HB := Lib.hid hb
  have hmn' : many ≤ 100000 := by omega
  clear h hc hjc hL hn hb
  go_enter Tryz.func55, Tryz.ntmps55
  go_wp2_with fail
  refine wp_hold (fun W => Fx No w W ∧ W.cell? ⟨w.heap.size, 1, none⟩ = some (.slice ao L.length cap)) ⟨(Fx.refl No w).alloc _, by go_simp⟩ ?_
  rintro w1 ⟨hF1, c1⟩
  obtain ⟨cb, hcb⟩ : ∃ e, e = w.heap.size := ⟨_, rfl⟩
  rw [← hcb] at c1 ⊢
  have HF1 := Lib.hid hF1
  have HC1 := Lib.hid c1
  have z1 := hF1.size
  clear hF1 c1 hcb
  go_loopw [2, 9, 10] (fun fr o kk ws => ∃ (m a : Nat) (acc : List Ed), fr = .int .i64 a ∧ kk = .int .i64 ((m : Int) - 1) ∧ a < N ∧ Fx No w1 ws ∧ OwnR ws w1.heap.size o acc ∧ Hid (acc ++ walkR L t m a = walkR L t many f) ∧ acc.length + m = many ∧ Hid (jB L t m a = true)) (fun _ _ kk _ => ((intOf kk) + 1).toNat)
  case atStart => exact ⟨many, f, [], rfl, by go_num, hf, Fx.refl _ _, OwnT.nil _ _, Lib.hid rfl, by simp, HB⟩
  case round =>
    obtain ⟨m, a, acc, rfl, rfl, ha, hfx, ho, HW, hlen, HJB⟩ := hrel
    have HF := Lib.hid hfx
    have HO := Lib.hid ho
    have c1 := hfx.cell' HC1.out (fun q => q)
    have hzr := hfx.size
    clear hfx ho
    cases m with
    | zero =>
      have e1 : ((0 : Nat) : Int) - 1 = -1 := rfl
      rw [e1]
      go_wp2
      go_ret
      refine ⟨_, rfl, HF1.out.trans HF.out, ?_⟩
      have h1 := HW.out
      simp only [walkR, List.append_nil] at h1
      rw [← h1]
      exact OwnT.base HO.out z1
    | succ q =>
      have e1 : ((q + 1 : Nat) : Int) - 1 = (q : Int) := by omega
      rw [e1]
      have hq0 : (0 : Int) ≤ (q : Int) := by omega
      have hq1 : (q : Int) < (n : Int) := by omega
      have hqn : q < n := by omega
      have hw1 : IntKind.i64.wrap ((many : Int) - (q : Int)) = (many : Int) - (q : Int) := by rw [IntKind.wrap_i64]; omega
      have HSp := Lib.hid (stepR_spec HJB.out)
      obtain ⟨wo, hwo⟩ : ∃ x, x = wr := ⟨_, rfl⟩
      subst hwo
      have HCo1 := Lib.hid c1
      clear e1
      go_wp2
      clear c1
      go_loopw [9, 11] (fun o i ws => ∃ (j : Nat) (acc2 : List Ed), i = .int .i64 j ∧ j ≤ L.length ∧ Fx No w1 ws ∧ OwnR ws w1.heap.size o acc2 ∧ ((acc2 = acc ∧ Hid (∀ x ∈ L.take j, pE L t q (a : Int) x = false)) ∨ acc2 = acc ++ [stepR L t q a])) (fun _ i _ => L.length - (intOf i).toNat)
      case atStart => exact ⟨0, acc, rfl, Nat.zero_le _, HF.out, HO.out, .inl ⟨rfl, Lib.hid (by simp)⟩⟩
      case round =>
        obtain ⟨j, acc2, rfl, hjl, hf2, ho2, hac⟩ := hrel
        have HF2 := Lib.hid hf2
        have HO2 := Lib.hid ho2
        have c1 := hf2.cell' HC1.out (fun q => q)
        have hz2 := hf2.size
        obtain ⟨oo2, ocap, rfl, _, _, hoc⟩ := EdsV.facts (OwnT.row ho2)
        have HOc := Lib.hid hoc
        clear hf2 ho2 hoc
        rcases hac with ⟨rfl, HNo⟩ | rfl
        · have d2 : decide ((acc2.length : Int) < (many : Int) - (q : Int)) = true := decide_eq_true (by omega)
          by_cases hjlt : j < L.length
          · obtain ⟨bb, o2, rfl, _, p0, p1, p2⟩ := HC.out j hjlt
            obtain ⟨⟨b1, b2⟩, b3, b4⟩ := HLn.out _ (gt_mem hjlt)
            have HAt : Hid (pE L t q (a : Int) (gt L j) = true → stepR L t q a = gt L j) := Lib.hid fun h => stepR_at hjlt HNo.out h
            have HNx : Hid (pE L t q (a : Int) (gt L j) = false → ∀ x ∈ L.take (j + 1), pE L t q (a : Int) x = false) := Lib.hid fun h => no_next hjlt HNo.out h
            obtain ⟨x, hx⟩ : ∃ x, x = gt L j := ⟨_, rfl⟩
            rw [← hx] at p0 p1 p2 b1 b2 b3 b4 HAt HNx
            obtain ⟨xf, xt, xl⟩ := x
            simp only at p0 p1 p2 b1 b2 b3 b4
            obtain ⟨c, rfl⟩ := Int.eq_ofNat_of_zero_le b3
            have hc : c < N := by omega
            obtain ⟨rb, r0, r1⟩ := HJ.out q (by omega)
            have r1 := r1 c hc
            have p0 := (HF1.out.trans HF2.out).cell' p0 (fun q => q)
            have p1 := (HF1.out.trans HF2.out).cell' p1 (fun q => q)
            have p2 := (HF1.out.trans HF2.out).cell' p2 (fun q => q)
            have r0 := (HF1.out.trans HF2.out).cell' r0 (fun q => q)
            have r1 := (HF1.out.trans HF2.out).cell' r1 (fun q => q)
            obtain ⟨tv, htv⟩ : ∃ x, x = jB L t q c := ⟨_, rfl⟩
            have HPv : Hid (pE L t q (a : Int) ⟨xf, (c : Int), xl⟩ = (decide (xf = (a : Int)) && tv)) := Lib.hid (by rw [htv]; simp [pE])
            rw [← htv] at r1
            have hk0 : (0 : Int) ≤ (j : Int) := by omega
            have hk1 : (j : Int) < (L.length : Int) := by omega
            clear hx htv
            by_cases he : xf = (a : Int)
            · have d3 : (xf == (a : Int)) = true := by simpa using he
              have d3' : decide (xf = (a : Int)) = true := decide_eq_true he
              rw [d3'] at HPv
              clear he d3'
              cases tv
              · have HN2 := Lib.hid (HNx.out HPv.out)
                go_wp2
                go_quiet (fail)
                go_wp2
                go_roundw
                case rel => exact ⟨j + 1, acc2, by go_num, by omega, HF2.out.drewN nq, OwnT.no HO2.out ((Fx.refl No _).drewN nq), .inl ⟨rfl, HN2⟩⟩
                case measure => simp [intOf]; omega
              · have HN2 := Lib.hid (HAt.out HPv.out)
                go_wp2
                go_quiet (fail)
                go_wp2_with (at_builtin; refine wpList_append_kept rfl _ _ 32 rfl w1.heap.size 80 Tryz.underlying32 hi hz hs hbb rfl (by decide) rfl (World.ownsRow.alloc (OwnT.no HO2.out ((Fx.refl No _).drewN nq)) _) rfl (SlV.lit _ 80 #[.int .i64 xf, .int .i64 c, .int .i64 xl] 3 1 rfl (by unfold maxLen; omega)) (ints_one [_, _, _]) (by omega) (by unfold maxLen; omega) (by omega) (by simp; omega) ?_)
                intro v2 w2 ho hf _ _
                have HO3 : Hid (OwnR w2 w1.heap.size v2 (acc2 ++ [stepR L t q a])) := Lib.hid (by rw [HN2.out]; exact OwnT.snoc ho)
                have HF3 : Hid (Fx No w1 w2) := Lib.hid (((HF2.out.drewN nq).alloc _).trans' hf fun j h1 h2 => by have := (OwnT.lt HO2.out h1).1; omega)
                clear ho hf
                go_wp2
                go_roundw
                case rel => exact ⟨j + 1, _, by go_num, by omega, HF3.out, HO3.out, .inr rfl⟩
                case measure => simp [intOf]; omega
            · have d3 : (xf == (a : Int)) = false := by simpa using he
              have d3' : decide (xf = (a : Int)) = false := decide_eq_false he
              rw [d3'] at HPv
              have HN2 := Lib.hid (HNx.out HPv.out)
              clear he d3'
              go_wp2
              go_quiet (fail)
              go_wp2
              go_roundw
              case rel => exact ⟨j + 1, acc2, by go_num, by omega, HF2.out.drewN nq, OwnT.no HO2.out ((Fx.refl No _).drewN nq), .inl ⟨rfl, HN2⟩⟩
              case measure => simp [intOf]; omega
          · obtain rfl : j = L.length := by omega
            exact (none_left HJB.out HNo.out).elim
        · obtain ⟨hs1, hs2, hs3⟩ := HSp.out
          obtain ⟨⟨b1, b2⟩, b3, b4⟩ := HLn.out _ hs1
          obtain ⟨bb, o2, rfl, _, p0, p1, p2⟩ := HOc.out acc.length (by simp)
          have e5 : gt (acc ++ [stepR L t q a]) acc.length = stepR L t q a := by simp [gt, List.getD]
          rw [e5] at p0 p1 p2
          have HEn : Hid (walkR L t (q + 1) a = stepR L t q a :: walkR L t q (stepR L t q a).t.toNat) := Lib.hid rfl
          obtain ⟨s, hs⟩ : ∃ s, s = stepR L t q a := ⟨_, rfl⟩
          rw [← hs] at HEn b1 b2 b3 b4 p0 p1 p2 hs3 HO2 ⊢
          have hal : (acc ++ [s]).length = acc.length + 1 := by simp
          rw [hal] at HO2 ⊢
          obtain ⟨sf, st, sl⟩ := s
          simp only at HEn b1 b2 b3 b4 p0 p1 p2 hs3
          obtain ⟨c, rfl⟩ := Int.eq_ofNat_of_zero_le b3
          simp only [Int.toNat_natCast] at HEn hs3
          have HRel : Hid (acc ++ [⟨sf, (c : Int), sl⟩] ++ walkR L t q c = walkR L t many f) := Lib.hid (by rw [← HW.out, HEn.out]; simp)
          have HJ3 := Lib.hid hs3
          have d2 : decide ((acc.length : Int) + 1 < (many : Int) - (q : Int)) = false := decide_eq_false (by omega)
          have hw2 : IntKind.i64.wrap (acc.length : Int) = (acc.length : Int) := by rw [IntKind.wrap_i64]; omega
          have hk2 : (0 : Int) ≤ (acc.length : Int) := by omega
          have hk3 : (acc.length : Int) < (acc.length : Int) + 1 := by omega
          clear hs hs1 hs2 hs3
          by_cases hjlt : j < L.length
          · have hk1 : (j : Int) < (L.length : Int) := by omega
            go_wp2
            refine ⟨⟨q, c, acc ++ [⟨sf, (c : Int), sl⟩], rfl, rfl, by omega, HF2.out, HO2.out, HRel, by rw [List.length_append]; simp only [List.length_singleton]; omega, HJ3⟩, by simp [intOf]⟩
          · obtain rfl : j = L.length := by omega
            go_wp2
            refine ⟨⟨q, c, acc ++ [⟨sf, (c : Int), sl⟩], rfl, rfl, by omega, HF2.out, HO2.out, HRel, by rw [List.length_append]; simp only [List.length_singleton]; omega, HJ3⟩, by simp [intOf]⟩
end
#print axioms refWalk_any
end Go.Proofs.YtgacknphjeiojaaGreat

namespace Go.Proofs.YtgacknphjeiojaaGreat
open Go.RowKit
set_option linter.unusedVariables false

/-- a row that may be written over -/
def WrV (w : World) (B : Nat) (v : Value) (n s : Nat) : Prop := ∃ ao cap, v = .slice ao n cap ∧ (n = 0 ∨ ∃ g, ao = some ⟨g, 0, none⟩ ∧ B ≤ g ∧ ∀ j, j < n * s → (∃ u, w.cell? ⟨g, j, none⟩ = some u) ∧ w.frozen? ⟨g, j, none⟩ = false)
theorem WrV.ofOwn {w : World} {B n s : Nat} {t : TypeId} {v : Value} {xs : List Value} (h : w.ownsRow B t s v n xs) : WrV w B v n s := by
  rcases h.2 with ⟨rfl, rfl⟩ | ⟨g, cap, cur, rfl, hb, hg, h1, h2, h3, h4⟩
  · exact ⟨none, 0, rfl, .inl rfl⟩
  · refine ⟨_, cap, rfl, .inr ⟨g, rfl, hb, fun j hj => ⟨?_, ?_⟩⟩⟩
    · have := h.cellAt j hj
      have hl : j < xs.length := by rw [h.1]; exact hj
      exact ⟨xs[j], by rw [this, List.getElem?_eq_getElem hl]⟩
    · simp [World.frozen?, hg]
theorem WrV.ofRow {w : World} {B : Nat} {v : Value} {l : List Int} (h : RowI w B v l) : WrV w B v l.length 1 := by
  obtain ⟨ao, cap, rfl, h2, h3, h4, h5⟩ := h
  refine ⟨ao, cap, rfl, ?_⟩
  rcases h5 with rfl | ⟨g, h5, h6, h7, h8⟩
  · exact .inl rfl
  · refine .inr ⟨g, h5, h6, fun j hj => ?_⟩
    have h9 := h8 j (by omega)
    rw [Nat.zero_add] at h9
    exact ⟨⟨_, h9.1⟩, h9.2⟩
theorem WrV.no {w w' : World} {B n s : Nat} {v : Value} (h : WrV w B v n s) (hf : Fx No w w') : WrV w' B v n s := by
  obtain ⟨ao, cap, rfl, h1⟩ := h
  refine ⟨ao, cap, rfl, ?_⟩
  rcases h1 with h1 | ⟨g, rfl, h2, h3⟩
  · exact .inl h1
  · refine .inr ⟨g, rfl, h2, fun j hj => ?_⟩
    obtain ⟨⟨u, h4⟩, h5⟩ := h3 j hj
    have h6 := hf.cellF h4 h5 (fun q => q)
    exact ⟨⟨u, h6.1⟩, h6.2⟩
theorem WrV.base {w : World} {B B' n s : Nat} {v : Value} (h : WrV w B v n s) (hb : B' ≤ B) : WrV w B' v n s := by
  obtain ⟨ao, cap, rfl, h1⟩ := h
  refine ⟨ao, cap, rfl, ?_⟩
  rcases h1 with h1 | ⟨g, rfl, h2, h3⟩
  · exact .inl h1
  · exact .inr ⟨g, rfl, by omega, h3⟩
theorem WrV.put {w : World} {B n s : Nat} {v : Value} (h : WrV w B v n s) (a : Addr) (x : Value) : WrV (w.setCell a x) B v n s := by
  obtain ⟨ao, cap, rfl, h1⟩ := h
  refine ⟨ao, cap, rfl, ?_⟩
  rcases h1 with h1 | ⟨g, rfl, h2, h3⟩
  · exact .inl h1
  · refine .inr ⟨g, rfl, h2, fun j hj => ?_⟩
    obtain ⟨⟨u, h4⟩, h5⟩ := h3 j hj
    refine ⟨?_, by simpa using h5⟩
    by_cases e : a = ⟨g, j, none⟩
    · subst e; exact ⟨x, World.cell?_setCell_same _ _ _ h4⟩
    · exact ⟨u, by rw [World.cell?_setCell_other _ _ _ _ e]; exact h4⟩
section
variable {w w' : World} {D : Nat → Prop} {N : Nat} {L : List Ed} {rv : Value}
theorem firstJ_jB {L : List Ed} {t N m least : Nat} (h : ¬ firstJ L t N m least < 0) : ∃ k : Nat, firstJ L t N m least = (k : Int) ∧ k < N + 1 ∧ jB L t k m = true := by
  rcases firstJ_spec (L := L) (t := t) (N := N) (m := m) least with ⟨h1, _⟩ | ⟨k, h1, h2, h3, h4, _⟩
  · rw [h1] at h; omega
  · exact ⟨k, h1, by omega, h4⟩
set_option maxRecDepth 100000 in
set_option maxHeartbeats 2000000 in
theorem refPath_any (h : EdsV w D rv L) (hL : ∀ x ∈ L, (0 ≤ x.f ∧ x.f < (N : Int)) ∧ 0 ≤ x.t ∧ x.t < (N : Int)) (hl : L.length ≤ 1000000) (hN : N ≤ 100000) (f t : Int) :
    Calls Tryz.prog 28 #[.agg #[.int .i64 (N : Nat), rv], .int .i64 f, .int .i64 t] w fun e w' => ∃ v', e = .returned (.tuple #[v', .int .i64 (pathR L N f t).2]) ∧ Fx No w w' ∧ OwnR w' w.heap.size v' (pathR L N f t).1 := by
  have H := Lib.hid h
  have HL := Lib.hid hL
  obtain ⟨ro, rc, rfl, _⟩ := EdsV.facts h
  clear h hL
  by_cases o1 : okN N f
  · have D1 : Hid (decide (okN N f) = true) := Lib.hid (decide_eq_true o1)
    by_cases o2 : okN N t
    · have D2 : Hid (decide (okN N t) = true) := Lib.hid (decide_eq_true o2)
      have HE : Hid (pathR L N f t = if firstJ L t.toNat N f.toNat 0 < 0 then ([], 150) else (walkR L t.toNat (firstJ L t.toNat N f.toNat 0).toNat f.toNat, 0)) := Lib.hid (by unfold pathR; rw [if_pos ⟨o1, o2⟩])
      obtain ⟨f0, f1⟩ := o1
      obtain ⟨t0, t1⟩ := o2
      obtain ⟨a, rfl⟩ := Int.eq_ofNat_of_zero_le f0
      obtain ⟨c, rfl⟩ := Int.eq_ofNat_of_zero_le t0
      have ha : a < N := by omega
      have hc : c < N := by omega
      simp only [Int.toNat_natCast] at HE
      clear f0 f1 t0 t1
      by_cases hneg : firstJ L c N a 0 < 0
      · have HE2 := Lib.hid (HE.out.trans (if_pos hneg))
        have HNg : Hid (decide (firstJ L c N a 0 < 0) = true) := Lib.hid (decide_eq_true hneg)
        rw [HE2.out]
        clear hneg HE
        go_enter Tryz.func28, Tryz.ntmps28
        go_wp2_with fail
        refine calls_hold (fun W => Fx No w W ∧ W.cell? ⟨w.heap.size, 0, none⟩ = some (.int .i64 (N : Nat)) ∧ W.cell? ⟨w.heap.size, 1, none⟩ = some (.slice ro L.length rc)) ⟨(Fx.refl No _).alloc (.cells #[.int .i64 (N : Nat), .slice ro L.length rc] 34), by go_simp, by go_simp⟩ ?_
        rintro w1 ⟨hf, c0, c1⟩
        have HF := Lib.hid hf
        have HC0 := Lib.hid c0
        have HC1 := Lib.hid c1
        clear hf c0 c1
        refine (refNode_any N _ w1).mono ?_
        rw [D1.out]
        rintro e w2 ⟨rfl, hf⟩
        have HF := Lib.hid (HF.out.trans hf)
        have c0 := hf.cell' HC0.out (fun q => q)
        have c1 := hf.cell' HC1.out (fun q => q)
        clear hf HC0 HC1
        go_wp2_with fail
        have HC0 := Lib.hid c0
        have HC1 := Lib.hid c1
        clear c0 c1
        refine (refNode_any N _ w2).mono ?_
        rw [D2.out]
        rintro e w3 ⟨rfl, hf⟩
        have HF := Lib.hid (HF.out.trans hf)
        have c0 := hf.cell' HC0.out (fun q => q)
        have c1 := hf.cell' HC1.out (fun q => q)
        clear hf HC0 HC1
        go_wp2_with fail
        have HC0 := Lib.hid c0
        have HC1 := Lib.hid c1
        clear c0 c1
        refine (refJust_any (H.out.no HF.out) HL.out hN hc).mono ?_
        rintro e w4 ⟨jv, rfl, hf, hj⟩
        have HF := Lib.hid (HF.out.trans hf)
        have c0 := hf.cell' HC0.out (fun q => q)
        have c1 := hf.cell' HC1.out (fun q => q)
        have HJ := Lib.hid hj
        clear hj
        clear hf HC0 HC1
        go_wp2_with fail
        have HC0 := Lib.hid c0
        have HC1 := Lib.hid c1
        clear c0 c1
        refine (refFirst_any (least := 0) rfl HJ.out ha (by omega) (by omega)).mono ?_
        rintro e w5 ⟨rfl, hf⟩
        have HF := Lib.hid (HF.out.trans hf)
        have c0 := hf.cell' HC0.out (fun q => q)
        have c1 := hf.cell' HC1.out (fun q => q)
        have d1 := HNg.out
        clear hf HC0 HC1
        go_wp2
        go_ret2
        exact ⟨_, rfl, HF.out, OwnT.nil _ _⟩
      · have HE2 := Lib.hid (HE.out.trans (if_neg hneg))
        obtain ⟨k, hk, hk1, hk2⟩ := firstJ_jB hneg
        have HKb := Lib.hid hk2
        have HKe := Lib.hid hk
        have hkn : decide ((k : Int) < 0) = false := decide_eq_false (by omega)
        rw [hk] at HE2
        simp only [Int.toNat_natCast] at HE2
        rw [HE2.out]
        clear hneg HE hk hk2
        go_enter Tryz.func28, Tryz.ntmps28
        go_wp2_with fail
        refine calls_hold (fun W => Fx No w W ∧ W.cell? ⟨w.heap.size, 0, none⟩ = some (.int .i64 (N : Nat)) ∧ W.cell? ⟨w.heap.size, 1, none⟩ = some (.slice ro L.length rc)) ⟨(Fx.refl No _).alloc (.cells #[.int .i64 (N : Nat), .slice ro L.length rc] 34), by go_simp, by go_simp⟩ ?_
        rintro w1 ⟨hf, c0, c1⟩
        have HF := Lib.hid hf
        have HC0 := Lib.hid c0
        have HC1 := Lib.hid c1
        clear hf c0 c1
        refine (refNode_any N _ w1).mono ?_
        rw [D1.out]
        rintro e w2 ⟨rfl, hf⟩
        have HF := Lib.hid (HF.out.trans hf)
        have c0 := hf.cell' HC0.out (fun q => q)
        have c1 := hf.cell' HC1.out (fun q => q)
        clear hf HC0 HC1
        go_wp2_with fail
        have HC0 := Lib.hid c0
        have HC1 := Lib.hid c1
        clear c0 c1
        refine (refNode_any N _ w2).mono ?_
        rw [D2.out]
        rintro e w3 ⟨rfl, hf⟩
        have HF := Lib.hid (HF.out.trans hf)
        have c0 := hf.cell' HC0.out (fun q => q)
        have c1 := hf.cell' HC1.out (fun q => q)
        clear hf HC0 HC1
        go_wp2_with fail
        have HC0 := Lib.hid c0
        have HC1 := Lib.hid c1
        clear c0 c1
        refine (refJust_any (H.out.no HF.out) HL.out hN hc).mono ?_
        rintro e w4 ⟨jv, rfl, hf, hj⟩
        have HF := Lib.hid (HF.out.trans hf)
        have c0 := hf.cell' HC0.out (fun q => q)
        have c1 := hf.cell' HC1.out (fun q => q)
        have HJ := Lib.hid hj
        clear hj
        clear hf HC0 HC1
        go_wp2_with fail
        have HC0 := Lib.hid c0
        have HC1 := Lib.hid c1
        clear c0 c1
        refine (refFirst_any (least := 0) rfl HJ.out ha (by omega) (by omega)).mono ?_
        rw [HKe.out]
        rintro e w5 ⟨rfl, hf⟩
        have HF := Lib.hid (HF.out.trans hf)
        have c0 := hf.cell' HC0.out (fun q => q)
        have c1 := hf.cell' HC1.out (fun q => q)
        have HJ := Lib.hid (HJ.out.no hf)
        clear hf HC0 HC1
        go_wp2_with fail
        have HC0 := Lib.hid c0
        have HC1 := Lib.hid c1
        clear c0 c1
        refine (refWalk_any (H.out.no HF.out) HL.out hl hN rfl HJ.out hk1 ha HKb.out).mono ?_
        rintro e w6 ⟨v, rfl, hf, ho⟩
        have HF0 := HF
        have HF := Lib.hid (HF0.out.trans hf)
        have c0 := hf.cell' HC0.out (fun q => q)
        have c1 := hf.cell' HC1.out (fun q => q)
        have HO := Lib.hid ho
        have hz5 := HF0.out.size
        clear ho
        clear hf HC0 HC1
        go_wp2
        go_ret2
        exact ⟨_, rfl, HF.out, OwnT.base HO.out hz5⟩
    · have D2 : Hid (decide (okN N t) = false) := Lib.hid (decide_eq_false o2)
      have HE : Hid (pathR L N f t = ([], 130)) := Lib.hid (by unfold pathR; rw [if_neg (fun q => o2 q.2)])
      rw [HE.out]
      clear o1 o2
      go_enter Tryz.func28, Tryz.ntmps28
      go_wp2_with fail
      refine calls_hold (fun W => Fx No w W ∧ W.cell? ⟨w.heap.size, 0, none⟩ = some (.int .i64 (N : Nat)) ∧ W.cell? ⟨w.heap.size, 1, none⟩ = some (.slice ro L.length rc)) ⟨(Fx.refl No _).alloc (.cells #[.int .i64 (N : Nat), .slice ro L.length rc] 34), by go_simp, by go_simp⟩ ?_
      rintro w1 ⟨hf, c0, c1⟩
      have HF := Lib.hid hf
      have HC0 := Lib.hid c0
      have HC1 := Lib.hid c1
      clear hf c0 c1
      refine (refNode_any N _ w1).mono ?_
      rw [D1.out]
      rintro e w2 ⟨rfl, hf⟩
      have HF := Lib.hid (HF.out.trans hf)
      have c0 := hf.cell' HC0.out (fun q => q)
      have c1 := hf.cell' HC1.out (fun q => q)
      clear hf HC0 HC1
      go_wp2_with fail
      have HC0 := Lib.hid c0
      have HC1 := Lib.hid c1
      clear c0 c1
      refine (refNode_any N _ w2).mono ?_
      rw [D2.out]
      rintro e w3 ⟨rfl, hf⟩
      have HF := Lib.hid (HF.out.trans hf)
      have c0 := hf.cell' HC0.out (fun q => q)
      have c1 := hf.cell' HC1.out (fun q => q)
      clear hf HC0 HC1
      go_wp2
      go_ret2
      exact ⟨_, rfl, HF.out, OwnT.nil _ _⟩
  · have D1 : Hid (decide (okN N f) = false) := Lib.hid (decide_eq_false o1)
    have HE : Hid (pathR L N f t = ([], 130)) := Lib.hid (by unfold pathR; rw [if_neg (fun q => o1 q.1)])
    rw [HE.out]
    clear o1
    go_enter Tryz.func28, Tryz.ntmps28
    go_wp2_with fail
    refine calls_hold (fun W => Fx No w W ∧ W.cell? ⟨w.heap.size, 0, none⟩ = some (.int .i64 (N : Nat)) ∧ W.cell? ⟨w.heap.size, 1, none⟩ = some (.slice ro L.length rc)) ⟨(Fx.refl No _).alloc (.cells #[.int .i64 (N : Nat), .slice ro L.length rc] 34), by go_simp, by go_simp⟩ ?_
    rintro w1 ⟨hf, c0, c1⟩
    have HF := Lib.hid hf
    have HC0 := Lib.hid c0
    have HC1 := Lib.hid c1
    clear hf c0 c1
    refine (refNode_any N _ w1).mono ?_
    rw [D1.out]
    rintro e w2 ⟨rfl, hf⟩
    have HF := Lib.hid (HF.out.trans hf)
    have c0 := hf.cell' HC0.out (fun q => q)
    have c1 := hf.cell' HC1.out (fun q => q)
    clear hf HC0 HC1
    go_wp2
    go_ret2
    exact ⟨_, rfl, HF.out, OwnT.nil _ _⟩
set_option maxRecDepth 100000 in
set_option maxHeartbeats 2000000 in
theorem refThrough_any (h : EdsV w D rv L) (hL : ∀ x ∈ L, (0 ≤ x.f ∧ x.f < (N : Int)) ∧ 0 ≤ x.t ∧ x.t < (N : Int)) (hl : L.length ≤ 1000000) (hN : N ≤ 100000) (n : Int) :
    Calls Tryz.prog 30 #[.agg #[.int .i64 (N : Nat), rv], .int .i64 n] w fun e w' => ∃ v', e = .returned (.tuple #[v', .int .i64 (throughR L N n).2]) ∧ Fx No w w' ∧ OwnR w' w.heap.size v' (throughR L N n).1 := by
  have H := Lib.hid h
  have HL := Lib.hid hL
  obtain ⟨ro, rc, rfl, _⟩ := EdsV.facts h
  clear h hL
  by_cases o1 : okN N n
  · have D1 : Hid (decide (okN N n) = true) := Lib.hid (decide_eq_true o1)
    have HE : Hid (throughR L N n = if firstJ L n.toNat N n.toNat 1 < 0 then ([], 150) else (walkR L n.toNat (firstJ L n.toNat N n.toNat 1).toNat n.toNat, 0)) := Lib.hid (by unfold throughR; rw [if_pos o1])
    obtain ⟨f0, f1⟩ := o1
    obtain ⟨a, rfl⟩ := Int.eq_ofNat_of_zero_le f0
    have ha : a < N := by omega
    simp only [Int.toNat_natCast] at HE
    clear f0 f1
    by_cases hneg : firstJ L a N a 1 < 0
    · have HE2 := Lib.hid (HE.out.trans (if_pos hneg))
      have HNg : Hid (decide (firstJ L a N a 1 < 0) = true) := Lib.hid (decide_eq_true hneg)
      rw [HE2.out]
      clear hneg HE
      go_enter Tryz.func30, Tryz.ntmps30
      go_wp2_with fail
      refine calls_hold (fun W => Fx No w W ∧ W.cell? ⟨w.heap.size, 0, none⟩ = some (.int .i64 (N : Nat)) ∧ W.cell? ⟨w.heap.size, 1, none⟩ = some (.slice ro L.length rc)) ⟨(Fx.refl No _).alloc (.cells #[.int .i64 (N : Nat), .slice ro L.length rc] 34), by go_simp, by go_simp⟩ ?_
      rintro w1 ⟨hf, c0, c1⟩
      have HF := Lib.hid hf
      have HC0 := Lib.hid c0
      have HC1 := Lib.hid c1
      clear hf c0 c1
      refine (refNode_any N _ w1).mono ?_
      rw [D1.out]
      rintro e w2 ⟨rfl, hf⟩
      have HF := Lib.hid (HF.out.trans hf)
      have c0 := hf.cell' HC0.out (fun q => q)
      have c1 := hf.cell' HC1.out (fun q => q)
      clear hf HC0 HC1
      go_wp2_with fail
      have HC0 := Lib.hid c0
      have HC1 := Lib.hid c1
      clear c0 c1
      refine (refJust_any (H.out.no HF.out) HL.out hN ha).mono ?_
      rintro e w4 ⟨jv, rfl, hf, hj⟩
      have HF := Lib.hid (HF.out.trans hf)
      have c0 := hf.cell' HC0.out (fun q => q)
      have c1 := hf.cell' HC1.out (fun q => q)
      have HJ := Lib.hid hj
      clear hj
      clear hf HC0 HC1
      go_wp2_with fail
      have HC0 := Lib.hid c0
      have HC1 := Lib.hid c1
      clear c0 c1
      refine (refFirst_any (least := 1) rfl HJ.out ha (by omega) (by omega)).mono ?_
      rintro e w5 ⟨rfl, hf⟩
      have HF := Lib.hid (HF.out.trans hf)
      have c0 := hf.cell' HC0.out (fun q => q)
      have c1 := hf.cell' HC1.out (fun q => q)
      have d1 := HNg.out
      clear hf HC0 HC1
      go_wp2
      go_ret2
      exact ⟨_, rfl, HF.out, OwnT.nil _ _⟩
    · have HE2 := Lib.hid (HE.out.trans (if_neg hneg))
      obtain ⟨k, hk, hk1, hk2⟩ := firstJ_jB hneg
      have HKb := Lib.hid hk2
      have HKe := Lib.hid hk
      have hkn : decide ((k : Int) < 0) = false := decide_eq_false (by omega)
      rw [hk] at HE2
      simp only [Int.toNat_natCast] at HE2
      rw [HE2.out]
      clear hneg HE hk hk2
      go_enter Tryz.func30, Tryz.ntmps30
      go_wp2_with fail
      refine calls_hold (fun W => Fx No w W ∧ W.cell? ⟨w.heap.size, 0, none⟩ = some (.int .i64 (N : Nat)) ∧ W.cell? ⟨w.heap.size, 1, none⟩ = some (.slice ro L.length rc)) ⟨(Fx.refl No _).alloc (.cells #[.int .i64 (N : Nat), .slice ro L.length rc] 34), by go_simp, by go_simp⟩ ?_
      rintro w1 ⟨hf, c0, c1⟩
      have HF := Lib.hid hf
      have HC0 := Lib.hid c0
      have HC1 := Lib.hid c1
      clear hf c0 c1
      refine (refNode_any N _ w1).mono ?_
      rw [D1.out]
      rintro e w2 ⟨rfl, hf⟩
      have HF := Lib.hid (HF.out.trans hf)
      have c0 := hf.cell' HC0.out (fun q => q)
      have c1 := hf.cell' HC1.out (fun q => q)
      clear hf HC0 HC1
      go_wp2_with fail
      have HC0 := Lib.hid c0
      have HC1 := Lib.hid c1
      clear c0 c1
      refine (refJust_any (H.out.no HF.out) HL.out hN ha).mono ?_
      rintro e w4 ⟨jv, rfl, hf, hj⟩
      have HF := Lib.hid (HF.out.trans hf)
      have c0 := hf.cell' HC0.out (fun q => q)
      have c1 := hf.cell' HC1.out (fun q => q)
      have HJ := Lib.hid hj
      clear hj
      clear hf HC0 HC1
      go_wp2_with fail
      have HC0 := Lib.hid c0
      have HC1 := Lib.hid c1
      clear c0 c1
      refine (refFirst_any (least := 1) rfl HJ.out ha (by omega) (by omega)).mono ?_
      rw [HKe.out]
      rintro e w5 ⟨rfl, hf⟩
      have HF := Lib.hid (HF.out.trans hf)
      have c0 := hf.cell' HC0.out (fun q => q)
      have c1 := hf.cell' HC1.out (fun q => q)
      have HJ := Lib.hid (HJ.out.no hf)
      clear hf HC0 HC1
      go_wp2_with fail
      have HC0 := Lib.hid c0
      have HC1 := Lib.hid c1
      clear c0 c1
      refine (refWalk_any (H.out.no HF.out) HL.out hl hN rfl HJ.out hk1 ha HKb.out).mono ?_
      rintro e w6 ⟨v, rfl, hf, ho⟩
      have HF0 := HF
      have HF := Lib.hid (HF0.out.trans hf)
      have c0 := hf.cell' HC0.out (fun q => q)
      have c1 := hf.cell' HC1.out (fun q => q)
      have HO := Lib.hid ho
      have hz5 := HF0.out.size
      clear ho
      clear hf HC0 HC1
      go_wp2
      go_ret2
      exact ⟨_, rfl, HF.out, OwnT.base HO.out hz5⟩
  · have D1 : Hid (decide (okN N n) = false) := Lib.hid (decide_eq_false o1)
    have HE : Hid (throughR L N n = ([], 130)) := Lib.hid (by unfold throughR; rw [if_neg o1])
    rw [HE.out]
    clear o1
    go_enter Tryz.func30, Tryz.ntmps30
    go_wp2_with fail
    refine calls_hold (fun W => Fx No w W ∧ W.cell? ⟨w.heap.size, 0, none⟩ = some (.int .i64 (N : Nat)) ∧ W.cell? ⟨w.heap.size, 1, none⟩ = some (.slice ro L.length rc)) ⟨(Fx.refl No _).alloc (.cells #[.int .i64 (N : Nat), .slice ro L.length rc] 34), by go_simp, by go_simp⟩ ?_
    rintro w1 ⟨hf, c0, c1⟩
    have HF := Lib.hid hf
    have HC0 := Lib.hid c0
    have HC1 := Lib.hid c1
    clear hf c0 c1
    refine (refNode_any N _ w1).mono ?_
    rw [D1.out]
    rintro e w2 ⟨rfl, hf⟩
    have HF := Lib.hid (HF.out.trans hf)
    have c0 := hf.cell' HC0.out (fun q => q)
    have c1 := hf.cell' HC1.out (fun q => q)
    clear hf HC0 HC1
    go_wp2
    go_ret2
    exact ⟨_, rfl, HF.out, OwnT.nil _ _⟩
set_option maxRecDepth 100000 in
set_option maxHeartbeats 2000000 in
theorem refFar_any (h : EdsV w D rv L) (hL : ∀ x ∈ L, (0 ≤ x.f ∧ x.f < (N : Int)) ∧ 0 ≤ x.t ∧ x.t < (N : Int)) (hl : L.length ≤ 1000000) (hN : N ≤ 100000) (t : Int) :
    Calls Tryz.prog 34 #[.agg #[.int .i64 (N : Nat), rv], .int .i64 t] w fun e w' => ∃ v', e = .returned (.tuple #[v', .int .i64 (farR L N t).2]) ∧ Fx No w w' ∧ IntsV w' (Iv w.heap.size w'.heap.size) v' (farR L N t).1 := by
  obtain ⟨ii, hi, hz, hs, hbb⟩ := info_intY
  have H := Lib.hid h
  have HL := Lib.hid hL
  obtain ⟨ro, rc, rfl, _⟩ := EdsV.facts h
  clear h hL
  by_cases o1 : okN N t
  · have D1 : Hid (decide (okN N t) = true) := Lib.hid (decide_eq_true o1)
    have HE : Hid (farR L N t = ((List.range N).map fun m => firstJ L t.toNat N m 0, 0)) := Lib.hid (by unfold farR; rw [if_pos o1])
    obtain ⟨f0, f1⟩ := o1
    obtain ⟨a, rfl⟩ := Int.eq_ofNat_of_zero_le f0
    have ha : a < N := by omega
    simp only [Int.toNat_natCast] at HE
    clear f0 f1
    rw [HE.out]
    go_enter Tryz.func34, Tryz.ntmps34
    go_wp2_with fail
    refine calls_hold (fun W => Fx No w W ∧ W.cell? ⟨w.heap.size, 0, none⟩ = some (.int .i64 (N : Nat)) ∧ W.cell? ⟨w.heap.size, 1, none⟩ = some (.slice ro L.length rc)) ⟨(Fx.refl No _).alloc (.cells #[.int .i64 (N : Nat), .slice ro L.length rc] 34), by go_simp, by go_simp⟩ ?_
    rintro w1 ⟨hf, c0, c1⟩
    have HF := Lib.hid hf
    have HC0 := Lib.hid c0
    have HC1 := Lib.hid c1
    clear hf c0 c1
    refine (refNode_any N _ w1).mono ?_
    rw [D1.out]
    rintro e w2 ⟨rfl, hf⟩
    have HF := Lib.hid (HF.out.trans hf)
    have c0 := hf.cell' HC0.out (fun q => q)
    have c1 := hf.cell' HC1.out (fun q => q)
    clear hf HC0 HC1
    go_wp2_with fail
    have HC0 := Lib.hid c0
    have HC1 := Lib.hid c1
    clear c0 c1
    refine (refJust_any (H.out.no HF.out) HL.out hN ha).mono ?_
    rintro e w4 ⟨jv, rfl, hf, hj⟩
    have HF := Lib.hid (HF.out.trans hf)
    have c0 := hf.cell' HC0.out (fun q => q)
    have c1 := hf.cell' HC1.out (fun q => q)
    have HJ := Lib.hid hj
    clear hj
    clear hf HC0 HC1
    have HC0 := Lib.hid c0
    have z4 := HF.out.size
    clear c0 c1
    go_wp2
    go_loopw [6, 8] (fun l i ws => ∃ k : Nat, i = .int .i64 k ∧ k ≤ N ∧ Fx No w4 ws ∧ ws.ownsRow w4.heap.size 3 1 l k (ints ((List.range k).map fun m => firstJ L a N m 0))) (fun _ i _ => N - (intOf i).toNat)
    case atStart => exact ⟨0, rfl, Nat.zero_le _, Fx.refl _ _, World.ownsRow_nil _ _ _ _⟩
    case round =>
      obtain ⟨k, rfl, hk, hf, ho⟩ := hrel
      have HFw := Lib.hid hf
      have HO := Lib.hid ho
      have c0 := hf.cell' HC0.out (fun q => q)
      have hzr := hf.size
      clear hf ho
      by_cases hlt : k < N
      · have hk0 : (0 : Int) ≤ (k : Int) := by omega
        have hk1 : (k : Int) < (N : Int) := by omega
        go_wp2_with fail
        refine (refFirst_any (least := 0) rfl (HJ.out.no HFw.out) hlt (by omega) (by omega)).mono ?_
        rintro e wc ⟨rfl, hf⟩
        have HFc := Lib.hid (HFw.out.trans hf)
        have HOc := Lib.hid (ownsRow_fx HO.out hf fun _ _ q => q)
        have hzc := hf.size
        obtain ⟨x, hx⟩ : ∃ x, x = firstJ L a N k 0 := ⟨_, rfl⟩
        rw [← hx]
        have HX := Lib.hid hx
        clear hf c0 hx HO
        go_wp2_with (at_builtin; refine wpList_append_sl rfl _ _ 23 rfl w4.heap.size 3 Tryz.underlying23 hi hz hs hbb rfl (by decide) rfl (World.ownsRow.alloc HOc.out _) rfl (SlV.lit _ 3 #[.int .i64 x] 1 1 rfl (by unfold maxLen; omega)) (ints_one [_]) (by unfold maxLen; omega) (by omega) (by simp; omega) ?_)
        intro v2 w2 ho hf _
        have HO2 : Hid (w2.ownsRow w4.heap.size 3 1 v2 (k + 1) (ints ((List.range (k + 1)).map fun m => firstJ L a N m 0))) := Lib.hid (by
          have h1 := ho
          rw [show ints ((List.range (k + 1)).map fun m => firstJ L a N m 0) = ints ((List.range k).map fun m => firstJ L a N m 0) ++ [.int .i64 x] by rw [List.range_succ, HX.out]; simp [ints]]
          exact h1)
        have HF2 : Hid (Fx No w4 w2) := Lib.hid ((HFc.out.alloc _).trans' hf fun j h1 h2 => by have := (World.ownsRow.lt HOc.out j h1).1; omega)
        clear ho hf
        go_wp2
        go_roundw
        case rel => exact ⟨k + 1, by go_num, by omega, HF2.out, HO2.out⟩
        case measure => simp [intOf]; omega
      · obtain rfl : k = N := by omega
        go_wp2
        go_ret2
        refine ⟨_, rfl, HF.out.trans HFw.out, ?_⟩
        have h1 := SlV.ofOwns HO.out
        unfold IntsV
        rw [show ((List.range k).map fun m => firstJ L a k m 0).length = k by simp]
        exact SlV.mono h1 fun j hj => ⟨Nat.le_trans z4 hj.1, hj.2⟩
  · have D1 : Hid (decide (okN N t) = false) := Lib.hid (decide_eq_false o1)
    have HE : Hid (farR L N t = ([], 130)) := Lib.hid (by unfold farR; rw [if_neg o1])
    rw [HE.out]
    clear o1
    go_enter Tryz.func34, Tryz.ntmps34
    go_wp2_with fail
    refine calls_hold (fun W => Fx No w W ∧ W.cell? ⟨w.heap.size, 0, none⟩ = some (.int .i64 (N : Nat)) ∧ W.cell? ⟨w.heap.size, 1, none⟩ = some (.slice ro L.length rc)) ⟨(Fx.refl No _).alloc (.cells #[.int .i64 (N : Nat), .slice ro L.length rc] 34), by go_simp, by go_simp⟩ ?_
    rintro w1 ⟨hf, c0, c1⟩
    have HF := Lib.hid hf
    have HC0 := Lib.hid c0
    have HC1 := Lib.hid c1
    clear hf c0 c1
    refine (refNode_any N _ w1).mono ?_
    rw [D1.out]
    rintro e w2 ⟨rfl, hf⟩
    have HF := Lib.hid (HF.out.trans hf)
    have c0 := hf.cell' HC0.out (fun q => q)
    have c1 := hf.cell' HC1.out (fun q => q)
    clear hf HC0 HC1
    go_wp2
    go_ret2
    exact ⟨_, rfl, HF.out, SlV.nil _ _ _⟩
set_option maxRecDepth 100000 in
set_option maxHeartbeats 2000000 in
theorem refShort_any (h : EdsV w D rv L) (hL : ∀ x ∈ L, (0 ≤ x.f ∧ x.f < (N : Int)) ∧ 0 ≤ x.t ∧ x.t < (N : Int)) (hl : L.length ≤ 1000000) (hN : N ≤ 100000) :
    Calls Tryz.prog 32 #[.agg #[.int .i64 (N : Nat), rv]] w fun e w' => ∃ v', e = .returned (.tuple #[v', .int .i64 (shortR L N).2]) ∧ Fx No w w' ∧ OwnR w' w.heap.size v' (shortR L N).1 := by
  have H := Lib.hid h
  have HL := Lib.hid hL
  obtain ⟨ro, rc, rfl, _⟩ := EdsV.facts h
  clear h hL
  go_enter Tryz.func32, Tryz.ntmps32
  go_wp2_with fail
  refine wp_hold (fun W => Fx No w W ∧ W.cell? ⟨w.heap.size, 0, none⟩ = some (.int .i64 (N : Nat)) ∧ W.cell? ⟨w.heap.size, 1, none⟩ = some (.slice ro L.length rc)) ⟨(Fx.refl No _).alloc _, by go_simp, by go_simp⟩ ?_
  rintro w1 ⟨hF1, c0, c1⟩
  obtain ⟨cb, hcb⟩ : ∃ q, q = w.heap.size := ⟨_, rfl⟩
  rw [← hcb] at c0 c1 ⊢
  have HF1 := Lib.hid hF1
  have HC0 := Lib.hid c0
  have HC1 := Lib.hid c1
  have z1 : cb ≤ w1.heap.size := by rw [hcb]; exact hF1.size
  clear hF1 c0 c1 hcb
  go_loopw [4, 5] (fun l i ws => ∃ k : Nat, i = .int .i64 k ∧ k ≤ N ∧ Fx No w1 ws ∧ OwnR ws w1.heap.size l (bestR L N k)) (fun _ i _ => N - (intOf i).toNat)
  case atStart => exact ⟨0, rfl, Nat.zero_le _, Fx.refl _ _, OwnT.nil _ _⟩
  case round =>
    obtain ⟨k, rfl, hk, hf, ho⟩ := hrel
    have HFw := Lib.hid hf
    have HO := Lib.hid ho
    have c0 := hf.cell' HC0.out (fun q => q)
    have c1 := hf.cell' HC1.out (fun q => q)
    have hzr := hf.size
    clear hf ho
    by_cases hlt : k < N
    · have hk0 : (0 : Int) ≤ (k : Int) := by omega
      have hk1 : (k : Int) < (N : Int) := by omega
      go_wp2_with fail
      refine (refThrough_any (H.out.no (HF1.out.trans HFw.out)) HL.out hl hN (k : Int)).mono ?_
      rintro e wc ⟨tv, rfl, hf, ht⟩
      have HFc := Lib.hid (HFw.out.trans hf)
      have HOc := Lib.hid (OwnT.no HO.out hf)
      have HT := Lib.hid (OwnT.base ht (Nat.le_trans hzr (Nat.le_refl _)))
      obtain ⟨tob, tc, rfl, _⟩ := EdsV.facts (OwnT.row ht)
      obtain ⟨bo, bc, rfl, _⟩ := EdsV.facts (OwnT.row HO.out)
      have HBr : Hid (bestR L N (k + 1) = if (throughR L N (k : Int)).2 = 0 ∧ (bestR L N k = [] ∨ (throughR L N (k : Int)).1.length < (bestR L N k).length) then (throughR L N (k : Int)).1 else bestR L N k) := Lib.hid rfl
      obtain ⟨tr, htr⟩ : ∃ x, x = throughR L N (k : Int) := ⟨_, rfl⟩
      obtain ⟨br, hbr⟩ : ∃ x, x = bestR L N k := ⟨_, rfl⟩
      rw [← htr, ← hbr] at HBr
      rw [← htr] at HT ⊢
      rw [← hbr] at HOc ⊢
      clear hf ht c0 c1 htr hbr HO
      obtain ⟨tl, te⟩ := tr
      simp only at HT HBr ⊢
      by_cases e1 : te = 0
      · have d1 : (te == 0) = true := by simpa using e1
        by_cases e2 : br = []
        · have d2 : ((br.length : Int) == 0) = true := by simp [e2]
          have HN : Hid (bestR L N (k + 1) = tl) := Lib.hid (by rw [HBr.out, if_pos ⟨e1, .inl e2⟩])
          go_wp2
          go_roundw
          case rel => exact ⟨k + 1, by go_num, by omega, HFc.out, by rw [HN.out]; exact HT.out⟩
          case measure => simp [intOf]; omega
        · have d2 : ((br.length : Int) == 0) = false := by
            have : br.length ≠ 0 := fun q => e2 (List.eq_nil_of_length_eq_zero q)
            simpa using e2
          by_cases e3 : tl.length < br.length
          · have d3 : decide ((tl.length : Int) < (br.length : Int)) = true := decide_eq_true (by omega)
            have HN : Hid (bestR L N (k + 1) = tl) := Lib.hid (by rw [HBr.out, if_pos ⟨e1, .inr e3⟩])
            go_wp2
            go_roundw
            case rel => exact ⟨k + 1, by go_num, by omega, HFc.out, by rw [HN.out]; exact HT.out⟩
            case measure => simp [intOf]; omega
          · have d3 : decide ((tl.length : Int) < (br.length : Int)) = false := decide_eq_false (by omega)
            have HN : Hid (bestR L N (k + 1) = br) := Lib.hid (by rw [HBr.out, if_neg (fun q => q.2.elim e2 e3)])
            go_wp2
            go_roundw
            case rel => exact ⟨k + 1, by go_num, by omega, HFc.out, by rw [HN.out]; exact HOc.out⟩
            case measure => simp [intOf]; omega
      · have d1 : (te == 0) = false := by simpa using e1
        have HN : Hid (bestR L N (k + 1) = br) := Lib.hid (by rw [HBr.out, if_neg (fun q => e1 q.1)])
        go_wp2
        go_roundw
        case rel => exact ⟨k + 1, by go_num, by omega, HFc.out, by rw [HN.out]; exact HOc.out⟩
        case measure => simp [intOf]; omega
    · obtain rfl : k = N := by omega
      obtain ⟨bo, bc, rfl, _⟩ := EdsV.facts (OwnT.row HO.out)
      have HSr : Hid (shortR L k = if bestR L k k = [] then ([], 150) else (bestR L k k, 0)) := Lib.hid rfl
      by_cases e2 : bestR L k k = []
      · have HE2 := Lib.hid (HSr.out.trans (if_pos e2))
        have d2 : (((bestR L k k).length : Int) == 0) = true := by simp [e2]
        clear HSr
        go_wp2
        go_ret2
        exact ⟨_, by rw [HE2.out]; rfl, HF1.out.trans HFw.out, by rw [HE2.out]; exact OwnT.nil _ _⟩
      · have HE2 := Lib.hid (HSr.out.trans (if_neg e2))
        have d2 : (((bestR L k k).length : Int) == 0) = false := by simpa using e2
        clear HSr
        go_wp2
        go_ret2
        exact ⟨_, by rw [HE2.out]; rfl, HF1.out.trans HFw.out, by rw [HE2.out]; exact OwnT.base HO.out HF1.out.size⟩
end
#print axioms refShort_any
end Go.Proofs.YtgacknphjeiojaaGreat

namespace Go.Proofs.YtgacknphjeiojaaGreat
open Go.RowKit
set_option linter.unusedVariables false

theorem path_len (L : List Ed) (N : Nat) (f t : Int) : (pathR L N f t).1.length ≤ N := by
  unfold pathR
  split
  · split
    · simp
    · rw [walkR_len]
      have := firstJ_le (L := L) (t := t.toNat) (N := N) (m := f.toNat) (least := 0)
      omega
  · simp
theorem short_len (L : List Ed) (N : Nat) : (shortR L N).1.length ≤ N := by
  unfold shortR
  split
  · simp
  · exact best_len L N N
theorem far_len (L : List Ed) (N : Nat) (t : Int) : (farR L N t).1.length ≤ N := by
  unfold farR
  split <;> simp
section
variable {w w' : World} {E : Nat → Prop} {l : List Ed} {v : Value}
set_option maxRecDepth 100000 in
set_option maxHeartbeats 4000000 in
theorem paths_any (n : Int) (h : EdsV w E v l) (hok : ∀ x ∈ l, x.ok) (f t : Int) : Calls Tryz.prog 5 #[.int .i64 n, v, .int .i64 f, .int .i64 t] w fun e w' => e = .returned (.bool true) ∧ Fx No w w' := by
  have HE := Lib.hid h
  have HOk := Lib.hid hok
  obtain ⟨ao, cap, rfl, hcl, hcm, _⟩ := EdsV.facts h
  clear h hok
  by_cases h1 : 40 < l.length
  · have d1 : decide ((40 : Int) < (l.length : Int)) = true := decide_eq_true (by omega)
    go_enter Tryz.func5, Tryz.ntmps5
    go_wp2_with fail
    refine (works_any _).mono ?_
    rintro e w1 ⟨rfl, hf⟩
    have HF := Lib.hid hf
    clear hf
    go_wp2
    go_ret
    exact ⟨rfl, HF.out⟩
  · have d1 : decide ((40 : Int) < (l.length : Int)) = false := decide_eq_false (by omega)
    have hl40 : l.length ≤ 40 := by omega
    clear h1
    go_enter Tryz.func5, Tryz.ntmps5
    go_wp2_with fail
    refine (drawn_any HE.out HOk.out (by omega) n 12 (by omega)).mono ?_
    rintro e w1 ⟨gb, N, L, rv, D, R, rfl, hD, hN, hL⟩
    obtain ⟨ro, rc, rfl, _⟩ := EdsV.facts hD.row
    have HD1 := Lib.hid hD
    have hL40 : L.length ≤ 40 := by omega
    clear hD
    go_wp2_with fail
    refine wp_hold (fun W => Fx No w1 W ∧ W.cell? ⟨w1.heap.size, 0, none⟩ = some (.int .i64 (N : Nat)) ∧ W.cell? ⟨w1.heap.size, 1, none⟩ = some (.slice ro L.length rc)) ⟨(Fx.refl No _).alloc _, by go_simp, by go_simp⟩ ?_
    rintro wx ⟨hfx, r0, r1⟩
    obtain ⟨rb, hrb⟩ : ∃ q, q = w1.heap.size := ⟨_, rfl⟩
    rw [← hrb] at r0 r1 ⊢
    have HGx := Lib.hid (HD1.out.g.no hfx)
    have HRx := Lib.hid (RowV.no HD1.out.row hfx)
    have HNd := Lib.hid HGx.out.nodes
    have HR0 := Lib.hid r0
    have HR1 := Lib.hid r1
    have HFx := Lib.hid (HD1.out.fx.trans hfx)
    clear r0 r1 hrb hfx HD1
    go_loopw [11] (fun i ws => ∃ k : Nat, i = .int .i64 k ∧ k ≤ 2 ∧ Fx No wx ws) (fun i _ => 2 - (intOf i).toNat)
    case atStart => exact ⟨0, rfl, by omega, Fx.refl _ _⟩
    case round =>
      obtain ⟨k, rfl, hk, hf⟩ := hrel
      obtain ⟨wo, hwo⟩ : ∃ x, x = wr := ⟨_, rfl⟩
      subst hwo
      have HF := Lib.hid hf
      have HC := Lib.hid (Fx.refl No wo)
      have HG := Lib.hid (HGx.out.no hf)
      have HRw := Lib.hid (RowV.no HRx.out hf)
      have r0 := hf.cell' HR0.out (fun q => q)
      have r1 := hf.cell' HR1.out (fun q => q)
      clear hf
      by_cases hlt : k < 2
      · have dk : (k : Int) < 2 := by omega
        go_wp2_with fail
        refine (path_any HG.out (by omega) f t).mono ?_
        rintro e wa ⟨va, rfl, hf, ho⟩
        have HG := Lib.hid (HG.out.no hf)
        have HRw := Lib.hid (RowV.no HRw.out hf)
        have HC0 := HC
        have HC := Lib.hid (HC0.out.trans hf)
        have r0 := hf.cell' r0 (fun q => q)
        have r1 := hf.cell' r1 (fun q => q)
        have HA := Lib.hid (OwnT.row ho)
        clear hf ho HC0
        go_wp2_with fail
        refine (refPath_any HRw.out HNd.out (by omega) (by omega) f t).mono ?_
        rintro e wb ⟨vb, rfl, hf, ho⟩
        have HG := Lib.hid (HG.out.no hf)
        have HRw := Lib.hid (RowV.no HRw.out hf)
        have HA := Lib.hid (RowV.no HA.out hf)
        have HC0 := HC
        have HC := Lib.hid (HC0.out.trans hf)
        have r0 := hf.cell' r0 (fun q => q)
        have r1 := hf.cell' r1 (fun q => q)
        have HB := Lib.hid (OwnT.row ho)
        clear hf ho HC0
        go_wp2_with fail
        refine (through_any HG.out (by omega) f).mono ?_
        rintro e wc ⟨vc, rfl, hf, ho⟩
        have HG := Lib.hid (HG.out.no hf)
        have HRw := Lib.hid (RowV.no HRw.out hf)
        have HA := Lib.hid (RowV.no HA.out hf)
        have HB := Lib.hid (RowV.no HB.out hf)
        have HC0 := HC
        have HC := Lib.hid (HC0.out.trans hf)
        have r0 := hf.cell' r0 (fun q => q)
        have r1 := hf.cell' r1 (fun q => q)
        have HTh := Lib.hid (OwnT.row ho)
        clear hf ho HC0
        go_wp2_with fail
        refine (refThrough_any HRw.out HNd.out (by omega) (by omega) f).mono ?_
        rintro e wd ⟨vd, rfl, hf, ho⟩
        have HG := Lib.hid (HG.out.no hf)
        have HRw := Lib.hid (RowV.no HRw.out hf)
        have HA := Lib.hid (RowV.no HA.out hf)
        have HB := Lib.hid (RowV.no HB.out hf)
        have HTh := Lib.hid (RowV.no HTh.out hf)
        have HC0 := HC
        have HC := Lib.hid (HC0.out.trans hf)
        have r0 := hf.cell' r0 (fun q => q)
        have r1 := hf.cell' r1 (fun q => q)
        have HDd := Lib.hid (OwnT.row ho)
        clear hf ho HC0
        go_wp2_with fail
        refine (short_any HG.out (by omega)).mono ?_
        rintro e we ⟨vp, rfl, hf, ho⟩
        have HG := Lib.hid (HG.out.no hf)
        have HRw := Lib.hid (RowV.no HRw.out hf)
        have HA := Lib.hid (RowV.no HA.out hf)
        have HB := Lib.hid (RowV.no HB.out hf)
        have HTh := Lib.hid (RowV.no HTh.out hf)
        have HDd := Lib.hid (RowV.no HDd.out hf)
        have HC0 := HC
        have HC := Lib.hid (HC0.out.trans hf)
        have r0 := hf.cell' r0 (fun q => q)
        have r1 := hf.cell' r1 (fun q => q)
        have HP := Lib.hid (OwnT.row ho)
        have HPw := Lib.hid ((WrV.ofOwn ho).base HC0.out.size)
        clear hf ho HC0
        go_wp2_with fail
        refine (refShort_any HRw.out HNd.out (by omega) (by omega)).mono ?_
        rintro e wf ⟨vq, rfl, hf, ho⟩
        have HG := Lib.hid (HG.out.no hf)
        have HRw := Lib.hid (RowV.no HRw.out hf)
        have HA := Lib.hid (RowV.no HA.out hf)
        have HB := Lib.hid (RowV.no HB.out hf)
        have HTh := Lib.hid (RowV.no HTh.out hf)
        have HDd := Lib.hid (RowV.no HDd.out hf)
        have HP := Lib.hid (RowV.no HP.out hf)
        have HPw := Lib.hid (HPw.out.no hf)
        have HC0 := HC
        have HC := Lib.hid (HC0.out.trans hf)
        have r0 := hf.cell' r0 (fun q => q)
        have r1 := hf.cell' r1 (fun q => q)
        have HQ := Lib.hid (OwnT.row ho)
        clear hf ho HC0
        go_wp2_with fail
        refine (far_any HG.out (by omega) t).mono ?_
        rintro e wg ⟨vu, rfl, hf, ho⟩
        have HG := Lib.hid (HG.out.no hf)
        have HRw := Lib.hid (RowV.no HRw.out hf)
        have HA := Lib.hid (RowV.no HA.out hf)
        have HB := Lib.hid (RowV.no HB.out hf)
        have HTh := Lib.hid (RowV.no HTh.out hf)
        have HDd := Lib.hid (RowV.no HDd.out hf)
        have HP := Lib.hid (RowV.no HP.out hf)
        have HPw := Lib.hid (HPw.out.no hf)
        have HQ := Lib.hid (RowV.no HQ.out hf)
        have HC0 := HC
        have HC := Lib.hid (HC0.out.trans hf)
        have r0 := hf.cell' r0 (fun q => q)
        have r1 := hf.cell' r1 (fun q => q)
        have HU := Lib.hid (ho.toInts)
        have HUw := Lib.hid ((WrV.ofRow ho).base HC0.out.size)
        clear hf ho HC0
        go_wp2_with fail
        refine (refFar_any HRw.out HNd.out (by omega) (by omega) t).mono ?_
        rintro e wh ⟨vv, rfl, hf, ho⟩
        have HG := Lib.hid (HG.out.no hf)
        have HRw := Lib.hid (RowV.no HRw.out hf)
        have HA := Lib.hid (RowV.no HA.out hf)
        have HB := Lib.hid (RowV.no HB.out hf)
        have HTh := Lib.hid (RowV.no HTh.out hf)
        have HDd := Lib.hid (RowV.no HDd.out hf)
        have HP := Lib.hid (RowV.no HP.out hf)
        have HPw := Lib.hid (HPw.out.no hf)
        have HQ := Lib.hid (RowV.no HQ.out hf)
        have HU := Lib.hid (IntsV.no HU.out hf)
        have HUw := Lib.hid (HUw.out.no hf)
        have HC0 := HC
        have HC := Lib.hid (HC0.out.trans hf)
        have r0 := hf.cell' r0 (fun q => q)
        have r1 := hf.cell' r1 (fun q => q)
        have HV := Lib.hid (ho)
        clear hf ho HC0
        go_wp2_with fail
        refine (docEdges_any HA.out (Nat.le_trans (path_len _ _ _ _) (by omega))).mono ?_
        rintro e wi ⟨xa, rfl, hf, ho⟩
        have HG := Lib.hid (HG.out.no hf)
        have HRw := Lib.hid (RowV.no HRw.out hf)
        have HA := Lib.hid (RowV.no HA.out hf)
        have HB := Lib.hid (RowV.no HB.out hf)
        have HTh := Lib.hid (RowV.no HTh.out hf)
        have HDd := Lib.hid (RowV.no HDd.out hf)
        have HP := Lib.hid (RowV.no HP.out hf)
        have HPw := Lib.hid (HPw.out.no hf)
        have HQ := Lib.hid (RowV.no HQ.out hf)
        have HU := Lib.hid (IntsV.no HU.out hf)
        have HUw := Lib.hid (HUw.out.no hf)
        have HV := Lib.hid (IntsV.no HV.out hf)
        have HC0 := HC
        have HC := Lib.hid (HC0.out.trans hf)
        have r0 := hf.cell' r0 (fun q => q)
        have r1 := hf.cell' r1 (fun q => q)
        have HXa := Lib.hid (OwnT.row ho)
        clear hf ho HC0
        go_wp2_with fail
        refine (sameEdges_any HXa.out HB.out).mono ?_
        rintro e wj ⟨rfl, hf⟩
        have HG := Lib.hid (HG.out.no hf)
        have HRw := Lib.hid (RowV.no HRw.out hf)
        have HA := Lib.hid (RowV.no HA.out hf)
        have HB := Lib.hid (RowV.no HB.out hf)
        have HTh := Lib.hid (RowV.no HTh.out hf)
        have HDd := Lib.hid (RowV.no HDd.out hf)
        have HP := Lib.hid (RowV.no HP.out hf)
        have HPw := Lib.hid (HPw.out.no hf)
        have HQ := Lib.hid (RowV.no HQ.out hf)
        have HU := Lib.hid (IntsV.no HU.out hf)
        have HUw := Lib.hid (HUw.out.no hf)
        have HV := Lib.hid (IntsV.no HV.out hf)
        have HXa := Lib.hid (RowV.no HXa.out hf)
        have HC0 := HC
        have HC := Lib.hid (HC0.out.trans hf)
        have r0 := hf.cell' r0 (fun q => q)
        have r1 := hf.cell' r1 (fun q => q)
        clear hf HC0
        go_wp2_with fail
        refine (docEdges_any HTh.out (Nat.le_trans (through_len _ _ _) (by omega))).mono ?_
        rintro e wk ⟨xb, rfl, hf, ho⟩
        have HG := Lib.hid (HG.out.no hf)
        have HRw := Lib.hid (RowV.no HRw.out hf)
        have HA := Lib.hid (RowV.no HA.out hf)
        have HB := Lib.hid (RowV.no HB.out hf)
        have HTh := Lib.hid (RowV.no HTh.out hf)
        have HDd := Lib.hid (RowV.no HDd.out hf)
        have HP := Lib.hid (RowV.no HP.out hf)
        have HPw := Lib.hid (HPw.out.no hf)
        have HQ := Lib.hid (RowV.no HQ.out hf)
        have HU := Lib.hid (IntsV.no HU.out hf)
        have HUw := Lib.hid (HUw.out.no hf)
        have HV := Lib.hid (IntsV.no HV.out hf)
        have HXa := Lib.hid (RowV.no HXa.out hf)
        have HC0 := HC
        have HC := Lib.hid (HC0.out.trans hf)
        have r0 := hf.cell' r0 (fun q => q)
        have r1 := hf.cell' r1 (fun q => q)
        have HXb := Lib.hid (OwnT.row ho)
        clear hf ho HC0
        go_wp2_with fail
        refine (sameEdges_any HXb.out HDd.out).mono ?_
        rintro e wl ⟨rfl, hf⟩
        have HG := Lib.hid (HG.out.no hf)
        have HRw := Lib.hid (RowV.no HRw.out hf)
        have HA := Lib.hid (RowV.no HA.out hf)
        have HB := Lib.hid (RowV.no HB.out hf)
        have HTh := Lib.hid (RowV.no HTh.out hf)
        have HDd := Lib.hid (RowV.no HDd.out hf)
        have HP := Lib.hid (RowV.no HP.out hf)
        have HPw := Lib.hid (HPw.out.no hf)
        have HQ := Lib.hid (RowV.no HQ.out hf)
        have HU := Lib.hid (IntsV.no HU.out hf)
        have HUw := Lib.hid (HUw.out.no hf)
        have HV := Lib.hid (IntsV.no HV.out hf)
        have HXa := Lib.hid (RowV.no HXa.out hf)
        have HXb := Lib.hid (RowV.no HXb.out hf)
        have HC0 := HC
        have HC := Lib.hid (HC0.out.trans hf)
        have r0 := hf.cell' r0 (fun q => q)
        have r1 := hf.cell' r1 (fun q => q)
        clear hf HC0
        go_wp2_with fail
        refine (docEdges_any HP.out (Nat.le_trans (short_len _ _) (by omega))).mono ?_
        rintro e wm ⟨xc, rfl, hf, ho⟩
        have HG := Lib.hid (HG.out.no hf)
        have HRw := Lib.hid (RowV.no HRw.out hf)
        have HA := Lib.hid (RowV.no HA.out hf)
        have HB := Lib.hid (RowV.no HB.out hf)
        have HTh := Lib.hid (RowV.no HTh.out hf)
        have HDd := Lib.hid (RowV.no HDd.out hf)
        have HP := Lib.hid (RowV.no HP.out hf)
        have HPw := Lib.hid (HPw.out.no hf)
        have HQ := Lib.hid (RowV.no HQ.out hf)
        have HU := Lib.hid (IntsV.no HU.out hf)
        have HUw := Lib.hid (HUw.out.no hf)
        have HV := Lib.hid (IntsV.no HV.out hf)
        have HXa := Lib.hid (RowV.no HXa.out hf)
        have HXb := Lib.hid (RowV.no HXb.out hf)
        have HC0 := HC
        have HC := Lib.hid (HC0.out.trans hf)
        have r0 := hf.cell' r0 (fun q => q)
        have r1 := hf.cell' r1 (fun q => q)
        have HXc := Lib.hid (OwnT.row ho)
        clear hf ho HC0
        go_wp2_with fail
        refine (sameEdges_any HXc.out HQ.out).mono ?_
        rintro e wn ⟨rfl, hf⟩
        have HG := Lib.hid (HG.out.no hf)
        have HRw := Lib.hid (RowV.no HRw.out hf)
        have HA := Lib.hid (RowV.no HA.out hf)
        have HB := Lib.hid (RowV.no HB.out hf)
        have HTh := Lib.hid (RowV.no HTh.out hf)
        have HDd := Lib.hid (RowV.no HDd.out hf)
        have HP := Lib.hid (RowV.no HP.out hf)
        have HPw := Lib.hid (HPw.out.no hf)
        have HQ := Lib.hid (RowV.no HQ.out hf)
        have HU := Lib.hid (IntsV.no HU.out hf)
        have HUw := Lib.hid (HUw.out.no hf)
        have HV := Lib.hid (IntsV.no HV.out hf)
        have HXa := Lib.hid (RowV.no HXa.out hf)
        have HXb := Lib.hid (RowV.no HXb.out hf)
        have HXc := Lib.hid (RowV.no HXc.out hf)
        have HC0 := HC
        have HC := Lib.hid (HC0.out.trans hf)
        have r0 := hf.cell' r0 (fun q => q)
        have r1 := hf.cell' r1 (fun q => q)
        clear hf HC0
        go_wp2_with fail
        refine (sameInts_any HU.out HV.out).mono ?_
        rintro e wz ⟨rfl, hf⟩
        have HG := Lib.hid (HG.out.no hf)
        have HRw := Lib.hid (RowV.no HRw.out hf)
        have HA := Lib.hid (RowV.no HA.out hf)
        have HB := Lib.hid (RowV.no HB.out hf)
        have HTh := Lib.hid (RowV.no HTh.out hf)
        have HDd := Lib.hid (RowV.no HDd.out hf)
        have HP := Lib.hid (RowV.no HP.out hf)
        have HPw := Lib.hid (HPw.out.no hf)
        have HQ := Lib.hid (RowV.no HQ.out hf)
        have HU := Lib.hid (IntsV.no HU.out hf)
        have HUw := Lib.hid (HUw.out.no hf)
        have HV := Lib.hid (IntsV.no HV.out hf)
        have HXa := Lib.hid (RowV.no HXa.out hf)
        have HXb := Lib.hid (RowV.no HXb.out hf)
        have HXc := Lib.hid (RowV.no HXc.out hf)
        have HC0 := HC
        have HC := Lib.hid (HC0.out.trans hf)
        have r0 := hf.cell' r0 (fun q => q)
        have r1 := hf.cell' r1 (fun q => q)
        clear hf HC0
        have hzz := HC.out.size
        obtain ⟨pn, hpn⟩ : ∃ x, x = (shortR L N).1.length := ⟨_, rfl⟩
        obtain ⟨un, hun⟩ : ∃ x, x = (farR L N t).1.length := ⟨_, rfl⟩
        have HPw : Hid (WrV wz wo.heap.size vp pn 3) := Lib.hid (by rw [hpn]; exact HPw.out)
        have HUw : Hid (WrV wz wo.heap.size vu un 1) := Lib.hid (by rw [hun]; exact HUw.out)
        obtain ⟨po, pc, rfl, _⟩ := HPw.out
        obtain ⟨uo, uc, rfl, _⟩ := HUw.out
        have hpn12 : pn ≤ 12 := by rw [hpn]; exact Nat.le_trans (short_len L N) hN
        have hun12 : un ≤ 12 := by rw [hun]; exact Nat.le_trans (far_len L N t) hN
        clear r0 r1 hpn hun
        go_wp2
        go_loopw [28] (fun i ws => ∃ y : Nat, i = .int .i64 y ∧ y ≤ pn ∧ Fx No wo ws ∧ WrV ws wo.heap.size (.slice po pn pc) pn 3 ∧ WrV ws wo.heap.size (.slice uo un uc) un 1) (fun i _ => pn - (intOf i).toNat)
        case atStart => exact ⟨0, rfl, Nat.zero_le _, HC.out, HPw.out, HUw.out⟩
        case round =>
          obtain ⟨y, rfl, hy, hf, hp, hu⟩ := hrel
          have HFp := Lib.hid hf
          have HPy := Lib.hid hp
          have HUy := Lib.hid hu
          clear hf hu
          by_cases hylt : y < pn
          · obtain ⟨po', pc', he, hor⟩ := hp
            simp only [Value.slice.injEq, true_and] at he
            obtain ⟨rfl, rfl⟩ := he
            rcases hor with h0 | ⟨g, rfl, hgB, hgc⟩
            · omega
            obtain ⟨⟨u0, c0⟩, c1⟩ := hgc (y * 3 + 1) (by omega)
            have hy0 : (0 : Int) ≤ (y : Int) := by omega
            have hy1 : (y : Int) < (pn : Int) := by omega
            clear hgc
            go_wp2
            go_roundw
            case rel => exact ⟨y + 1, by go_num, by omega, HFp.out.setCell (.inl hgB) _, HPy.out.put _ _, HUy.out.put _ _⟩
            case measure => simp [intOf]; omega
          · obtain rfl : y = pn := by omega
            clear hp
            go_wp2
            go_loopw [29] (fun i ws => ∃ z : Nat, i = .int .i64 z ∧ z ≤ un ∧ Fx No wo ws ∧ WrV ws wo.heap.size (.slice uo un uc) un 1) (fun i _ => un - (intOf i).toNat)
            case atStart => exact ⟨0, rfl, Nat.zero_le _, HFp.out, HUy.out⟩
            case round =>
              obtain ⟨z, rfl, hz, hf, hu⟩ := hrel
              have HFq := Lib.hid hf
              have HUz := Lib.hid hu
              clear hf
              by_cases hzlt : z < un
              · obtain ⟨uo', uc', he, hor⟩ := hu
                simp only [Value.slice.injEq, true_and] at he
                obtain ⟨rfl, rfl⟩ := he
                rcases hor with h0 | ⟨g, rfl, hgB, hgc⟩
                · omega
                obtain ⟨⟨u0, c0⟩, c1⟩ := hgc z (by omega)
                have hz0 : (0 : Int) ≤ (z : Int) := by omega
                have hz1 : (z : Int) < (un : Int) := by omega
                clear hgc
                go_wp2
                go_roundw
                case rel => exact ⟨z + 1, by go_num, by omega, HFq.out.setCell (.inl hgB) _, HUz.out.put _ _⟩
                case measure => simp [intOf]; omega
              · obtain rfl : z = un := by omega
                clear hu
                go_wp2
                go_roundw
                case rel => exact ⟨k + 1, by go_num, by omega, HF.out.trans HFq.out⟩
                case measure => simp [intOf]; omega
      · obtain rfl : k = 2 := by omega
        have CS : Hid (∀ W v1 E1, Fx No wo W → EdsV W E1 v1 L → Calls Tryz.prog 25 #[.agg #[.int .i64 (N : Nat), v1], .agg #[.int .i64 (N : Nat), .slice ro L.length rc]] W fun e w' => e = .returned (.bool true) ∧ Fx No W w') := Lib.hid fun W v1 E1 h1 h2 => (refSame_any h2 (RowV.no HRw.out h1) (N : Int) (N : Int)).mono fun e w' ⟨h1, h2⟩ => ⟨by rw [h1, decide_eq_true ⟨rfl, rfl⟩], h2⟩
        have q0 : ∀ W, Fx No wo W → W.cell? ⟨rb, 0, none⟩ = some (.int .i64 (N : Nat)) := fun W h => (HF.out.trans h).cell' HR0.out (fun q => q)
        have q1 : ∀ W, Fx No wo W → W.cell? ⟨rb, 1, none⟩ = some (.slice ro L.length rc) := fun W h => (HF.out.trans h).cell' HR1.out (fun q => q)
        clear r0 r1
        go_wp2
        refine wp_region_H (fun W => Fx No wo W) (by kernel_rfl) ((Fx.refl _ _).drew) ?_
        intro hS
        refine wpAnyH_hold (fun W' => Fx No wo W') hS ?_
        clear hS
        rintro y0 hS
        have hS0 := hS
        refine wpAnyH_take (i := 0) (v := ?_) rfl (by kernel_rfl) (by kernel_rfl) (by kernel_rfl) (fun _ _ _ h => h) (Or.inl ⟨by rfl, ?_⟩) hS ?_
        rotate_left
        · (intro W hs; go_simp; first | done | with_reducible rfl)
        try simp only [Act.put, List.getElem_toArray, List.getElem_cons_zero, List.setIfInBounds_toArray, List.set_cons_zero, List.set_cons_succ]
        refine wpAnyH_take (i := 2) (v := ?_) rfl (by kernel_rfl) (by kernel_rfl) (by kernel_rfl) (fun _ _ _ h => h) (Or.inl ⟨by rfl, ?_⟩) hS ?_
        rotate_left
        · (intro W hs; go_simp; first | done | with_reducible rfl)
        try simp only [Act.put, List.getElem_toArray, List.getElem_cons_zero, List.getElem_cons_succ, List.setIfInBounds_toArray, List.set_cons_zero, List.set_cons_succ]
        refine wpH_one (i := 1) (by kernel_rfl) rfl (fun K hK => ?_)
        go_simp
        refine (docGraph_any (HG.out.no hS)).mono ?_
        rintro e y1 ⟨v1, rfl, hfi, ho⟩
        obtain ⟨so1, sc1, rfl, _⟩ := EdsV.facts (OwnT.row ho)
        have HO1 := Lib.hid (OwnT.row ho)
        clear ho
        have HZy1 : Hid (y0.heap.size ≤ y1.heap.size) := Lib.hid hfi.size
        have HSy1 : Hid (Fx No y0 y1) := Lib.hid hfi
        refine hK.out _ _ (hS.trans hfi) (fun hS' => ?_)
        clear hK K hS hfi 
        have hS := hS'
        clear hS'
        try simp only [Act.put, List.getElem_toArray, List.getElem_cons_zero, List.getElem_cons_succ, List.setIfInBounds_toArray, List.set_cons_zero, List.set_cons_succ]
        refine wpH_one (i := 3) (by kernel_rfl) rfl (fun K hK => ?_)
        go_simp
        refine (CS.out _ _ _ hS HO1.out).mono ?_
        rintro e y2 ⟨rfl, hfi⟩
        have HO1 := Lib.hid (RowV.no HO1.out hfi)
        have HZy2 : Hid (y1.heap.size ≤ y2.heap.size) := Lib.hid hfi.size
        have HSy2 : Hid (Fx No y1 y2) := Lib.hid hfi
        refine hK.out _ _ (hS.trans hfi) (fun hS' => ?_)
        clear hK K hS hfi 
        have hS := hS'
        clear hS'
        try simp only [Act.put, List.getElem_toArray, List.getElem_cons_zero, List.getElem_cons_succ, List.setIfInBounds_toArray, List.set_cons_zero, List.set_cons_succ]
        refine wpAnyH_take (i := 4) (v := ?_) rfl (by kernel_rfl) (by kernel_rfl) (by kernel_rfl) (fun _ _ _ h => h) (Or.inl ⟨by rfl, ?_⟩) hS ?_
        rotate_left
        · (intro W hs; go_simp; first | done | with_reducible rfl)
        try simp only [Act.put, List.getElem_toArray, List.getElem_cons_zero, List.getElem_cons_succ, List.setIfInBounds_toArray, List.set_cons_zero, List.set_cons_succ]
        refine wpH_one (i := 5) (by kernel_rfl) rfl (fun K hK => ?_)
        go_simp
        refine (works_any _).mono ?_
        rintro e y3 ⟨rfl, hfi⟩
        have HO1 := Lib.hid (RowV.no HO1.out hfi)
        have HZy3 : Hid (y2.heap.size ≤ y3.heap.size) := Lib.hid hfi.size
        have HSy3 : Hid (Fx No y2 y3) := Lib.hid hfi
        refine hK.out _ _ (hS.trans hfi) (fun hS' => ?_)
        clear hK K hS hfi 
        have hS := hS'
        clear hS'
        try simp only [Act.put, List.getElem_toArray, List.getElem_cons_zero, List.getElem_cons_succ, List.setIfInBounds_toArray, List.set_cons_zero, List.set_cons_succ]
        refine wpAnyH_take (i := 6) (v := ?_) rfl (by kernel_rfl) (by kernel_rfl) (by kernel_rfl) (fun _ _ _ h => h) (Or.inl ⟨by rfl, ?_⟩) hS ?_
        rotate_left
        · (intro W hs; go_simp; first | done | with_reducible rfl)
        try simp only [Act.put, List.getElem_toArray, List.getElem_cons_zero, List.getElem_cons_succ, List.setIfInBounds_toArray, List.set_cons_zero, List.set_cons_succ]
        refine wpAnyH_take (i := 7) (v := ?_) rfl (by kernel_rfl) (by kernel_rfl) (by kernel_rfl) (fun _ _ _ h => h) (Or.inl ⟨by rfl, ?_⟩) hS ?_
        rotate_left
        · (intro W hs; go_simp; first | done | with_reducible rfl)
        try simp only [Act.put, List.getElem_toArray, List.getElem_cons_zero, List.getElem_cons_succ, List.setIfInBounds_toArray, List.set_cons_zero, List.set_cons_succ]
        refine wpAnyH_done (by kernel_rfl) ?_ _
        have HZ := Lib.hid hS
        clear hS hS0
        go_wp2
        go_ret
        exact ⟨rfl, HFx.out.trans (HF.out.trans HZ.out)⟩
end
#print axioms paths_any
end Go.Proofs.YtgacknphjeiojaaGreat
