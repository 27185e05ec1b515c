/- The reference of graphs: with. (Written by mkrgc2.py out of chapter 17's texts.) -/
import Derived.Test.YtcfajeldkioomaaRgB
namespace Go.Proofs.Ytcfajeldkioomaa
open Go.RowKit
set_option linter.unusedVariables false

def insStepE (e : Ed) (s : List Ed × Bool) (x : Ed) : List Ed × Bool := if (!s.2 && decide (cmpE e x < 0)) = true then (s.1 ++ [e] ++ [x], true) else (s.1 ++ [x], s.2)
def insStE (e : Ed) (L : List Ed) : List Ed × Bool := L.foldl (insStepE e) ([], false)
theorem insStE_take {e : Ed} {L : List Ed} {k : Nat} (h : k < L.length) : insStE e (L.take (k + 1)) = insStepE e (insStE e (L.take k)) (gt L k) := by
  unfold insStE; rw [take_gt h, List.foldl_append]; rfl
theorem insStE_len (e : Ed) : ∀ (L acc : List Ed) (d : Bool), (L.foldl (insStepE e) (acc, d)).1.length ≤ acc.length + L.length + 1 ∧ (d = true → (L.foldl (insStepE e) (acc, d)).1.length ≤ acc.length + L.length)
  | [], acc, d => by simp
  | x :: xs, acc, d => by
    rw [List.foldl_cons]
    have h1 := insStE_len e xs (acc ++ [e] ++ [x]) true
    have h2 := insStE_len e xs (acc ++ [x]) d
    simp only [List.length_append, List.length_cons, List.length_nil] at h1 h2 ⊢
    rw [show insStepE e (acc, d) x = if (!d && decide (cmpE e x < 0)) = true then (acc ++ [e] ++ [x], true) else (acc ++ [x], d) from rfl]
    split
    · rename_i hh
      cases d
      · have := h1.2 trivial
        exact ⟨by omega, fun hd => by cases hd⟩
      · simp at hh
    · exact ⟨by have := h2.1; omega, fun hd => by have := h2.2 hd; omega⟩
theorem insStE_true (e : Ed) : ∀ (L acc : List Ed), L.foldl (insStepE e) (acc, true) = (acc ++ L, true)
  | [], acc => by simp
  | x :: xs, acc => by
    rw [List.foldl_cons, show insStepE e (acc, true) x = (acc ++ [x], true) from rfl, insStE_true e xs]
    simp
theorem insStE_false (e : Ed) : ∀ (L acc : List Ed), e ∉ L → (let s := L.foldl (insStepE e) (acc, false); if s.2 = true then s.1 else s.1 ++ [e]) = acc ++ insE e L
  | [], acc, _ => by simp [insE]
  | x :: xs, acc, hn => by
    have hx : e ≠ x := fun h => hn (by rw [h]; simp)
    have hxs : e ∉ xs := fun h => hn (List.mem_cons_of_mem _ h)
    rw [List.foldl_cons]
    by_cases h : e.lt x
    · have h0 : cmpE e x < 0 := cmpE_neg.2 h
      rw [show insStepE e (acc, false) x = (acc ++ [e] ++ [x], true) by simp [insStepE, h0], insStE_true]
      simp [insE, h]
    · have h0 : ¬ cmpE e x < 0 := fun h1 => h (cmpE_neg.1 h1)
      rw [show insStepE e (acc, false) x = (acc ++ [x], false) by simp [insStepE, h0], insStE_false e xs _ hxs]
      simp [insE, h, hx]
/-- the row with an edge more -/
def withL (e : Ed) (L : List Ed) : List Ed := if (insStE e L).2 = true then (insStE e L).1 else (insStE e L).1 ++ [e]
theorem insStE_all {e : Ed} {L : List Ed} (hn : e ∉ L) : withL e L = insE e L := by
  have h := insStE_false e L [] hn
  rw [List.nil_append] at h
  exact h
/-- what the reference builds: the row so far in the cell ob -/
structure AccE (w ws : World) (ob : Nat) (N : Int) (vs : Value) (acc : List Ed) : Prop where
  fx : Fx No w ws
  o0 : ws.cell? ⟨ob, 0, none⟩ = some (.int .i64 N)
  o1 : ws.cell? ⟨ob, 1, none⟩ = some vs ∧ ws.frozen? ⟨ob, 1, none⟩ = false
  own : OwnR ws (ob + 1) vs acc
  lo : w.heap.size ≤ ob ∧ ob < ws.heap.size
theorem AccE.no {w ws w' : World} {ob : Nat} {N : Int} {vs : Value} {acc : List Ed} (h : AccE w ws ob N vs acc) (hf : Fx No ws w') : AccE w w' ob N vs acc :=
  ⟨h.fx.trans hf, hf.cell' h.o0 (fun h => h), hf.cellF h.o1.1 h.o1.2 (fun h => h), h.own.no hf, h.lo.1, by have := hf.size; have := h.lo.2; omega⟩
theorem AccE.snoc {w wr W w2 : World} {ob : Nat} {N : Int} {vs v' : Value} {acc : List Ed} {x : Ed} (h : AccE w wr ob N vs acc) (hW : Fx No wr W) (hfx : Fx (fun b => vs.ownBlock = some b) W w2)
    (ho : w2.ownsRow (ob + 1) 33 3 v' (acc.length + 1) (icells e3 acc ++ ints (e3 x))) :
    AccE w (w2.setCell ⟨ob, 1, none⟩ v') ob N v' (acc ++ [x]) := by
  obtain ⟨l1, l2⟩ := h.lo
  have hfa : Fx (fun b => vs.ownBlock = some b) wr w2 := hW.no.trans hfx
  have hob : ¬ vs.ownBlock = some ob := fun e => by have := (h.own.lt e).1; omega
  have hf2 : Fx (fun j => j = ob) w2 (w2.setCell ⟨ob, 1, none⟩ v') := Fx.put _ _ _ _
  have hsz := hfa.size
  refine ⟨?_, ?_, ?_, ?_, l1, by simp [World.setCell]; omega⟩
  · exact (h.fx.trans' hfa fun g e hl => by have := (h.own.lt e).1; omega).setCell (.inl l1) _
  · rw [World.cell?_setCell_other _ _ _ _ (by intro e; injection e; omega)]
    exact hfa.cell' h.o0 hob
  · obtain ⟨c1, c2⟩ := hfa.cellF h.o1.1 h.o1.2 hob
    exact ⟨World.cell?_setCell_same _ _ _ c1, by simpa using c2⟩
  · exact (OwnT.snoc ho).fx hf2 fun g e e2 => by have := (World.ownsRow.lt ho g e).1; omega
section
variable {w w' : World} {D S : Nat → Prop} {L : List Ed} {v : Value}
/-- a graph of the reference, in memory that is new or was D's -/
def RefG (D : Nat → Prop) (N : Int) (L' : List Ed) (w : World) (e : Ending) (w' : World) : Prop := ∃ v', e = .returned (.agg #[.int .i64 N, v']) ∧ Fx No w w' ∧ EdsV w' (fun k => (D k ∨ w.heap.size ≤ k) ∧ k < w'.heap.size) v' L'
set_option maxRecDepth 100000 in
set_option maxHeartbeats 4000000 in
theorem refWith_any (h : EdsV w D v L) (N x y s : Int) (hl : L.length ≤ 1000000) : Calls Try.prog 43 #[.agg #[.int .i64 N, v], .agg #[.int .i64 x, .int .i64 y, .int .i64 s]] w (RefG D N (withL ⟨x, y, s⟩ L) w) := by
  obtain ⟨ii, hi, hz, hs, hb⟩ := info_parts info_edge13
  have H := Lib.hid h.bound
  obtain ⟨ao, cap, rfl, _, _, hc⟩ := h.facts
  have HC := Lib.hid hc
  clear h hc
  go_enter Try.func43, Try.ntmps43
  go_wp2_with fail
  refine wp_hold (fun W => ∃ w1 : World, Fx No w w1 ∧ w1.heap.size = w.heap.size + 1 + 1 + 1 ∧ w1.cell? ⟨w.heap.size, 1, none⟩ = some (.slice ao L.length cap) ∧ w1.cell? ⟨w.heap.size + 1, 0, none⟩ = some (.int .i64 x) ∧ w1.cell? ⟨w.heap.size + 1, 1, none⟩ = some (.int .i64 y) ∧ w1.cell? ⟨w.heap.size + 1, 2, none⟩ = some (.int .i64 s) ∧
    (w1.cell? ⟨w.heap.size + 1 + 1, 0, none⟩ = some (.int .i64 0) ∧ w1.frozen? ⟨w.heap.size + 1 + 1, 0, none⟩ = false) ∧ (w1.cell? ⟨w.heap.size + 1 + 1, 1, none⟩ = some (.slice none 0 0) ∧ w1.frozen? ⟨w.heap.size + 1 + 1, 1, none⟩ = false) ∧
    AccE w1 W (w.heap.size + 1 + 1 + 1) N (.slice none 0 0) [])
    ⟨((w.alloc (.cells #[.int .i64 N, .slice ao L.length cap] 30)).alloc (.cells #[.int .i64 x, .int .i64 y, .int .i64 s] 33)).alloc (.cells #[.int .i64 0, .slice none 0 0] 30), ((Fx.refl No w).alloc _).alloc _ |>.alloc _, by simp, by go_simp, by go_simp, by go_simp, by go_simp, ⟨by go_simp, by go_simp⟩, ⟨by go_simp, by go_simp⟩, (Fx.refl No _).alloc _, by go_simp, ⟨by go_simp, by go_simp⟩, OwnT.nil _ _, by simp, by simp⟩ ?_
  rintro W0 ⟨w1, hF1, hz1, c1, e0, e1, e2, ⟨q0, f0⟩, ⟨q1, f1⟩, hA⟩
  obtain ⟨cb, hcb⟩ : ∃ e, e = w.heap.size := ⟨_, rfl⟩
  rw [← hcb] at hz1 c1 e0 e1 e2 q0 f0 q1 f1 hA ⊢
  obtain ⟨eb, heb⟩ : ∃ e, e = cb + 1 := ⟨_, rfl⟩
  rw [← heb] at hz1 e0 e1 e2 q0 f0 q1 f1 hA ⊢
  obtain ⟨qb, hqb⟩ : ∃ e, e = eb + 1 := ⟨_, rfl⟩
  rw [← hqb] at hz1 q0 f0 q1 f1 hA ⊢
  obtain ⟨ob, hob⟩ : ∃ e, e = qb + 1 := ⟨_, rfl⟩
  rw [← hob] at hz1 hA ⊢
  have HF1 := Lib.hid hF1
  have HA := Lib.hid hA
  have HOb : Hid (ob = w1.heap.size) := Lib.hid hz1.symm
  have hqo : qb < ob := by omega
  have hcb1 : cb < w1.heap.size := by omega
  have heb1 : eb < w1.heap.size := by omega
  have hq0 : w.heap.size ≤ qb := by omega
  have hq1 : qb < w1.heap.size := by omega
  have hwob : w.heap.size ≤ ob := by omega
  have HQ0 := Lib.hid q0
  have HF0 := Lib.hid f0
  have HQ1 := Lib.hid q1
  have HFf1 := Lib.hid f1
  have HC1 := Lib.hid c1
  have HE0 := Lib.hid e0
  have HE1 := Lib.hid e1
  have HE2 := Lib.hid e2
  clear hF1 hA hcb heb hqb hob hz1 q0 f0 q1 f1 c1 e0 e1 e2
  go_loopw [6, 7] (fun d i ws => ∃ (k : Nat) (vs : Value), i = .int .i64 k ∧ k ≤ L.length ∧ d = .bool (insStE ⟨x, y, s⟩ (L.take k)).2 ∧ AccE w1 ws ob N vs (insStE ⟨x, y, s⟩ (L.take k)).1) (fun _ i _ => L.length - (intOf i).toNat)
  case atStart => exact ⟨0, _, rfl, Nat.zero_le _, rfl, HA.out⟩
  case round =>
    obtain ⟨k, vs, rfl, hk, rfl, hA⟩ := hrel
    have hacl2 : (insStE ⟨x, y, s⟩ (L.take k)).1.length ≤ 1000001 := by have h0 := (insStE_len ⟨x, y, s⟩ (L.take k) [] false).1; rw [List.length_take] at h0; simp at h0; unfold insStE; omega
    obtain ⟨acc, hacc⟩ : ∃ a, a = (insStE ⟨x, y, s⟩ (L.take k)).1 := ⟨_, rfl⟩
    obtain ⟨d, hd⟩ : ∃ a, a = (insStE ⟨x, y, s⟩ (L.take k)).2 := ⟨_, rfl⟩
    rw [← hacc] at hA hacl2
    rw [← hd]
    have HSt : Hid (insStE ⟨x, y, s⟩ (L.take k) = (acc, d)) := Lib.hid (Prod.ext hacc.symm hd.symm)
    obtain ⟨so, sc, rfl, _⟩ := SlV.ofOwns hA.own
    have HA := Lib.hid hA
    have c1 := hA.fx.cell' HC1.out (fun h => h)
    have e0 := hA.fx.cell' HE0.out (fun h => h)
    have e1 := hA.fx.cell' HE1.out (fun h => h)
    have e2 := hA.fx.cell' HE2.out (fun h => h)
    obtain ⟨o1, o2⟩ := hA.o1
    have hlo := hA.lo.2
    clear hA hacc hd
    by_cases hlt : k < L.length
    · obtain ⟨b, o, rfl, hDb, p1, p2, p3⟩ := HC.out k hlt
      have hbw := World.block_lt_of_cell? w _ p1
      have hbw : b < w.heap.size := hbw
      have q1' := p1
      have q2' := p2
      have q3' := p3
      have p1 := HA.out.fx.cell' (HF1.out.cell' p1 (fun h => h)) (fun h => h)
      have p2 := HA.out.fx.cell' (HF1.out.cell' p2 (fun h => h)) (fun h => h)
      have p3 := HA.out.fx.cell' (HF1.out.cell' p3 (fun h => h)) (fun h => h)
      obtain ⟨z, hz'⟩ : ∃ z, z = (gt L k).f := ⟨_, rfl⟩
      obtain ⟨u, hu⟩ : ∃ z, z = (gt L k).t := ⟨_, rfl⟩
      obtain ⟨r, hr⟩ : ∃ z, z = (gt L k).l := ⟨_, rfl⟩
      rw [← hz'] at p1 q1'
      rw [← hu] at p2 q2'
      rw [← hr] at p3 q3'
      have HGk : Hid (gt L k = ⟨z, u, r⟩) := Lib.hid (Ed.ext' hz'.symm hu.symm hr.symm)
      have HNx : Hid (insStE ⟨x, y, s⟩ (L.take (k + 1)) = insStepE ⟨x, y, s⟩ (acc, d) ⟨z, u, r⟩) := Lib.hid (by rw [insStE_take hlt, HSt.out, HGk.out])
      have hkl : (k : Int) < (L.length : Int) := by omega
      have hk0 : (0 : Int) ≤ (k : Int) := by omega
      clear hz' hu hr
      have HW1 := Lib.hid (HF1.out.cell' q1' (fun h => h))
      have HW2 := Lib.hid (HF1.out.cell' q2' (fun h => h))
      have HW3 := Lib.hid (HF1.out.cell' q3' (fun h => h))
      clear q1' q2' q3'
      have hcbl : cb < w1.heap.size := hcb1
      have hw01 : w.heap.size ≤ w1.heap.size := HF1.out.size
      have hob1 : w1.heap.size = ob := HOb.out.symm
      have HSK : Hid (∀ W, AccE w1 W ob N (.slice so acc.length sc) acc → True) := Lib.hid fun _ _ => trivial
      cases d
      · have CL : Hid (∀ W, Fx No wr W → Calls Try.prog 18 #[.agg #[.int .i64 x, .int .i64 y, .int .i64 s], .agg #[.int .i64 z, .int .i64 u, .int .i64 r]] W fun e w' => e = .returned (.int .i64 (cmpE ⟨x, y, s⟩ ⟨z, u, r⟩)) ∧ Fx No W w') := Lib.hid fun W _ => refCmp_any ⟨x, y, s⟩ ⟨z, u, r⟩ W
        obtain ⟨t, ht⟩ : ∃ t, t = cmpE ⟨x, y, s⟩ ⟨z, u, r⟩ := ⟨_, rfl⟩
        rw [← ht] at CL
        have HTt := Lib.hid ht
        have g0 : ∀ W, Fx No wr W → W.cell? ⟨cb, 1, none⟩ = some (.slice (some ⟨b, o, none⟩) L.length cap) := fun W h => h.cell' c1 (fun h => h)
        have g1 : ∀ W, Fx No wr W → W.cell? ⟨eb, 0, none⟩ = some (.int .i64 x) := fun W h => h.cell' e0 (fun h => h)
        have g2 : ∀ W, Fx No wr W → W.cell? ⟨eb, 1, none⟩ = some (.int .i64 y) := fun W h => h.cell' e1 (fun h => h)
        have g6 : ∀ W, Fx No wr W → W.cell? ⟨eb, 2, none⟩ = some (.int .i64 s) := fun W h => h.cell' e2 (fun h => h)
        have g3 : ∀ W, Fx No wr W → W.cell? ⟨b, o + k * 3, none⟩ = some (.int .i64 z) := fun W h => h.cell' p1 (fun h => h)
        have g4 : ∀ W, Fx No wr W → W.cell? ⟨b, o + k * 3 + 1, none⟩ = some (.int .i64 u) := fun W h => h.cell' p2 (fun h => h)
        have g5 : ∀ W, Fx No wr W → W.cell? ⟨b, o + k * 3 + 2, none⟩ = some (.int .i64 r) := fun W h => h.cell' p3 (fun h => h)
        have s0 : Fx No wr wr := Fx.refl _ _
        have hx0 := c1
        have HP1 := Lib.hid p1
        have HP2 := Lib.hid p2
        have HEe0 := Lib.hid e0
        have HEe1 := Lib.hid e1
        have HCc1 := Lib.hid c1
        clear ht hx0 o1 o2 c1 e0 e1 e2 p1 p2 p3
        go_wp2_with fail
        go_region_held3 (fun W => Fx No wr W)
          (first
            | exact s0.drew
            | exact Fx.transNo (by assumption) hfi)
          (first
            | (go_at_call 18; with_reducible refine (CL.out _ (by assumption)).mono ?_; rintro e w' ⟨rfl, hfi⟩))
        all_goals
          have HK : Hid (Fx No wr w') := by assumption
          have HX := Lib.hid (HA.out.no HK.out)
          clear g0 g1 g2 g3 g4 g5 g6 s0 CL
          by_cases hc0 : t < 0
          rotate_left
          · have d0 : decide (t < 0) = false := decide_eq_false hc0
            have HNx : Hid (insStE ⟨x, y, s⟩ (L.take (k + 1)) = (acc ++ [(⟨z, u, r⟩ : Ed)], false)) := Lib.hid (by rw [HNx.out, insStepE, ← HTt.out]; simp [hc0])
            go_wp2_with fail
            refine wp_hold (fun W => AccE w1 W ob N (.slice so acc.length sc) acc) HX.out ?_
            rintro wx hX
            have HX := Lib.hid hX
            clear hX
            have c1 := HX.out.fx.cell' HC1.out (fun h => h)
            have p1 := HX.out.fx.cell' HW1.out (fun h => h)
            have p2 := HX.out.fx.cell' HW2.out (fun h => h)
            have p3 := HX.out.fx.cell' HW3.out (fun h => h)
            obtain ⟨o1, o2⟩ := HX.out.o1
            have hlo := HX.out.lo.2
            have hvs : ∀ g, (Value.slice so acc.length sc).ownBlock = some g → ob + 1 ≤ g := fun g e => (World.ownsRow.lt HX.out.own g e).1
            have HVs := Lib.hid hvs
            have s0 : Fx (fun g => (Value.slice so acc.length sc).ownBlock = some g ∨ g = ob) wx wx := Fx.refl _ _
            have ns : ∀ j, j < w1.heap.size → ¬ ((Value.slice so acc.length sc).ownBlock = some j ∨ j = ob) := fun j hj h => by
              rcases h with h | h
              · have := hvs j h; omega
              · omega
            have g0 : ∀ W, Fx (fun g => (Value.slice so acc.length sc).ownBlock = some g ∨ g = ob) wx W → W.cell? ⟨cb, 1, none⟩ = some (.slice (some ⟨b, o, none⟩) L.length cap) := fun W h => h.cell' c1 (ns _ hcbl)
            have g3 : ∀ W, Fx (fun g => (Value.slice so acc.length sc).ownBlock = some g ∨ g = ob) wx W → W.cell? ⟨b, o + k * 3, none⟩ = some (.int .i64 z) := fun W h => h.cell' p1 (ns _ (by show b < w1.heap.size; omega))
            have g4 : ∀ W, Fx (fun g => (Value.slice so acc.length sc).ownBlock = some g ∨ g = ob) wx W → W.cell? ⟨b, o + k * 3 + 1, none⟩ = some (.int .i64 u) := fun W h => h.cell' p2 (ns _ (by show b < w1.heap.size; omega))
            have g5 : ∀ W, Fx (fun g => (Value.slice so acc.length sc).ownBlock = some g ∨ g = ob) wx W → W.cell? ⟨b, o + k * 3 + 2, none⟩ = some (.int .i64 r) := fun W h => h.cell' p3 (ns _ (by show b < w1.heap.size; omega))
            have HOw : Hid (∀ W, Fx No wx W → W.ownsRow (ob + 1) 33 3 (.slice so acc.length sc) (acc.length) (icells e3 acc)) := Lib.hid fun W hf => by have := HX.out.own.no hf; unfold OwnT at this; simpa using this
            clear hvs c1 p1 p2 p3 ns
            refine wp_region_G 10 (fun b W => Fx (fun g => (Value.slice so acc.length sc).ownBlock = some g ∨ g = ob) wx W ∧ (b = false → W.cell? ⟨ob, 1, none⟩ = some (.slice so acc.length sc) ∧ W.frozen? ⟨ob, 1, none⟩ = false)) (by kernel_rfl) ⟨s0.drew, fun _ => ⟨o1, o2⟩⟩ ?_
            intro hS hC
            refine wpG_take (i := 0) (v := ?_) rfl (by kernel_rfl) (by kernel_rfl) (by kernel_rfl) (by kernel_rfl) (fun _ _ _ h => h) (by decide) (Or.inl ⟨by rfl, ?_⟩) hC hS ?_
            rotate_left
            · (intro W ⟨hf, hc⟩; have hc := hc rfl; go_simp; first | done | with_reducible rfl)
            clear hS hC
            intro hS hC
            try simp only [Act.put, List.setIfInBounds_toArray, List.set_cons_zero, List.set_cons_succ]
            refine wpG_take (i := 1) (v := ?_) rfl (by kernel_rfl) (by kernel_rfl) (by kernel_rfl) (by kernel_rfl) (fun _ _ _ h => h) (by decide) (Or.inl ⟨by rfl, ?_⟩) hC hS ?_
            rotate_left
            · (intro W ⟨hf, hc⟩; have hc := hc rfl; go_simp; first | done | with_reducible rfl)
            clear hS hC
            intro hS hC
            try simp only [Act.put, List.setIfInBounds_toArray, List.set_cons_zero, List.set_cons_succ]
            refine wpG_take (i := 2) (v := ?_) rfl (by kernel_rfl) (by kernel_rfl) (by kernel_rfl) (by kernel_rfl) (fun _ _ _ h => h) (by decide) (Or.inl ⟨by rfl, ?_⟩) hC hS ?_
            rotate_left
            · (intro W ⟨hf, hc⟩; have hc := hc rfl; go_simp; first | done | with_reducible rfl)
            clear hS hC
            intro hS hC
            try simp only [Act.put, List.setIfInBounds_toArray, List.set_cons_zero, List.set_cons_succ]
            refine wpG_take (i := 3) (v := ?_) rfl (by kernel_rfl) (by kernel_rfl) (by kernel_rfl) (by kernel_rfl) (fun _ _ _ h => h) (by decide) (Or.inl ⟨by rfl, ?_⟩) hC hS ?_
            rotate_left
            · (intro W ⟨hf, hc⟩; have hc := hc rfl; go_simp; first | done | with_reducible rfl)
            clear hS hC
            intro hS hC
            try simp only [Act.put, List.setIfInBounds_toArray, List.set_cons_zero, List.set_cons_succ]
            refine wpG_take (i := 4) (v := ?_) rfl (by kernel_rfl) (by kernel_rfl) (by kernel_rfl) (by kernel_rfl) (fun _ _ _ h => h) (by decide) (Or.inl ⟨by rfl, ?_⟩) hC hS ?_
            rotate_left
            · (intro W ⟨hf, hc⟩; have hc := hc rfl; go_simp; first | done | with_reducible rfl)
            clear hS hC
            intro hS hC
            try simp only [Act.put, List.setIfInBounds_toArray, List.set_cons_zero, List.set_cons_succ]
            refine wpG_take (i := 5) (v := ?_) rfl (by kernel_rfl) (by kernel_rfl) (by kernel_rfl) (by kernel_rfl) (fun _ _ _ h => h) (by decide) (Or.inl ⟨by rfl, ?_⟩) hC hS ?_
            rotate_left
            · (intro W ⟨hf, hc⟩; have hc := hc rfl; go_simp; first | done | with_reducible rfl)
            clear hS hC
            intro hS hC
            try simp only [Act.put, List.setIfInBounds_toArray, List.set_cons_zero, List.set_cons_succ]
            refine wpG_take (i := 6) (v := ?_) rfl (by kernel_rfl) (by kernel_rfl) (by kernel_rfl) (by kernel_rfl) (fun _ _ _ h => h) (by decide) (Or.inl ⟨by rfl, ?_⟩) hC hS ?_
            rotate_left
            · (intro W ⟨hf, hc⟩; have hc := hc rfl; go_simp; first | done | with_reducible rfl)
            clear hS hC
            intro hS hC
            try simp only [Act.put, List.setIfInBounds_toArray, List.set_cons_zero, List.set_cons_succ]
            refine wpG_one (i := 7) (by kernel_rfl) rfl hC (fun K hK => ?_)
            go_simp
            refine hK.out _ _ ⟨s0.drew.alloc _, fun _ => ((Fx.refl No _).drew.alloc _).cellF o1 o2 (fun h => h)⟩ (fun hS' hC' => ?_)
            clear hK K hS hC
            have hS := hS'
            have hC := hC'
            clear hS' hC'
            try simp only [Act.put, List.setIfInBounds_toArray, List.set_cons_zero, List.set_cons_succ]
            refine wpG_one (i := 8) (by kernel_rfl) rfl hC (fun K hK => ?_)
            refine step_append_kept rfl (.tmp 37) (.tmp 43) 28 rfl (ob + 1) 33 Try.underlying28 hi hz hs hb rfl (by decide) (.slice so acc.length sc) (acc.length) (icells e3 acc) (by simp [Act.eval]) (HOw.out _ ((Fx.refl No wx).drew.alloc _)) (fun _ => True) (.slice (some ⟨wx.heap.size, 0, none⟩) 1 1) 1 (ints [z, u, r]) (by simp [Act.eval]) (SlV.lit wx.drew 33 #[.int .i64 z, .int .i64 u, .int .i64 r] 3 1 rfl (by unfold maxLen; omega)) (ints_one _) (by omega) (by unfold maxLen; omega) (by omega) (by simp; omega) ?_
            intro v' w2 ho hfx hk3 hb2
            obtain ⟨g, gcap, rfl, hg1, hg2⟩ := ownsRow_pos ho (by omega)
            have hob : ¬ (Value.slice so acc.length sc).ownBlock = some ob := fun e => by have := HVs.out ob e; omega
            obtain ⟨t3, t4⟩ := ((Fx.refl No wx).drew.alloc (.cells #[.int .i64 z, .int .i64 u, .int .i64 r] 33)).cellF o1 o2 (fun h => h)
            obtain ⟨t3, t4⟩ := hfx.cellF t3 t4 hob
            have hS2 : Fx (fun b => (Value.slice so acc.length sc).ownBlock = some b ∨ b = ob) wx w2 := (s0.drew.alloc _).trans (hfx.mono fun _ _ e => .inl e)
            have HA5 := Lib.hid (HX.out.snoc (x := ⟨z, u, r⟩) ((Fx.refl No wx).drew.alloc _) hfx (by simpa [e3] using ho))
            refine hK.out _ _ ⟨hS2, fun _ => ⟨t3, t4⟩⟩ (fun hS' hC' => ?_)
            clear ho hfx hk3 hb2
            clear hK K hS hC
            have hS := hS'
            have hC := hC'
            clear hS' hC'
            try simp only [Act.put, List.setIfInBounds_toArray, List.set_cons_zero, List.set_cons_succ]
            refine wpG_take (i := 9) (v := ?_) rfl (by kernel_rfl) (by kernel_rfl) (by kernel_rfl) (by kernel_rfl) (fun _ _ _ h => h) (by decide) (Or.inl ⟨by rfl, ?_⟩) hC hS ?_
            rotate_left
            · (intro W ⟨hf, hc⟩; have hc := hc rfl; go_simp; first | done | with_reducible rfl)
            clear hS hC
            intro hS hC
            try simp only [Act.put, List.setIfInBounds_toArray, List.set_cons_zero, List.set_cons_succ]
            refine wpG_one (i := 10) (by kernel_rfl) rfl hC (fun K hK => ?_)
            go_simp
            refine hK.out _ _ ⟨Fx.setCell hS2 (a := ⟨ob, 1, none⟩) (.inr (.inr rfl)) _, fun h => absurd h (by decide +kernel)⟩ (fun _ _ => ?_)
            clear hK K hS hC
            refine wpG_done (by kernel_rfl) ?_ _
            clear o1 o2 t3 t4 hS2 s0 g0 g3 g4 g5
            go_wp2
            go_roundw
            case rel => exact ⟨k + 1, _, by go_num, by omega, by rw [HNx.out], by rw [HNx.out]; exact HA5.out⟩
            case measure => simp [intOf]; omega
          · have d0 : decide (t < 0) = true := decide_eq_true hc0
            have HNx : Hid (insStE ⟨x, y, s⟩ (L.take (k + 1)) = ((acc ++ [(⟨x, y, s⟩ : Ed)]) ++ [(⟨z, u, r⟩ : Ed)], true)) := Lib.hid (by rw [HNx.out, insStepE, ← HTt.out]; simp [hc0])
            have e0' := HX.out.fx.cell' HE0.out (fun h => h)
            have e1' := HX.out.fx.cell' HE1.out (fun h => h)
            have e2' := HX.out.fx.cell' HE2.out (fun h => h)
            obtain ⟨o1, o2⟩ := HX.out.o1
            have hob : ¬ (Value.slice so acc.length sc).ownBlock = some ob := fun e => by have := (World.ownsRow.lt HX.out.own ob e).1; omega
            have hlo9 := HX.out.lo.2
            have HOo := Lib.hid hob
            clear hob
            go_wp2_with (at_builtin; refine wpList_append_kept rfl _ _ 28 rfl (ob + 1) 33 Try.underlying28 hi hz hs hb rfl (by decide) rfl (World.ownsRow.alloc HX.out.own _) rfl (SlV.lit _ 33 #[.int .i64 _, .int .i64 _, .int .i64 _] 3 1 rfl (by unfold maxLen; omega)) (ints_one [_, _, _]) (by omega) (by unfold maxLen; omega) (by omega) (by simp; omega) ?_)
            intro v' w2 ho hfx hk3 hb2
            obtain ⟨ga, gcap, rfl, hg1, hg2⟩ := ownsRow_pos ho (by omega)
            obtain ⟨t3, t4⟩ := ((Fx.refl No w').alloc (.cells #[.int .i64 x, .int .i64 y, .int .i64 s] 33)).cellF o1 o2 (fun h => h)
            obtain ⟨t3, t4⟩ := hfx.cellF t3 t4 HOo.out
            have HA9 := Lib.hid (HX.out.snoc (x := ⟨x, y, s⟩) ((Fx.refl No w').alloc _) hfx (by exact ho))
            clear ho hfx hk3 hb2 hg1 hg2 e0' e1' e2' o1 o2
            go_wp2_with fail
            refine wp_hold (fun W => AccE w1 W ob N (.slice (some ⟨ga, 0, none⟩) (acc.length + 1) gcap) (acc ++ [(⟨x, y, s⟩ : Ed)])) HA9.out ?_
            rintro wx hX
            have HX := Lib.hid hX
            clear hX HA9 t3 t4
            have c1 := HX.out.fx.cell' HC1.out (fun h => h)
            have p1 := HX.out.fx.cell' HW1.out (fun h => h)
            have p2 := HX.out.fx.cell' HW2.out (fun h => h)
            have p3 := HX.out.fx.cell' HW3.out (fun h => h)
            obtain ⟨o1, o2⟩ := HX.out.o1
            have hlo := HX.out.lo.2
            have hvs : ∀ g, (Value.slice (some ⟨ga, 0, none⟩) (acc.length + 1) gcap).ownBlock = some g → ob + 1 ≤ g := fun g e => (World.ownsRow.lt HX.out.own g e).1
            have HVs := Lib.hid hvs
            have s0 : Fx (fun g => (Value.slice (some ⟨ga, 0, none⟩) (acc.length + 1) gcap).ownBlock = some g ∨ g = ob) wx wx := Fx.refl _ _
            have ns : ∀ j, j < w1.heap.size → ¬ ((Value.slice (some ⟨ga, 0, none⟩) (acc.length + 1) gcap).ownBlock = some j ∨ j = ob) := fun j hj h => by
              rcases h with h | h
              · have := hvs j h; omega
              · omega
            have g0 : ∀ W, Fx (fun g => (Value.slice (some ⟨ga, 0, none⟩) (acc.length + 1) gcap).ownBlock = some g ∨ g = ob) wx W → W.cell? ⟨cb, 1, none⟩ = some (.slice (some ⟨b, o, none⟩) L.length cap) := fun W h => h.cell' c1 (ns _ hcbl)
            have g3 : ∀ W, Fx (fun g => (Value.slice (some ⟨ga, 0, none⟩) (acc.length + 1) gcap).ownBlock = some g ∨ g = ob) wx W → W.cell? ⟨b, o + k * 3, none⟩ = some (.int .i64 z) := fun W h => h.cell' p1 (ns _ (by show b < w1.heap.size; omega))
            have g4 : ∀ W, Fx (fun g => (Value.slice (some ⟨ga, 0, none⟩) (acc.length + 1) gcap).ownBlock = some g ∨ g = ob) wx W → W.cell? ⟨b, o + k * 3 + 1, none⟩ = some (.int .i64 u) := fun W h => h.cell' p2 (ns _ (by show b < w1.heap.size; omega))
            have g5 : ∀ W, Fx (fun g => (Value.slice (some ⟨ga, 0, none⟩) (acc.length + 1) gcap).ownBlock = some g ∨ g = ob) wx W → W.cell? ⟨b, o + k * 3 + 2, none⟩ = some (.int .i64 r) := fun W h => h.cell' p3 (ns _ (by show b < w1.heap.size; omega))
            have HOw : Hid (∀ W, Fx No wx W → W.ownsRow (ob + 1) 33 3 (.slice (some ⟨ga, 0, none⟩) (acc.length + 1) gcap) ((acc.length + 1)) (icells e3 (acc ++ [(⟨x, y, s⟩ : Ed)]))) := Lib.hid fun W hf => by have := HX.out.own.no hf; unfold OwnT at this; simpa using this
            clear hvs c1 p1 p2 p3 ns
            refine wp_region_G 10 (fun b W => Fx (fun g => (Value.slice (some ⟨ga, 0, none⟩) (acc.length + 1) gcap).ownBlock = some g ∨ g = ob) wx W ∧ (b = false → W.cell? ⟨ob, 1, none⟩ = some (.slice (some ⟨ga, 0, none⟩) (acc.length + 1) gcap) ∧ W.frozen? ⟨ob, 1, none⟩ = false)) (by kernel_rfl) ⟨s0.drew, fun _ => ⟨o1, o2⟩⟩ ?_
            intro hS hC
            refine wpG_take (i := 0) (v := ?_) rfl (by kernel_rfl) (by kernel_rfl) (by kernel_rfl) (by kernel_rfl) (fun _ _ _ h => h) (by decide) (Or.inl ⟨by rfl, ?_⟩) hC hS ?_
            rotate_left
            · (intro W ⟨hf, hc⟩; have hc := hc rfl; go_simp; first | done | with_reducible rfl)
            clear hS hC
            intro hS hC
            try simp only [Act.put, List.setIfInBounds_toArray, List.set_cons_zero, List.set_cons_succ]
            refine wpG_take (i := 1) (v := ?_) rfl (by kernel_rfl) (by kernel_rfl) (by kernel_rfl) (by kernel_rfl) (fun _ _ _ h => h) (by decide) (Or.inl ⟨by rfl, ?_⟩) hC hS ?_
            rotate_left
            · (intro W ⟨hf, hc⟩; have hc := hc rfl; go_simp; first | done | with_reducible rfl)
            clear hS hC
            intro hS hC
            try simp only [Act.put, List.setIfInBounds_toArray, List.set_cons_zero, List.set_cons_succ]
            refine wpG_take (i := 2) (v := ?_) rfl (by kernel_rfl) (by kernel_rfl) (by kernel_rfl) (by kernel_rfl) (fun _ _ _ h => h) (by decide) (Or.inl ⟨by rfl, ?_⟩) hC hS ?_
            rotate_left
            · (intro W ⟨hf, hc⟩; have hc := hc rfl; go_simp; first | done | with_reducible rfl)
            clear hS hC
            intro hS hC
            try simp only [Act.put, List.setIfInBounds_toArray, List.set_cons_zero, List.set_cons_succ]
            refine wpG_take (i := 3) (v := ?_) rfl (by kernel_rfl) (by kernel_rfl) (by kernel_rfl) (by kernel_rfl) (fun _ _ _ h => h) (by decide) (Or.inl ⟨by rfl, ?_⟩) hC hS ?_
            rotate_left
            · (intro W ⟨hf, hc⟩; have hc := hc rfl; go_simp; first | done | with_reducible rfl)
            clear hS hC
            intro hS hC
            try simp only [Act.put, List.setIfInBounds_toArray, List.set_cons_zero, List.set_cons_succ]
            refine wpG_take (i := 4) (v := ?_) rfl (by kernel_rfl) (by kernel_rfl) (by kernel_rfl) (by kernel_rfl) (fun _ _ _ h => h) (by decide) (Or.inl ⟨by rfl, ?_⟩) hC hS ?_
            rotate_left
            · (intro W ⟨hf, hc⟩; have hc := hc rfl; go_simp; first | done | with_reducible rfl)
            clear hS hC
            intro hS hC
            try simp only [Act.put, List.setIfInBounds_toArray, List.set_cons_zero, List.set_cons_succ]
            refine wpG_take (i := 5) (v := ?_) rfl (by kernel_rfl) (by kernel_rfl) (by kernel_rfl) (by kernel_rfl) (fun _ _ _ h => h) (by decide) (Or.inl ⟨by rfl, ?_⟩) hC hS ?_
            rotate_left
            · (intro W ⟨hf, hc⟩; have hc := hc rfl; go_simp; first | done | with_reducible rfl)
            clear hS hC
            intro hS hC
            try simp only [Act.put, List.setIfInBounds_toArray, List.set_cons_zero, List.set_cons_succ]
            refine wpG_take (i := 6) (v := ?_) rfl (by kernel_rfl) (by kernel_rfl) (by kernel_rfl) (by kernel_rfl) (fun _ _ _ h => h) (by decide) (Or.inl ⟨by rfl, ?_⟩) hC hS ?_
            rotate_left
            · (intro W ⟨hf, hc⟩; have hc := hc rfl; go_simp; first | done | with_reducible rfl)
            clear hS hC
            intro hS hC
            try simp only [Act.put, List.setIfInBounds_toArray, List.set_cons_zero, List.set_cons_succ]
            refine wpG_one (i := 7) (by kernel_rfl) rfl hC (fun K hK => ?_)
            go_simp
            refine hK.out _ _ ⟨s0.drew.alloc _, fun _ => ((Fx.refl No _).drew.alloc _).cellF o1 o2 (fun h => h)⟩ (fun hS' hC' => ?_)
            clear hK K hS hC
            have hS := hS'
            have hC := hC'
            clear hS' hC'
            try simp only [Act.put, List.setIfInBounds_toArray, List.set_cons_zero, List.set_cons_succ]
            refine wpG_one (i := 8) (by kernel_rfl) rfl hC (fun K hK => ?_)
            refine step_append_kept rfl (.tmp 37) (.tmp 43) 28 rfl (ob + 1) 33 Try.underlying28 hi hz hs hb rfl (by decide) (.slice (some ⟨ga, 0, none⟩) (acc.length + 1) gcap) ((acc.length + 1)) (icells e3 (acc ++ [(⟨x, y, s⟩ : Ed)])) (by simp [Act.eval]) (HOw.out _ ((Fx.refl No wx).drew.alloc _)) (fun _ => True) (.slice (some ⟨wx.heap.size, 0, none⟩) 1 1) 1 (ints [z, u, r]) (by simp [Act.eval]) (SlV.lit wx.drew 33 #[.int .i64 z, .int .i64 u, .int .i64 r] 3 1 rfl (by unfold maxLen; omega)) (ints_one _) (by omega) (by unfold maxLen; omega) (by omega) (by simp; omega) ?_
            intro v' w2 ho hfx hk3 hb2
            obtain ⟨g, gcap, rfl, hg1, hg2⟩ := ownsRow_pos ho (by omega)
            have hob : ¬ (Value.slice (some ⟨ga, 0, none⟩) (acc.length + 1) gcap).ownBlock = some ob := fun e => by have := HVs.out ob e; omega
            obtain ⟨t3, t4⟩ := ((Fx.refl No wx).drew.alloc (.cells #[.int .i64 z, .int .i64 u, .int .i64 r] 33)).cellF o1 o2 (fun h => h)
            obtain ⟨t3, t4⟩ := hfx.cellF t3 t4 hob
            have hS2 : Fx (fun b => (Value.slice (some ⟨ga, 0, none⟩) (acc.length + 1) gcap).ownBlock = some b ∨ b = ob) wx w2 := (s0.drew.alloc _).trans (hfx.mono fun _ _ e => .inl e)
            have HA5 := Lib.hid (HX.out.snoc (x := ⟨z, u, r⟩) ((Fx.refl No wx).drew.alloc _) hfx (by simpa [e3] using ho))
            refine hK.out _ _ ⟨hS2, fun _ => ⟨t3, t4⟩⟩ (fun hS' hC' => ?_)
            clear ho hfx hk3 hb2
            clear hK K hS hC
            have hS := hS'
            have hC := hC'
            clear hS' hC'
            try simp only [Act.put, List.setIfInBounds_toArray, List.set_cons_zero, List.set_cons_succ]
            refine wpG_take (i := 9) (v := ?_) rfl (by kernel_rfl) (by kernel_rfl) (by kernel_rfl) (by kernel_rfl) (fun _ _ _ h => h) (by decide) (Or.inl ⟨by rfl, ?_⟩) hC hS ?_
            rotate_left
            · (intro W ⟨hf, hc⟩; have hc := hc rfl; go_simp; first | done | with_reducible rfl)
            clear hS hC
            intro hS hC
            try simp only [Act.put, List.setIfInBounds_toArray, List.set_cons_zero, List.set_cons_succ]
            refine wpG_one (i := 10) (by kernel_rfl) rfl hC (fun K hK => ?_)
            go_simp
            refine hK.out _ _ ⟨Fx.setCell hS2 (a := ⟨ob, 1, none⟩) (.inr (.inr rfl)) _, fun h => absurd h (by decide +kernel)⟩ (fun _ _ => ?_)
            clear hK K hS hC
            refine wpG_done (by kernel_rfl) ?_ _
            clear o1 o2 t3 t4 hS2 s0 g0 g3 g4 g5
            go_wp2
            go_roundw
            case rel => exact ⟨k + 1, _, by go_num, by omega, by rw [HNx.out], by rw [HNx.out]; exact HA5.out⟩
            case measure => simp [intOf]; omega
      · skip
        have HNx : Hid (insStE ⟨x, y, s⟩ (L.take (k + 1)) = (acc ++ [(⟨z, u, r⟩ : Ed)], true)) := Lib.hid (by rw [HNx.out, insStepE]; simp)
        go_wp2_with fail
        go_quiet (fail)
        all_goals
          clear o1 o2 c1 e0 e1 e2 p1 p2 p3
          have HX := Lib.hid (HA.out.no ((Fx.refl No wr).drewN nq))
          go_wp2_with fail
          refine wp_hold (fun W => AccE w1 W ob N (.slice so acc.length sc) acc) HX.out ?_
          rintro wx hX
          have HX := Lib.hid hX
          clear hX
          have c1 := HX.out.fx.cell' HC1.out (fun h => h)
          have p1 := HX.out.fx.cell' HW1.out (fun h => h)
          have p2 := HX.out.fx.cell' HW2.out (fun h => h)
          have p3 := HX.out.fx.cell' HW3.out (fun h => h)
          obtain ⟨o1, o2⟩ := HX.out.o1
          have hlo := HX.out.lo.2
          have hvs : ∀ g, (Value.slice so acc.length sc).ownBlock = some g → ob + 1 ≤ g := fun g e => (World.ownsRow.lt HX.out.own g e).1
          have HVs := Lib.hid hvs
          have s0 : Fx (fun g => (Value.slice so acc.length sc).ownBlock = some g ∨ g = ob) wx wx := Fx.refl _ _
          have ns : ∀ j, j < w1.heap.size → ¬ ((Value.slice so acc.length sc).ownBlock = some j ∨ j = ob) := fun j hj h => by
            rcases h with h | h
            · have := hvs j h; omega
            · omega
          have g0 : ∀ W, Fx (fun g => (Value.slice so acc.length sc).ownBlock = some g ∨ g = ob) wx W → W.cell? ⟨cb, 1, none⟩ = some (.slice (some ⟨b, o, none⟩) L.length cap) := fun W h => h.cell' c1 (ns _ hcbl)
          have g3 : ∀ W, Fx (fun g => (Value.slice so acc.length sc).ownBlock = some g ∨ g = ob) wx W → W.cell? ⟨b, o + k * 3, none⟩ = some (.int .i64 z) := fun W h => h.cell' p1 (ns _ (by show b < w1.heap.size; omega))
          have g4 : ∀ W, Fx (fun g => (Value.slice so acc.length sc).ownBlock = some g ∨ g = ob) wx W → W.cell? ⟨b, o + k * 3 + 1, none⟩ = some (.int .i64 u) := fun W h => h.cell' p2 (ns _ (by show b < w1.heap.size; omega))
          have g5 : ∀ W, Fx (fun g => (Value.slice so acc.length sc).ownBlock = some g ∨ g = ob) wx W → W.cell? ⟨b, o + k * 3 + 2, none⟩ = some (.int .i64 r) := fun W h => h.cell' p3 (ns _ (by show b < w1.heap.size; omega))
          have HOw : Hid (∀ W, Fx No wx W → W.ownsRow (ob + 1) 33 3 (.slice so acc.length sc) (acc.length) (icells e3 acc)) := Lib.hid fun W hf => by have := HX.out.own.no hf; unfold OwnT at this; simpa using this
          clear hvs c1 p1 p2 p3 ns
          refine wp_region_G 10 (fun b W => Fx (fun g => (Value.slice so acc.length sc).ownBlock = some g ∨ g = ob) wx W ∧ (b = false → W.cell? ⟨ob, 1, none⟩ = some (.slice so acc.length sc) ∧ W.frozen? ⟨ob, 1, none⟩ = false)) (by kernel_rfl) ⟨s0.drew, fun _ => ⟨o1, o2⟩⟩ ?_
          intro hS hC
          refine wpG_take (i := 0) (v := ?_) rfl (by kernel_rfl) (by kernel_rfl) (by kernel_rfl) (by kernel_rfl) (fun _ _ _ h => h) (by decide) (Or.inl ⟨by rfl, ?_⟩) hC hS ?_
          rotate_left
          · (intro W ⟨hf, hc⟩; have hc := hc rfl; go_simp; first | done | with_reducible rfl)
          clear hS hC
          intro hS hC
          try simp only [Act.put, List.setIfInBounds_toArray, List.set_cons_zero, List.set_cons_succ]
          refine wpG_take (i := 1) (v := ?_) rfl (by kernel_rfl) (by kernel_rfl) (by kernel_rfl) (by kernel_rfl) (fun _ _ _ h => h) (by decide) (Or.inl ⟨by rfl, ?_⟩) hC hS ?_
          rotate_left
          · (intro W ⟨hf, hc⟩; have hc := hc rfl; go_simp; first | done | with_reducible rfl)
          clear hS hC
          intro hS hC
          try simp only [Act.put, List.setIfInBounds_toArray, List.set_cons_zero, List.set_cons_succ]
          refine wpG_take (i := 2) (v := ?_) rfl (by kernel_rfl) (by kernel_rfl) (by kernel_rfl) (by kernel_rfl) (fun _ _ _ h => h) (by decide) (Or.inl ⟨by rfl, ?_⟩) hC hS ?_
          rotate_left
          · (intro W ⟨hf, hc⟩; have hc := hc rfl; go_simp; first | done | with_reducible rfl)
          clear hS hC
          intro hS hC
          try simp only [Act.put, List.setIfInBounds_toArray, List.set_cons_zero, List.set_cons_succ]
          refine wpG_take (i := 3) (v := ?_) rfl (by kernel_rfl) (by kernel_rfl) (by kernel_rfl) (by kernel_rfl) (fun _ _ _ h => h) (by decide) (Or.inl ⟨by rfl, ?_⟩) hC hS ?_
          rotate_left
          · (intro W ⟨hf, hc⟩; have hc := hc rfl; go_simp; first | done | with_reducible rfl)
          clear hS hC
          intro hS hC
          try simp only [Act.put, List.setIfInBounds_toArray, List.set_cons_zero, List.set_cons_succ]
          refine wpG_take (i := 4) (v := ?_) rfl (by kernel_rfl) (by kernel_rfl) (by kernel_rfl) (by kernel_rfl) (fun _ _ _ h => h) (by decide) (Or.inl ⟨by rfl, ?_⟩) hC hS ?_
          rotate_left
          · (intro W ⟨hf, hc⟩; have hc := hc rfl; go_simp; first | done | with_reducible rfl)
          clear hS hC
          intro hS hC
          try simp only [Act.put, List.setIfInBounds_toArray, List.set_cons_zero, List.set_cons_succ]
          refine wpG_take (i := 5) (v := ?_) rfl (by kernel_rfl) (by kernel_rfl) (by kernel_rfl) (by kernel_rfl) (fun _ _ _ h => h) (by decide) (Or.inl ⟨by rfl, ?_⟩) hC hS ?_
          rotate_left
          · (intro W ⟨hf, hc⟩; have hc := hc rfl; go_simp; first | done | with_reducible rfl)
          clear hS hC
          intro hS hC
          try simp only [Act.put, List.setIfInBounds_toArray, List.set_cons_zero, List.set_cons_succ]
          refine wpG_take (i := 6) (v := ?_) rfl (by kernel_rfl) (by kernel_rfl) (by kernel_rfl) (by kernel_rfl) (fun _ _ _ h => h) (by decide) (Or.inl ⟨by rfl, ?_⟩) hC hS ?_
          rotate_left
          · (intro W ⟨hf, hc⟩; have hc := hc rfl; go_simp; first | done | with_reducible rfl)
          clear hS hC
          intro hS hC
          try simp only [Act.put, List.setIfInBounds_toArray, List.set_cons_zero, List.set_cons_succ]
          refine wpG_one (i := 7) (by kernel_rfl) rfl hC (fun K hK => ?_)
          go_simp
          refine hK.out _ _ ⟨s0.drew.alloc _, fun _ => ((Fx.refl No _).drew.alloc _).cellF o1 o2 (fun h => h)⟩ (fun hS' hC' => ?_)
          clear hK K hS hC
          have hS := hS'
          have hC := hC'
          clear hS' hC'
          try simp only [Act.put, List.setIfInBounds_toArray, List.set_cons_zero, List.set_cons_succ]
          refine wpG_one (i := 8) (by kernel_rfl) rfl hC (fun K hK => ?_)
          refine step_append_kept rfl (.tmp 37) (.tmp 43) 28 rfl (ob + 1) 33 Try.underlying28 hi hz hs hb rfl (by decide) (.slice so acc.length sc) (acc.length) (icells e3 acc) (by simp [Act.eval]) (HOw.out _ ((Fx.refl No wx).drew.alloc _)) (fun _ => True) (.slice (some ⟨wx.heap.size, 0, none⟩) 1 1) 1 (ints [z, u, r]) (by simp [Act.eval]) (SlV.lit wx.drew 33 #[.int .i64 z, .int .i64 u, .int .i64 r] 3 1 rfl (by unfold maxLen; omega)) (ints_one _) (by omega) (by unfold maxLen; omega) (by omega) (by simp; omega) ?_
          intro v' w2 ho hfx hk3 hb2
          obtain ⟨g, gcap, rfl, hg1, hg2⟩ := ownsRow_pos ho (by omega)
          have hob : ¬ (Value.slice so acc.length sc).ownBlock = some ob := fun e => by have := HVs.out ob e; omega
          obtain ⟨t3, t4⟩ := ((Fx.refl No wx).drew.alloc (.cells #[.int .i64 z, .int .i64 u, .int .i64 r] 33)).cellF o1 o2 (fun h => h)
          obtain ⟨t3, t4⟩ := hfx.cellF t3 t4 hob
          have hS2 : Fx (fun b => (Value.slice so acc.length sc).ownBlock = some b ∨ b = ob) wx w2 := (s0.drew.alloc _).trans (hfx.mono fun _ _ e => .inl e)
          have HA5 := Lib.hid (HX.out.snoc (x := ⟨z, u, r⟩) ((Fx.refl No wx).drew.alloc _) hfx (by simpa [e3] using ho))
          refine hK.out _ _ ⟨hS2, fun _ => ⟨t3, t4⟩⟩ (fun hS' hC' => ?_)
          clear ho hfx hk3 hb2
          clear hK K hS hC
          have hS := hS'
          have hC := hC'
          clear hS' hC'
          try simp only [Act.put, List.setIfInBounds_toArray, List.set_cons_zero, List.set_cons_succ]
          refine wpG_take (i := 9) (v := ?_) rfl (by kernel_rfl) (by kernel_rfl) (by kernel_rfl) (by kernel_rfl) (fun _ _ _ h => h) (by decide) (Or.inl ⟨by rfl, ?_⟩) hC hS ?_
          rotate_left
          · (intro W ⟨hf, hc⟩; have hc := hc rfl; go_simp; first | done | with_reducible rfl)
          clear hS hC
          intro hS hC
          try simp only [Act.put, List.setIfInBounds_toArray, List.set_cons_zero, List.set_cons_succ]
          refine wpG_one (i := 10) (by kernel_rfl) rfl hC (fun K hK => ?_)
          go_simp
          refine hK.out _ _ ⟨Fx.setCell hS2 (a := ⟨ob, 1, none⟩) (.inr (.inr rfl)) _, fun h => absurd h (by decide +kernel)⟩ (fun _ _ => ?_)
          clear hK K hS hC
          refine wpG_done (by kernel_rfl) ?_ _
          clear o1 o2 t3 t4 hS2 s0 g0 g3 g4 g5
          go_wp2
          go_roundw
          case rel => exact ⟨k + 1, _, by go_num, by omega, by rw [HNx.out], by rw [HNx.out]; exact HA5.out⟩
          case measure => simp [intOf]; omega
    · skip
      obtain rfl : k = L.length := by omega
      rw [List.take_length] at HSt
      have HR : Hid (withL ⟨x, y, s⟩ L = if d = true then acc else acc ++ [(⟨x, y, s⟩ : Ed)]) := Lib.hid (by rw [withL, HSt.out])
      clear e0 e1 e2 o1 o2 hlo
      cases d
      · skip
        have HR : Hid (withL ⟨x, y, s⟩ L = acc ++ [(⟨x, y, s⟩ : Ed)]) := Lib.hid (by rw [HR.out]; simp)
        obtain ⟨q0', f0'⟩ := HA.out.fx.cellF HQ0.out HF0.out (fun h => h)
        obtain ⟨q1', f1'⟩ := HA.out.fx.cellF HQ1.out HFf1.out (fun h => h)
        have o0' := HA.out.o0
        have HX2 : Hid (∀ w2, Fx (fun b => (Value.slice so acc.length sc).ownBlock = some b) (wr.alloc (.cells #[.int .i64 x, .int .i64 y, .int .i64 s] 33)) w2 → (w2.cell? ⟨qb, 0, none⟩ = some (.int .i64 0) ∧ w2.frozen? ⟨qb, 0, none⟩ = false) ∧ (w2.cell? ⟨qb, 1, none⟩ = some (.slice none 0 0) ∧ w2.frozen? ⟨qb, 1, none⟩ = false) ∧ w2.cell? ⟨ob, 0, none⟩ = some (.int .i64 N)) := Lib.hid fun w2 hfx => by
          have n1 : ¬ (Value.slice so acc.length sc).ownBlock = some qb := fun e => by have := (World.ownsRow.lt HA.out.own qb e).1; omega
          have n2 : ¬ (Value.slice so acc.length sc).ownBlock = some ob := fun e => by have := (World.ownsRow.lt HA.out.own ob e).1; omega
          have al := (Fx.refl No wr).alloc (.cells #[.int .i64 x, .int .i64 y, .int .i64 s] 33)
          obtain ⟨a1, a2⟩ := al.cellF q0' f0' (fun h => h)
          obtain ⟨a3, a4⟩ := al.cellF q1' f1' (fun h => h)
          exact ⟨hfx.cellF a1 a2 n1, hfx.cellF a3 a4 n1, hfx.cell' (al.cell' o0' (fun h => h)) n2⟩
        clear q0' f0' q1' f1' o0'
        have e0' := HA.out.fx.cell' HE0.out (fun h => h)
        have e1' := HA.out.fx.cell' HE1.out (fun h => h)
        have e2' := HA.out.fx.cell' HE2.out (fun h => h)
        obtain ⟨o1, o2⟩ := HA.out.o1
        have hob : ¬ (Value.slice so acc.length sc).ownBlock = some ob := fun e => by have := (World.ownsRow.lt HA.out.own ob e).1; omega
        have hlo9 := HA.out.lo.2
        have HOo := Lib.hid hob
        clear hob
        go_wp2_with (at_builtin; refine wpList_append_kept rfl _ _ 28 rfl (ob + 1) 33 Try.underlying28 hi hz hs hb rfl (by decide) rfl (World.ownsRow.alloc HA.out.own _) rfl (SlV.lit _ 33 #[.int .i64 _, .int .i64 _, .int .i64 _] 3 1 rfl (by unfold maxLen; omega)) (ints_one [_, _, _]) (by omega) (by unfold maxLen; omega) (by omega) (by simp; omega) ?_)
        intro v' w2 ho hfx hk3 hb2
        obtain ⟨ga, gcap, rfl, hg1, hg2⟩ := ownsRow_pos ho (by omega)
        obtain ⟨t3, t4⟩ := ((Fx.refl No wr).alloc (.cells #[.int .i64 x, .int .i64 y, .int .i64 s] 33)).cellF o1 o2 (fun h => h)
        obtain ⟨t3, t4⟩ := hfx.cellF t3 t4 HOo.out
        have HA9 := Lib.hid (HA.out.snoc (x := ⟨x, y, s⟩) ((Fx.refl No wr).alloc _) hfx (by exact ho))
        obtain ⟨⟨q0, f0⟩, ⟨q1, f1⟩, o0⟩ := HX2.out _ hfx
        have hqob : ¬ qb = ob := by omega
        have hobq : ¬ ob = qb := by omega
        clear ho hfx hk3 hb2 hg1 hg2 e0' e1' e2' o1 o2
        have q0k := HA9.out.fx.cellF HQ0.out HF0.out (fun h => h)
        have q1k := HA9.out.fx.cellF HQ1.out HFf1.out (fun h => h)
        obtain ⟨g1, g2, g3, g4⟩ := put_two (w2.setCell ⟨ob, 1, none⟩ (.slice (some ⟨ga, 0, none⟩) (acc.length + 1) gcap)) (qb := qb) (.int .i64 N) (.slice (some ⟨ga, 0, none⟩) (acc.length + 1) gcap) q0k.1 q1k.1
        have HG1 := Lib.hid g1
        have HG2 := Lib.hid g2
        have HG3 := Lib.hid g3
        have HG4 := Lib.hid g4
        have HLo := Lib.hid HA9.out.lo
        clear g1 g2 g3 g4 q0k q1k
        go_wp2
        refine bodyPost_ret (v := .agg #[.int .i64 N, (.slice (some ⟨ga, 0, none⟩) (acc.length + 1) gcap)]) (by have g1 := HG1.out; have g2 := HG2.out; simp [results, Try.results43, go_sem, g1, g2]) rfl ⟨_, rfl, ?_, ?_⟩
        · exact ((HF1.out.trans HA9.out.fx).setCell (.inl hq0) _).setCell (.inl hq0) _
        · rw [HR.out]
          refine RowV.mono (HA9.out.own.row.keep HG3.out fun x hx e => by have h1 := hx.1; have e : x = qb := e; omega) fun x hx => ?_
          have h1 := hx.1
          have h2 := hx.2
          have h3 := HLo.out
          have h4 := HG4.out
          exact ⟨.inr (by omega), by omega⟩
      · skip
        have HR : Hid (withL ⟨x, y, s⟩ L = acc) := Lib.hid (by rw [HR.out]; simp)
        obtain ⟨o1, o2⟩ := HA.out.o1
        obtain ⟨q0, f0⟩ := HA.out.fx.cellF HQ0.out HF0.out (fun h => h)
        obtain ⟨q1, f1⟩ := HA.out.fx.cellF HQ1.out HFf1.out (fun h => h)
        have o0 := HA.out.o0
        obtain ⟨g1, g2, g3, g4⟩ := put_two wr (qb := qb) (.int .i64 N) (.slice so acc.length sc) q0 q1
        have HG1 := Lib.hid g1
        have HG2 := Lib.hid g2
        have HG3 := Lib.hid g3
        have HG4 := Lib.hid g4
        have HLo := Lib.hid HA.out.lo
        clear g1 g2 g3 g4
        go_wp2
        refine bodyPost_ret (v := .agg #[.int .i64 N, (.slice so acc.length sc)]) (by have g1 := HG1.out; have g2 := HG2.out; simp [results, Try.results43, go_sem, g1, g2]) rfl ⟨_, rfl, ?_, ?_⟩
        · exact ((HF1.out.trans HA.out.fx).setCell (.inl hq0) _).setCell (.inl hq0) _
        · rw [HR.out]
          refine RowV.mono (HA.out.own.row.keep HG3.out fun x hx e => by have h1 := hx.1; have e : x = qb := e; omega) fun x hx => ?_
          have h1 := hx.1
          have h2 := hx.2
          have h3 := HLo.out
          have h4 := HG4.out
          exact ⟨.inr (by omega), by omega⟩
end
#print axioms refWith_any
end Go.Proofs.Ytcfajeldkioomaa
