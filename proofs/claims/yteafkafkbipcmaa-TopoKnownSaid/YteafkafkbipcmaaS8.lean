/- The reference's free, Sort, Rounds (alibiref14). | The reference's Sort, Rounds (alibiref14). | The reference's Rounds (alibiref14). -/
import Derived.Test.YteafkafkbipcmaaS6

namespace Go.Proofs.Yteafkafkbipcmaa
open Go.RowKit
set_option linter.unusedVariables false

/-- a row of Booleans that may be written -/
def BolB (w : World) (b N : Nat) (f : Nat → Bool) : Prop := ∀ i, i < N → w.cell? ⟨b, i, none⟩ = some (.bool (f i)) ∧ w.frozen? ⟨b, i, none⟩ = false
theorem BolB.keep {w w' : World} {S : Nat → Prop} {b N : Nat} {f : Nat → Bool} (h : BolB w b N f) (hf : Fx S w w') (hn : ¬ S b) : BolB w' b N f := fun i hi => hf.cellF (h i hi).1 (h i hi).2 hn
theorem BolB.no {w w' : World} {b N : Nat} {f : Nat → Bool} (h : BolB w b N f) (hf : Fx No w w') : BolB w' b N f := h.keep hf (fun q => q)
theorem BolB.congr {w : World} {b N : Nat} {f g : Nat → Bool} (h : BolB w b N f) (e : ∀ i, i < N → f i = g i) : BolB w b N g := fun i hi => by rw [← e i hi]; exact h i hi
theorem BolB.put {w : World} {b N i : Nat} {f : Nat → Bool} (h : BolB w b N f) (hi : i < N) (x : Bool) : BolB (w.setCell ⟨b, i, none⟩ (.bool x)) b N (fun j => if j = i then x else f j) := fun j hj => by
  obtain ⟨h1, h2⟩ := h j hj
  by_cases e : j = i
  · subst e
    simp only [if_true]
    exact ⟨World.cell?_setCell_same _ _ _ h1, by simpa using h2⟩
  · simp only [if_neg e]
    exact ⟨by rw [World.cell?_setCell_other _ _ _ _ (by intro e2; injection e2 with e3 e4; exact e e4.symm)]; exact h1, by simpa using h2⟩
theorem freeB_take {L : List Ed} {S : List Nat} {v k : Nat} {x : Ed} (hk : k < L.length) (hx : x = gt L k) : freeB (L.take (k + 1)) S v = (freeB (L.take k) S v && (!decide (x.t = (v : Int)) || decide (x.f.toNat ∈ S))) := by
  unfold freeB
  rw [take_gt hk, ← hx, List.all_append, ← Bool.and_assoc]
  simp
theorem free_snoc {L : List Ed} {S : List Nat} {k : Nat} : free L (k + 1) S = free L k S ++ if freeB L S k = true then [k] else [] := by
  unfold free
  rw [List.range_succ, List.filter_append]
  congr 1
  by_cases h : freeB L S k = true
  · rw [if_pos h]; simp [h]
  · rw [if_neg h]; simp [h]
section
variable {w : World} {D : Nat → Prop} {v : Value} {L : List Ed} {N tb : Nat} {S : List Nat}
set_option maxRecDepth 100000 in
set_option maxHeartbeats 4000000 in
theorem refFree_any (h : EdsV w D v L) (hL : NdE L N) (hl : L.length ≤ 1000) (hN : N ≤ 1000) (hb : BolB w tb N fun i => !decide (i ∈ S)) :
    Calls Try.prog 32 #[.agg #[.int .i64 (N : Nat), v], .slice (some ⟨tb, 0, none⟩) N N] w fun e w' => ∃ v', e = .returned v' ∧ Fx No w w' ∧ w'.ownsRow w.heap.size 3 1 v' (free L N S).length (ints (nI (free L N S))) := by
  obtain ⟨ii, hi, hz, hs, hb8⟩ := info_parts info_int'
  have HL := Lib.hid hL
  obtain ⟨ao, cap, rfl, _, _, hc⟩ := h.facts
  have HC := Lib.hid hc
  have HB := Lib.hid hb
  clear h hc hL hb
  go_enter Try.func32, Try.ntmps32
  go_wp2_with fail
  refine wp_hold (fun W => Fx No w W ∧ W.cell? ⟨w.heap.size, 0, none⟩ = some (.int .i64 (N : Nat)) ∧ W.cell? ⟨w.heap.size, 1, none⟩ = some (.slice ao L.length cap)) ⟨(Fx.refl No w).alloc _, by go_simp, by go_simp⟩ ?_
  rintro w1 ⟨hF1, c0, c1⟩
  obtain ⟨cb, hcb⟩ : ∃ e, e = w.heap.size := ⟨_, rfl⟩
  rw [← hcb] at c0 c1 ⊢
  have HF1 := Lib.hid hF1
  have HC0 := Lib.hid c0
  have HC1 := Lib.hid c1
  have HZ1 := Lib.hid hF1.size
  have HCb := Lib.hid hcb
  clear hF1 c0 c1 hcb
  go_loopw [5, 6] (fun o i ws => ∃ q : Nat, i = .int .i64 (q : Nat) ∧ q ≤ N ∧ Fx No w1 ws ∧ ws.ownsRow w1.heap.size 3 1 o (free L q S).length (ints (nI (free L q S)))) (fun _ i _ => N - (intOf i).toNat)
  case atStart => exact ⟨0, rfl, by omega, Fx.refl _ _, World.ownsRow_nil _ _ _ _⟩
  case round =>
    obtain ⟨q, rfl, hq, hf, ho⟩ := hrel
    have HF := Lib.hid hf
    have HO := Lib.hid ho
    have c0 := hf.cell' HC0.out (fun q => q)
    have c1 := hf.cell' HC1.out (fun q => q)
    obtain ⟨R, hR⟩ : ∃ R, R = free L q S := ⟨_, rfl⟩
    have HR := Lib.hid hR
    rw [← hR] at HO
    have hRl : R.length ≤ q := by rw [hR]; unfold free; exact Nat.le_trans (List.length_filter_le _ _) (by simp)
    by_cases hqN : q < N
    · obtain ⟨b0, _⟩ := (HB.out.no (HF1.out.trans hf)) q hqN
      have q0 : (0 : Int) ≤ (q : Int) := by omega
      have q1 : (q : Int) < (N : Int) := by omega
      clear hf ho hR
      go_wp2
      go_loopw [7, 8] (fun ok j ws => ∃ k : Nat, j = .int .i64 (k : Nat) ∧ k ≤ L.length ∧ ok = .bool (freeB (L.take k) S q) ∧ ws = wr) (fun _ j _ => L.length - (intOf j).toNat)
      case atStart => exact ⟨0, rfl, by omega, by simp [freeB], rfl⟩
      case round =>
        obtain ⟨k, rfl, hk, rfl, rfl⟩ := hrel
        by_cases hkL : k < L.length
        · obtain ⟨bb, oo, rfl, _, p0, p1, _⟩ := HC.out k hkL
          have p0 := HF.out.cell' (HF1.out.cell' p0 (fun h => h)) (fun h => h)
          have p1 := HF.out.cell' (HF1.out.cell' p1 (fun h => h)) (fun h => h)
          obtain ⟨x, hx⟩ : ∃ x, x = gt L k := ⟨_, rfl⟩
          have HTk : Hid (freeB (L.take (k + 1)) S q = (freeB (L.take k) S q && (!decide (x.t = (q : Int)) || decide (x.f.toNat ∈ S)))) := Lib.hid (freeB_take hkL hx)
          rw [← hx] at p0 p1
          obtain ⟨⟨x0, x1⟩, _⟩ := HL.out x (by rw [hx]; exact gt_mem hkL)
          obtain ⟨u, hu⟩ := Int.eq_ofNat_of_zero_le x0
          have huN : u < N := by omega
          obtain ⟨b9, _⟩ := (HB.out.no (HF1.out.trans HF.out)) u huN
          rw [hu] at p0 HTk
          rw [Int.toNat_natCast] at HTk
          obtain ⟨y, hy⟩ : ∃ y, y = x.t := ⟨_, rfl⟩
          rw [← hy] at p1 HTk
          have k0 : (0 : Int) ≤ (k : Int) := by omega
          have k1 : (k : Int) < (L.length : Int) := by omega
          have u0 : (0 : Int) ≤ (u : Int) := by omega
          have u1 : (u : Int) < (N : Int) := by omega
          obtain ⟨B, hB⟩ : ∃ B, B = freeB (L.take k) S q := ⟨_, rfl⟩
          rw [← hB] at HTk ⊢
          obtain ⟨C, hC⟩ : ∃ C, C = decide (u ∈ S) := ⟨_, rfl⟩
          rw [← hC] at HTk
          have b1 : wr.cell? ⟨tb, u, none⟩ = some (.bool (!C)) := by rw [hC]; exact b9
          clear b9
          clear hx hu hy hB hC x0 x1
          cases B with
          | false =>
            go_wp2
            go_roundw
            case rel => exact ⟨k + 1, by go_num, by omega, by rw [HTk.out]; simp, trivial⟩
            case measure => simp [intOf]; omega
          | true =>
            by_cases hyq : y = (q : Int)
            · have hd : (y != (q : Int)) = false := by simp [hyq]
              have HYq := Lib.hid hyq
              clear hyq
              cases C with
              | false =>
                go_wp2
                go_roundw
                case rel => exact ⟨k + 1, by go_num, by omega, by rw [HTk.out]; simp [HYq.out], trivial⟩
                case measure => simp [intOf]; omega
              | true =>
                go_wp2
                go_roundw
                case rel => exact ⟨k + 1, by go_num, by omega, by rw [HTk.out]; simp [HYq.out], trivial⟩
                case measure => simp [intOf]; omega
            · have hd : (y != (q : Int)) = true := by simp [hyq]
              have HYq := Lib.hid hyq
              clear hyq
              go_wp2
              go_roundw
              case rel => exact ⟨k + 1, by go_num, by omega, by rw [HTk.out]; simp [HYq.out], trivial⟩
              case measure => simp [intOf]; omega
        · have hke : k = L.length := by omega
          have k1 : ¬ (k : Int) < (L.length : Int) := by omega
          have htk : L.take k = L := by rw [hke, List.take_length]
          rw [htk]
          have HSn : Hid (free L (q + 1) S = R ++ if freeB L S q = true then [q] else []) := Lib.hid (by rw [HR.out]; exact free_snoc)
          obtain ⟨B, hB⟩ : ∃ B, B = freeB L S q := ⟨_, rfl⟩
          rw [← hB] at HSn ⊢
          have HSz : Hid (w1.heap.size ≤ wr.heap.size) := Lib.hid HF.out.size
          clear hB htk hke hkL hk
          cases B with
          | true =>
            go_wp2_with (at_builtin; refine wpList_append_kept rfl _ _ 32 rfl w1.heap.size 3 Try.underlying32 hi hz hs hb8 rfl (by decide) rfl (World.ownsRow.alloc HO.out _) rfl (SlV.lit _ 3 #[.int .i64 (q : Nat)] 1 1 rfl (by unfold maxLen; omega)) (ints_one [_]) (by omega) (by unfold maxLen; omega) (by omega) (by rw [World.size_alloc]; have := HSz.out; omega) ?_)
            intro v' w7 ho7 hf7 _ _
            have HE : Hid (Fx No w1 w7 ∧ w7.ownsRow w1.heap.size 3 1 v' (R ++ [q]).length (ints (nI (R ++ [q])))) := Lib.hid ⟨(HF.out.trans ((Fx.refl No _).alloc _)).trans' hf7 fun j e hl => by have := (World.ownsRow.lt HO.out j e).1; omega, by
              rw [List.length_append]
              have e : ints (nI (R ++ [q])) = ints (nI R) ++ [.int .i64 (q : Nat)] := by simp [ints, nI]
              rw [e]; exact ho7⟩
            clear ho7 hf7
            go_wp2
            go_roundw
            case rel => exact ⟨q + 1, by go_num, by omega, HE.out.1, by rw [HSn.out]; exact HE.out.2⟩
            case measure => simp [intOf]; omega
          | false =>
            go_wp2
            go_roundw
            case rel => exact ⟨q + 1, by go_num, by omega, HF.out, by rw [HSn.out]; simpa using HO.out⟩
            case measure => simp [intOf]; omega
    · have hqe : q = N := by omega
      have q1 : ¬ (q : Int) < (N : Int) := by omega
      have HE : Hid (wr.ownsRow w.heap.size 3 1 _ (free L N S).length (ints (nI (free L N S)))) := Lib.hid (by rw [← hqe]; exact ownsRow_base ho HF1.out.size)
      have HFE := Lib.hid (HF1.out.trans hf)
      clear hf ho hqN hqe hq
      go_wp2
      go_ret
      exact ⟨_, rfl, HFE.out, HE.out⟩
end
#print axioms refFree_any
end Go.Proofs.Yteafkafkbipcmaa

namespace Go.Proofs.Yteafkafkbipcmaa
open Go.RowKit
set_option linter.unusedVariables false

/-- taken from the sources on -/
def TpS (L : List Ed) (N : Nat) (S : List Nat) : Prop := ∀ (p : List Nat) (v : Nat) (q : List Nat), S = p ++ v :: q → v < N ∧ ∀ x ∈ L, x.t = (v : Int) → x.f.toNat ∈ p
theorem TpS.nil (L : List Ed) (N : Nat) : TpS L N [] := fun p v q e => by cases p <;> simp at e
theorem TpS.add {L : List Ed} {N : Nat} {S : List Nat} (h : TpS L N S) : TpS L N (S ++ free L N S) := fun p v q e => by
  rcases List.append_eq_append_iff.1 e with ⟨a, e1, e2⟩ | ⟨c, e1, e2⟩
  · -- p = S ++ a, free = a ++ v :: q
    have hv : v ∈ free L N S := by rw [e2]; simp
    obtain ⟨h1, _, h3⟩ := mem_free.1 hv
    exact ⟨h1, fun x hx ht => by rw [e1]; exact List.mem_append_left _ (h3 x hx ht)⟩
  · cases c with
    | nil =>
      have hv : v ∈ free L N S := by have : v :: q = [] ++ free L N S := e2; rw [List.nil_append] at this; rw [← this]; simp
      obtain ⟨h1, _, h3⟩ := mem_free.1 hv
      rw [List.append_nil] at e1
      exact ⟨h1, fun x hx ht => by rw [← e1]; exact h3 x hx ht⟩
    | cons y c =>
      rw [List.cons_append] at e2
      injection e2 with e3 e4
      subst e3
      exact h p v c e1
theorem TpS.same {L : List Ed} {N : Nat} {S : List Nat} (h : TpS L N S) (hf : free L N S = []) (v : Nat) : v ∈ S ↔ v ∈ srt L N := by
  obtain ⟨h1, h2, h3, h4⟩ := srt_ok L N
  constructor
  · refine closed_sub h (fun v hv hs => ?_) v
    apply Classical.byContradiction
    intro hn
    have := mem_free.2 ⟨hv, hn, hs⟩
    rw [h4] at this; simp at this
  · refine closed_sub (L := L) (N := N) (fun p v q e => ?_) (fun v hv hs => ?_) v
    · obtain ⟨r, hr⟩ := h1 p v q e
      have := mem_free.1 (show v ∈ free L N p by rw [hr]; simp)
      exact ⟨this.1, this.2.2⟩
    · apply Classical.byContradiction
      intro hn
      have := mem_free.2 ⟨hv, hn, hs⟩
      rw [hf] at this; simp at this
/-- a row of the call's own is put at the end -/
theorem RowsO.add {w W w2 : World} {lo : Nat} {ov v' u : Value} {P : List (List Int)} {p : List Int} {V : Nat → Value} (h : RowsO w lo ov P V) (hu : w.ownsRow lo 3 1 u p.length (ints p)) (hsep : ∀ b, u.ownBlock = some b → ov.ownBlock ≠ some b ∧ ∀ j, j < P.length → (V j).ownBlock ≠ some b)
    (hW : Fx No w W) (ho : w2.ownsRow lo 32 1 v' (P.length + 1) ((List.range P.length).map V ++ [u])) (hfx : Fx (fun b => ov.ownBlock = some b) W w2)
    (hb : ∀ g, v'.ownBlock = some g → ov.ownBlock = some g ∨ W.heap.size ≤ g) : RowsO w2 lo v' (P ++ [p]) (fun j => if j = P.length then u else V j) := by
  have hlt : ∀ j b, j < P.length → (V j).ownBlock = some b → b < w.heap.size := fun j b hj e => (World.ownsRow.lt (h.el j hj) b e).2
  have hlu : ∀ b, u.ownBlock = some b → b < w.heap.size := fun b e => (World.ownsRow.lt hu b e).2
  have hz := hW.size
  refine ⟨?_, fun j hj => ?_, fun j b hj e => ?_⟩
  · rw [List.length_append, List.length_singleton, List.range_succ, List.map_append]
    have : (List.range P.length).map (fun j => if j = P.length then u else V j) = (List.range P.length).map V := List.map_congr_left fun j hj => by rw [if_neg (by have := List.mem_range.1 hj; omega)]
    rw [this]
    simpa using ho
  · rw [List.length_append, List.length_singleton] at hj
    rw [rg_snoc]
    by_cases e : j = P.length
    · rw [if_pos e, if_pos e]
      exact ownsRow_fx (ownsRow_fx hu hW fun _ _ q => q) hfx fun b e2 e3 => (hsep b e2).1 e3
    · rw [if_neg e, if_neg e]
      have hj' : j < P.length := by omega
      exact ownsRow_fx (ownsRow_fx (h.el j hj') hW fun _ _ q => q) hfx fun b e2 e3 => (h.sep j b hj' e2).1 e3
  · rw [List.length_append, List.length_singleton] at hj
    by_cases e1 : j = P.length
    · rw [if_pos e1] at e
      refine ⟨fun e2 => ?_, fun i hi hne => ?_⟩
      · rcases hb b e2 with e3 | e3
        · exact (hsep b e).1 e3
        · have := hlu b e; omega
      · rw [List.length_append, List.length_singleton] at hi
        rw [if_neg (by omega)]
        exact (hsep b e).2 i (by omega)
    · rw [if_neg e1] at e
      have hj' : j < P.length := by omega
      refine ⟨fun e2 => ?_, fun i hi hne => ?_⟩
      · rcases hb b e2 with e3 | e3
        · exact (h.sep j b hj' e).1 e3
        · have := hlt j b hj' e; omega
      · by_cases e2 : i = P.length
        · rw [if_pos e2]
          exact fun e3 => (hsep b e3).2 j hj' e
        · rw [if_neg e2]
          rw [List.length_append, List.length_singleton] at hi
          exact (h.sep j b hj' e).2 i (by omega) hne
section
variable {w : World} {D : Nat → Prop} {v : Value} {L : List Ed} {N : Nat}
set_option maxRecDepth 100000 in
set_option maxHeartbeats 8000000 in
theorem refSort_any (h : EdsV w D v L) (hL : NdE L N) (hl : L.length ≤ 1000) (hN : N ≤ 1000) :
    Calls Try.prog 13 #[.agg #[.int .i64 (N : Nat), v]] w fun e w' => ∃ v', e = .returned (.tuple #[v', .int .i64 (serr L N)]) ∧ Fx No w w' ∧ w'.ownsRow w.heap.size 3 1 v' (sres L N).length (ints (nI (sres L N))) := by
  obtain ⟨ii, hi, hz, hs, hb8⟩ := info_parts info_int'
  have HL := Lib.hid hL
  have HV := Lib.hid h
  obtain ⟨ao, cap, rfl, _, _, _⟩ := h.facts
  clear h hL
  have hm1 := run_make_row' (P := Try.prog) 69 4 (.bool false) 1 Try.underlying69 (by kernel_rfl) rfl .i64 .i64 N (by omega) (by omega)
  go_enter Try.func13, Try.ntmps13
  go_upto_region 2 with fail
  refine wp_hold (fun W => Fx No w W ∧ W.cell? ⟨w.heap.size, 0, none⟩ = some (.int .i64 (N : Nat)) ∧ W.cell? ⟨w.heap.size, 1, none⟩ = some (.slice ao L.length cap) ∧ BolB W (w.heap.size + 1) N (fun _ => false) ∧ w.heap.size + 1 < W.heap.size) ⟨((Fx.refl No w).alloc _).alloc _, by go_simp, by go_simp, fun i hi => new_cells (by rw [World.size_alloc]) (by simp [madeCells, hi, Nat.mod_one]), by rw [World.size_alloc, World.size_alloc]; omega⟩ ?_
  rintro w1 ⟨hF1, c0, c1, hb, hz1⟩
  obtain ⟨cb, hcb⟩ : ∃ e, e = w.heap.size := ⟨_, rfl⟩
  obtain ⟨tb, htb⟩ : ∃ e, e = w.heap.size + 1 := ⟨_, rfl⟩
  rw [← hcb] at c0 c1 ⊢
  rw [← htb] at hb hz1
  have htb2 : tb = cb + 1 := by omega
  rw [← hcb] at htb
  rw [← htb]
  have HF1 := Lib.hid hF1
  have HC0 := Lib.hid c0
  have HC1 := Lib.hid c1
  have HB1 := Lib.hid hb
  have HCT : Hid (cb = w.heap.size ∧ tb = cb + 1 ∧ tb < w1.heap.size) := Lib.hid ⟨hcb, htb2, hz1⟩
  clear hF1 c0 c1 hb hcb htb hm1 htb2 hz1
  go_wp2
  go_loopw [5] (fun i ws => ∃ q : Nat, i = .int .i64 (q : Nat) ∧ q ≤ N ∧ Fx (fun y => y = tb) w1 ws ∧ BolB ws tb N (fun i => decide (i < q))) (fun i _ => N - (intOf i).toNat)
  case atStart => exact ⟨0, rfl, by omega, Fx.refl _ _, HB1.out.congr fun i hi => by simp⟩
  case round =>
    obtain ⟨q, rfl, hq, hf, hb⟩ := hrel
    have HF := Lib.hid hf
    have HB := Lib.hid hb
    have hct : ¬ cb = tb := by have := HCT.out; omega
    have c0 := hf.cell' HC0.out hct
    by_cases hqN : q < N
    · obtain ⟨b0, z0⟩ := hb q hqN
      have q0 : (0 : Int) ≤ (q : Int) := by omega
      have q1 : (q : Int) < (N : Int) := by omega
      clear hf hb
      go_wp2
      go_roundw
      case rel => exact ⟨q + 1, by go_num, by omega, HF.out.trans' (Fx.put _ _ _ _) (fun j e _ => e), (HB.out.put hqN true).congr fun i hi => by
        by_cases e : i = q
        · simp [e]
        · rw [if_neg e]; congr 1; rw [eq_iff_iff]; omega⟩
      case measure => simp [intOf]; omega
    · have q1 : ¬ (q : Int) < (N : Int) := by omega
      have HB0 : Hid (BolB wr tb N fun i => !decide (i ∈ ([] : List Nat))) := Lib.hid (hb.congr fun i hi => by simp; omega)
      clear hf hb hqN HB hq
      go_wp2
      clear c0
      go_loopw [6] (fun o ws => ∃ ord : List Nat, SortP L N ord ∧ ord.Nodup ∧ (∀ v ∈ ord, v < N) ∧ Fx (fun y => y = tb) w1 ws ∧ BolB ws tb N (fun i => !decide (i ∈ ord)) ∧ ws.ownsRow w1.heap.size 3 1 o ord.length (ints (nI ord))) (fun o _ => N - slLen o)
      case atStart => exact ⟨[], SortP.nil L N, List.nodup_nil, fun v hv => by simp at hv, HF.out, HB0.out, World.ownsRow_nil _ _ _ _⟩
      case round =>
        clear HF HB0
        obtain ⟨ord, hsp, hnd, hlt, hf, hb, ho⟩ := hrel
        have HSp := Lib.hid hsp
        have HNd := Lib.hid hnd
        have HLt := Lib.hid hlt
        have HF := Lib.hid hf
        have HB := Lib.hid hb
        have HO := Lib.hid ho
        have hol := nd_len hnd hlt
        have c0 := hf.cell' HC0.out hct
        have c1 := hf.cell' HC1.out hct
        obtain ⟨oa, oc, rfl, _⟩ := SlV.ofOwns ho
        have HVr : Hid (EdsV wr (fun k => D k ∧ k < w.heap.size) (.slice ao L.length cap) L) := Lib.hid ((RowV.keep (RowV.no (RowV.bound HV.out) HF1.out) hf) fun k hk e => by have := hk.2; have := HCT.out; have e : k = tb := e; omega)
        have hso := slLen_own ho
        obtain ⟨m, hm⟩ : ∃ m, m = ord.length := ⟨_, rfl⟩
        have HM := Lib.hid hm
        rw [← hm] at hol HO ⊢
        have hnt : ∀ y, (Value.slice oa m oc).ownBlock = some y → y ≠ tb := fun y e e2 => by have := (World.ownsRow.lt HO.out y e).1; have := HCT.out; omega
        have HNt := Lib.hid hnt
        have HSz := Lib.hid hf.size
        clear hsp hnd hlt hf hb ho hso hm hnt
        by_cases hmN : m < N
        · have m1 : (m : Int) < (N : Int) := by omega
          go_wp2_with fail
          refine (refFree_any HVr.out HL.out hl hN HB.out).mono ?_
          rintro e w5 ⟨fv, rfl, hf5, ho5⟩
          have HF5 : Hid (Fx (fun y => y = tb) w1 w5) := Lib.hid (HF.out.trans' hf5 fun j e _ => e.elim)
          have HB5 := Lib.hid (HB.out.no hf5)
          have HO5 : Hid (w5.ownsRow w1.heap.size 3 1 (.slice oa m oc) m (ints (nI ord))) := Lib.hid (ownsRow_fx HO.out hf5 fun _ _ q => q)
          have HSz5 : Hid (w1.heap.size ≤ w5.heap.size) := Lib.hid (by have := hf5.size; have := HSz.out; omega)
          cases hfr : free L N ord with
          | nil =>
            rw [hfr] at ho5
            obtain ⟨fa, fc, rfl, _⟩ := SlV.ofOwns ho5
            have hoe := HSp.out.eq hfr
            have hsn : ¬ (srt L N).length = N := by rw [← hoe, ← HM.out]; omega
            have HR : Hid (sres L N = [] ∧ serr L N = 140) := Lib.hid ⟨if_neg hsn, if_neg hsn⟩
            have hl0 : ([] : List Nat).length = 0 := rfl
            have HFE : Hid (Fx No w w5) := Lib.hid (HF1.out.trans' HF5.out fun j e hl => by have e : j = tb := e; have := HCT.out; omega)
            clear hf5 ho5 hoe hsn
            rw [hl0]
            go_wp2
            go_ret2
            exact ⟨_, by rw [HR.out.2]; rfl, HFE.out, by rw [HR.out.1]; exact World.ownsRow_nil _ _ _ _⟩
          | cons n r =>
            rw [hfr] at ho5
            have HFr := Lib.hid hfr
            obtain ⟨g, gc, rfl, hg1, hg2⟩ := ownsRow_pos ho5 (by simp)
            have hcell := World.ownsRow.cellAt ho5 0 (by simp)
            rw [show (ints (nI (n :: r)))[0]? = some (.int .i64 (n : Nat)) by simp [ints, nI]] at hcell
            have hnf := mem_free.1 (show n ∈ free L N ord by rw [hfr]; simp)
            have HNf := Lib.hid hnf
            have hnN := hnf.1
            obtain ⟨b6, z6⟩ := HB5.out n hnN
            have hl0 : (n :: r).length = r.length + 1 := rfl
            have hrl : r.length + 1 ≤ N := by have := nd_len (asc_nodup (free_asc L N ord)) fun x hx => (mem_free.1 hx).1; rw [hfr] at this; simpa using this
            rw [hl0]
            have hd0 : (((r.length + 1 : Nat) : Int) == 0) = false := by simp; omega
            have hd1 : ((r.length : Int) + 1 == 0) = false := by simp; omega
            have hd2 : (0 : Int) < ((r.length + 1 : Nat) : Int) := by omega
            have hd3 : (0 : Int) < (r.length : Int) + 1 := by omega
            have n0 : (0 : Int) ≤ (n : Int) := by omega
            have n1 : (n : Int) < (N : Int) := by omega
            have HGt : Hid (g ≠ tb ∧ ¬ (Value.slice oa m oc).ownBlock = some g) := Lib.hid ⟨by have := HCT.out; have := HSz.out; omega, fun e => by have := (World.ownsRow.lt HO.out g e).2; omega⟩
            clear hf5 ho5 hfr hnf hg1 hg2
            go_wp2_with (at_builtin; refine wpList_append_kept rfl _ _ 32 rfl w1.heap.size 3 Try.underlying32 hi hz hs hb8 rfl (by decide) rfl (World.ownsRow.alloc HO5.out _) rfl (SlV.lit _ 3 #[.int .i64 (n : Nat)] 1 1 rfl (by unfold maxLen; omega)) (ints_one [_]) (by omega) (by unfold maxLen; omega) (by omega) (by rw [World.size_alloc]; have := HSz5.out; omega) ?_)
            intro v' w7 ho7 hf7 _ hb7
            have c7 : w7.cell? ⟨g, 0, none⟩ = some (.int .i64 (n : Nat)) := hf7.cell' (((Fx.refl No w5).alloc _).cell' hcell (fun q => q)) HGt.out.2
            have htn : ¬ (Value.slice oa m oc).ownBlock = some tb := fun e => HNt.out tb e rfl
            obtain ⟨b7, z7⟩ := hf7.cellF (((Fx.refl No w5).alloc (.cells #[.int .i64 (n : Nat)] 3)).cellF b6 z6 (fun q => q)).1 (((Fx.refl No w5).alloc (.cells #[.int .i64 (n : Nat)] 3)).cellF b6 z6 (fun q => q)).2 htn
            have HB7 : Hid (BolB w7 tb N fun i => !decide (i ∈ ord)) := Lib.hid ((HB5.out.no ((Fx.refl No w5).alloc _)).keep hf7 htn)
            have HF7 : Hid (Fx (fun y => y = tb) w1 w7) := Lib.hid ((HF5.out.trans' ((Fx.refl No w5).alloc _) fun j e _ => e.elim).trans' hf7 fun j e hl => by have := (World.ownsRow.lt HO5.out j e).1; omega)
            have HO7 : Hid (w7.ownsRow w1.heap.size 3 1 v' (ord ++ [n]).length (ints (nI (ord ++ [n])))) := Lib.hid (by
              rw [List.length_append, ← HM.out]
              have e : ints (nI (ord ++ [n])) = ints (nI ord) ++ [.int .i64 (n : Nat)] := by simp [ints, nI]
              rw [e]; exact ho7)
            have HT7 : Hid (∀ y, v'.ownBlock = some y → y ≠ tb) := Lib.hid fun y e e2 => by have := (World.ownsRow.lt ho7 y e).1; have := HCT.out; omega
            have hs7 := slLen_own ho7
            clear ho7 hf7 hb7 b6 z6 hcell htn
            go_wp2
            go_roundw
            case rel => exact ⟨ord ++ [n], HSp.out.snoc HFr.out, List.nodup_append.2 ⟨HNd.out, by simp, fun a ha b hb e => by rw [List.mem_singleton] at hb; rw [e, hb] at ha; exact HNf.out.2.1 ha⟩, fun x hx => by
              rcases List.mem_append.1 hx with e | e
              · exact HLt.out x e
              · rw [List.mem_singleton] at e; rw [e]; exact HNf.out.1, HF7.out.trans' (Fx.put _ _ _ _) (fun j e _ => e), (HB7.out.put hnN false).congr fun i hi => by
              by_cases e : i = n
              · simp [e]
              · simp [e], ownsRow_fx HO7.out (Fx.put _ _ _ _) fun y e e2 => HT7.out y e e2⟩
            case measure => rw [hs7]; simp only [slLen]; omega
        · have m1 : ¬ (m : Int) < (N : Int) := by omega
          have hfn : free L N ord = [] := by
            rw [List.eq_nil_iff_forall_not_mem]
            intro v hv
            have := mem_free.1 hv
            exact this.2.1 (all_taken HNd.out HLt.out (by rw [← HM.out]; omega) v this.1)
          have hoe := HSp.out.eq hfn
          have hsn : (srt L N).length = N := by rw [← hoe, ← HM.out]; omega
          have HR : Hid (sres L N = ord ∧ serr L N = 0) := Lib.hid ⟨by rw [hoe]; exact if_pos hsn, if_pos hsn⟩
          have HFE : Hid (Fx No w wr) := Lib.hid (HF1.out.trans' HF.out fun j e hl => by have e : j = tb := e; have := HCT.out; omega)
          have HOE := Lib.hid (ownsRow_base HO.out HF1.out.size)
          clear hfn hoe hsn
          go_wp2
          go_ret2
          exact ⟨_, by rw [HR.out.2]; rfl, HFE.out, by rw [HR.out.1, ← HM.out]; exact HOE.out⟩
end
#print axioms refSort_any
#print axioms RowsO.add
end Go.Proofs.Yteafkafkbipcmaa

namespace Go.Proofs.Yteafkafkbipcmaa
open Go.RowKit
set_option linter.unusedVariables false

/-- where the reference's rounds stand: R are done, their nodes are S -/
structure RdS (L : List Ed) (N : Nat) (R : List (List Nat)) (S : List Nat) : Prop where
  eq : rnds L N = R ++ rndF L N (N - R.length) S
  fuel : N ≤ (N - R.length) + S.length
  le : R.length ≤ N
  nd : S.Nodup
  lt : ∀ v ∈ S, v < N
  tp : TpS L N S
theorem RdS.nil (L : List Ed) (N : Nat) : RdS L N [] [] := ⟨rfl, by simp, by simp, List.nodup_nil, fun v h => by simp at h, TpS.nil L N⟩
theorem RdS.more {L : List Ed} {N : Nat} {R : List (List Nat)} {S : List Nat} (h : RdS L N R S) (hf : free L N S ≠ []) : R.length < N ∧ RdS L N (R ++ [free L N S]) (S ++ free L N S) := by
  have hlt : R.length < N := by
    apply Classical.byContradiction
    intro hn
    have := h.fuel
    have := h.le
    apply hf
    rw [List.eq_nil_iff_forall_not_mem]
    intro v hv
    have hm := mem_free.1 hv
    exact hm.2.1 (all_taken h.nd h.lt (by omega) v hm.1)
  refine ⟨hlt, ?_⟩
  obtain ⟨k, hk⟩ : ∃ k, N - R.length = k + 1 := ⟨N - R.length - 1, by omega⟩
  have hk2 : N - (R ++ [free L N S]).length = k := by rw [List.length_append, List.length_singleton]; omega
  have hpos : 0 < (free L N S).length := List.length_pos_iff.2 hf
  refine ⟨?_, ?_, by simp; omega, ?_, fun v hv => ?_, h.tp.add⟩
  · rw [h.eq, hk, hk2, List.append_assoc]
    congr 1
    show rndF L N (k + 1) S = _
    conv => lhs; unfold rndF
    split
    · rename_i e; exact absurd e hf
    · rename_i a r e; rw [e]; rfl
  · rw [hk2, List.length_append]; have := h.fuel; omega
  · refine List.nodup_append.2 ⟨h.nd, asc_nodup (free_asc L N S), fun a ha b hb e => ?_⟩
    rw [← e] at hb
    exact (mem_free.1 hb).2.1 ha
  · rcases List.mem_append.1 hv with e | e
    · exact h.lt v e
    · exact (mem_free.1 e).1
theorem RdS.fin {L : List Ed} {N : Nat} {R : List (List Nat)} {S : List Nat} (h : RdS L N R S) (hf : free L N S = []) : rnds L N = R ∧ ∀ v, v ∈ S ↔ v ∈ srt L N := by
  refine ⟨?_, h.tp.same hf⟩
  have e := h.eq
  cases hk : N - R.length with
  | zero => rw [hk] at e; simpa [rndF] using e
  | succ k =>
    rw [hk] at e
    unfold rndF at e
    rw [hf] at e
    simpa using e
section
variable {w : World} {D : Nat → Prop} {v : Value} {L : List Ed} {N : Nat}
set_option maxRecDepth 100000 in
set_option maxHeartbeats 8000000 in
theorem refRounds_any (h : EdsV w D v L) (hL : NdE L N) (hl : L.length ≤ 1000) (hN : N ≤ 1000) :
    Calls Try.prog 14 #[.agg #[.int .i64 (N : Nat), v]] w fun e w' => ∃ v1 v2 V, e = .returned (.tuple #[v1, v2]) ∧ Fx No w w' ∧ RowsO w' w.heap.size v1 ((rnds L N).map nI) V ∧ w'.ownsRow w.heap.size 3 1 v2 (rstL L N).length (ints (nI (rstL L N))) := by
  obtain ⟨ii, hi, hz, hs, hb8⟩ := info_parts info_int'
  obtain ⟨ii2, hi2, hz2, hs2, hb2⟩ := info_parts info_rowsR
  have HL := Lib.hid hL
  have HV := Lib.hid h
  obtain ⟨ao, cap, rfl, _, _, _⟩ := h.facts
  clear h hL
  have hm1 := run_make_row' (P := Try.prog) 69 4 (.bool false) 1 Try.underlying69 (by kernel_rfl) rfl .i64 .i64 N (by omega) (by omega)
  go_enter Try.func14, Try.ntmps14
  go_upto_region 2 with fail
  refine wp_hold (fun W => Fx No w W ∧ W.cell? ⟨w.heap.size, 0, none⟩ = some (.int .i64 (N : Nat)) ∧ W.cell? ⟨w.heap.size, 1, none⟩ = some (.slice ao L.length cap) ∧ BolB W (w.heap.size + 1) N (fun _ => false) ∧ w.heap.size + 1 < W.heap.size) ⟨((Fx.refl No w).alloc _).alloc _, by go_simp, by go_simp, fun i hi => new_cells (by rw [World.size_alloc]) (by simp [madeCells, hi, Nat.mod_one]), by rw [World.size_alloc, World.size_alloc]; omega⟩ ?_
  rintro w1 ⟨hF1, c0, c1, hb, hz1⟩
  obtain ⟨cb, hcb⟩ : ∃ e, e = w.heap.size := ⟨_, rfl⟩
  obtain ⟨tb, htb⟩ : ∃ e, e = w.heap.size + 1 := ⟨_, rfl⟩
  rw [← hcb] at c0 c1 ⊢
  rw [← htb] at hb hz1
  have htb2 : tb = cb + 1 := by omega
  rw [← hcb] at htb
  rw [← htb]
  have HF1 := Lib.hid hF1
  have HC0 := Lib.hid c0
  have HC1 := Lib.hid c1
  have HB1 := Lib.hid hb
  have HCT : Hid (cb = w.heap.size ∧ tb = cb + 1 ∧ tb < w1.heap.size) := Lib.hid ⟨hcb, htb2, hz1⟩
  clear hF1 c0 c1 hb hcb htb hm1 htb2 hz1
  go_wp2
  go_loopw [5] (fun i ws => ∃ q : Nat, i = .int .i64 (q : Nat) ∧ q ≤ N ∧ Fx (fun y => y = tb) w1 ws ∧ BolB ws tb N (fun i => decide (i < q))) (fun i _ => N - (intOf i).toNat)
  case atStart => exact ⟨0, rfl, by omega, Fx.refl _ _, HB1.out.congr fun i hi => by simp⟩
  case round =>
    obtain ⟨q, rfl, hq, hf, hb⟩ := hrel
    have HF := Lib.hid hf
    have HB := Lib.hid hb
    have hct : ¬ cb = tb := by have := HCT.out; omega
    have c0 := hf.cell' HC0.out hct
    by_cases hqN : q < N
    · obtain ⟨b0, z0⟩ := hb q hqN
      have q0 : (0 : Int) ≤ (q : Int) := by omega
      have q1 : (q : Int) < (N : Int) := by omega
      clear hf hb
      go_wp2
      go_roundw
      case rel => exact ⟨q + 1, by go_num, by omega, HF.out.trans' (Fx.put _ _ _ _) (fun j e _ => e), (HB.out.put hqN true).congr fun i hi => by
        by_cases e : i = q
        · simp [e]
        · rw [if_neg e]; congr 1; rw [eq_iff_iff]; omega⟩
      case measure => simp [intOf]; omega
    · have q1 : ¬ (q : Int) < (N : Int) := by omega
      have HB0 : Hid (BolB wr tb N fun i => !decide (i ∈ ([] : List Nat))) := Lib.hid (hb.congr fun i hi => by simp; omega)
      clear hf hb hqN HB hq
      go_wp2
      clear c0
      go_loopw [6] (fun o ws => ∃ (R : List (List Nat)) (S : List Nat) (V : Nat → Value), RdS L N R S ∧ Fx (fun y => y = tb) w1 ws ∧ BolB ws tb N (fun i => !decide (i ∈ S)) ∧ RowsO ws w1.heap.size o (R.map nI) V) (fun o _ => N - slLen o)
      case atStart => exact ⟨[], [], fun _ => undef, RdS.nil L N, HF.out, HB0.out, RowsO.nil _ _ _⟩
      case round =>
        clear HF HB0
        obtain ⟨R, S, V, hrd, hf, hb, ho⟩ := hrel
        have HRd := Lib.hid hrd
        have HF := Lib.hid hf
        have HB := Lib.hid hb
        have HO := Lib.hid ho
        have c0 := hf.cell' HC0.out hct
        have c1 := hf.cell' HC1.out hct
        have how := ho.own
        rw [List.length_map] at how
        obtain ⟨oa, oc, rfl, _⟩ := SlV.ofOwns how
        have hso := slLen_own how
        obtain ⟨m, hm⟩ : ∃ m, m = R.length := ⟨_, rfl⟩
        have HM := Lib.hid hm
        have hmN : m ≤ N := by rw [hm]; exact hrd.le
        rw [← hm] at HO how ⊢
        have HOw := Lib.hid how
        have HVr : Hid (EdsV wr (fun k => D k ∧ k < w.heap.size) (.slice ao L.length cap) L) := Lib.hid ((RowV.keep (RowV.no (RowV.bound HV.out) HF1.out) hf) fun k hk e => by have := hk.2; have := HCT.out; have e : k = tb := e; omega)
        have HSz := Lib.hid hf.size
        clear hrd hf hb ho hso hm how
        go_wp2_with fail
        refine (refFree_any HVr.out HL.out hl hN HB.out).mono ?_
        rintro e w5 ⟨fv, rfl, hf5, ho5⟩
        have HF5 : Hid (Fx (fun y => y = tb) w1 w5) := Lib.hid (HF.out.trans' hf5 fun j e _ => e.elim)
        have HB5 := Lib.hid (HB.out.no hf5)
        have HO5 := Lib.hid (HO.out.no hf5)
        have HOw5 : Hid (w5.ownsRow w1.heap.size 32 1 (.slice oa m oc) m ((List.range m).map V)) := Lib.hid (ownsRow_fx HOw.out hf5 fun _ _ q => q)
        have HSz5 : Hid (w1.heap.size ≤ w5.heap.size) := Lib.hid (by have := hf5.size; have := HSz.out; omega)
        obtain ⟨l, hlf⟩ : ∃ l, l = free L N S := ⟨_, rfl⟩
        have HLf := Lib.hid hlf
        rw [← hlf] at ho5
        by_cases hl0 : l = []
        · subst hl0
          obtain ⟨fa, fc, rfl, _⟩ := SlV.ofOwns ho5
          have hfin := HRd.out.fin hlf.symm
          have HR1 : Hid (rnds L N = R) := Lib.hid hfin.1
          have HSs := Lib.hid hfin.2
          have HC0' := Lib.hid (HF5.out.cell' HC0.out hct)
          have HOE := Lib.hid HO5.out
          clear hf5 ho5 hlf HLf hfin c0 c1
          have hle : ([] : List Nat).length = 0 := rfl
          rw [hle]
          go_wp2
          go_loopw [9, 10] (fun o i ws => ∃ q : Nat, i = .int .i64 (q : Nat) ∧ q ≤ N ∧ Fx No w5 ws ∧ ws.ownsRow w5.heap.size 3 1 o ((List.range q).filter fun v => !decide (v ∈ S)).length (ints (nI ((List.range q).filter fun v => !decide (v ∈ S))))) (fun _ i _ => N - (intOf i).toNat)
          case atStart => exact ⟨0, rfl, by omega, Fx.refl _ _, World.ownsRow_nil _ _ _ _⟩
          case round =>
            obtain ⟨q, rfl, hq, hf, ho⟩ := hrel
            have HFq := Lib.hid hf
            have HOq := Lib.hid ho
            have c0 := hf.cell' HC0'.out (fun q => q)
            obtain ⟨T, hT⟩ : ∃ T, T = (List.range q).filter fun v => !decide (v ∈ S) := ⟨_, rfl⟩
            have HT := Lib.hid hT
            rw [← hT] at HOq
            have hTl : T.length ≤ q := by rw [hT]; exact Nat.le_trans (List.length_filter_le _ _) (by simp)
            by_cases hqN : q < N
            · obtain ⟨b1, z1⟩ := (HB5.out.no hf) q hqN
              have q0 : (0 : Int) ≤ (q : Int) := by omega
              have q1 : (q : Int) < (N : Int) := by omega
              obtain ⟨C, hC⟩ : ∃ C, C = !decide (q ∈ S) := ⟨_, rfl⟩
              have b2 : wr.cell? ⟨tb, q, none⟩ = some (.bool C) := by rw [hC]; exact b1
              have HSn : Hid ((List.range (q + 1)).filter (fun v => !decide (v ∈ S)) = T ++ if C = true then [q] else []) := Lib.hid (by
                rw [List.range_succ, List.filter_append, ← hT]
                congr 1
                rw [hC]
                by_cases e : q ∈ S
                · simp [e]
                · simp [e])
              have HSzq : Hid (w5.heap.size ≤ wr.heap.size) := Lib.hid hf.size
              clear hf ho hT b1 hC
              cases C with
              | true =>
                go_wp2_with (at_builtin; refine wpList_append_kept rfl _ _ 32 rfl w5.heap.size 3 Try.underlying32 hi hz hs hb8 rfl (by decide) rfl (World.ownsRow.alloc HOq.out _) rfl (SlV.lit _ 3 #[.int .i64 (q : Nat)] 1 1 rfl (by unfold maxLen; omega)) (ints_one [_]) (by omega) (by unfold maxLen; omega) (by omega) (by rw [World.size_alloc]; have := HSzq.out; omega) ?_)
                intro v' w7 ho7 hf7 _ _
                have HE : Hid (Fx No w5 w7 ∧ w7.ownsRow w5.heap.size 3 1 v' (T ++ [q]).length (ints (nI (T ++ [q])))) := Lib.hid ⟨(HFq.out.trans ((Fx.refl No _).alloc _)).trans' hf7 fun j e hl => by have := (World.ownsRow.lt HOq.out j e).1; omega, by
                  rw [List.length_append]
                  have e : ints (nI (T ++ [q])) = ints (nI T) ++ [.int .i64 (q : Nat)] := by simp [ints, nI]
                  rw [e]; exact ho7⟩
                clear ho7 hf7
                go_wp2
                go_roundw
                case rel => exact ⟨q + 1, by go_num, by omega, HE.out.1, by rw [HSn.out]; exact HE.out.2⟩
                case measure => simp [intOf]; omega
              | false =>
                go_wp2
                go_roundw
                case rel => exact ⟨q + 1, by go_num, by omega, HFq.out, by rw [HSn.out]; simpa using HOq.out⟩
                case measure => simp [intOf]; omega
            · have hqe : q = N := by omega
              have q1 : ¬ (q : Int) < (N : Int) := by omega
              have HRs : Hid (rstL L N = T) := Lib.hid (by
                rw [hT, hqe]
                unfold rstL
                refine List.filter_congr fun v hv => ?_
                simp only [HSs.out v])
              have HFE : Hid (Fx No w wr) := Lib.hid ((HF1.out.trans' HF5.out fun j e hl => by have e : j = tb := e; have := HCT.out; omega).trans hf)
              have HO1 := Lib.hid ((HO5.out.no hf).base HF1.out.size)
              have HO2 : Hid (wr.ownsRow w.heap.size 3 1 _ T.length (ints (nI T))) := Lib.hid (ownsRow_base HOq.out (Nat.le_trans HF1.out.size HSz5.out))
              clear hf ho hT hqN hqe hq
              go_wp2
              go_ret2
              exact ⟨_, _, rfl, HFE.out, ⟨V, by rw [HR1.out]; exact HO1.out⟩, by rw [HRs.out]; exact HO2.out⟩
        · have hpos := List.length_pos_iff.2 hl0
          obtain ⟨g, gc, rfl, hg1, hg2⟩ := ownsRow_pos ho5 hpos
          obtain ⟨hRN, hrd2⟩ := HRd.out.more (by rw [← hlf]; exact hl0)
          rw [← hlf] at hrd2
          have HRd2 := Lib.hid hrd2
          have HmN : Hid (m < N) := Lib.hid (by rw [HM.out]; exact hRN)
          have HLl : Hid ((∀ x ∈ l, x < N) ∧ l.Nodup) := Lib.hid ⟨fun x hx => by rw [hlf] at hx; exact (mem_free.1 hx).1, by rw [hlf]; exact asc_nodup (free_asc L N S)⟩
          obtain ⟨p, hp⟩ : ∃ p, p = l.length := ⟨_, rfl⟩
          have HP := Lib.hid hp
          rw [← hp] at ho5 hpos ⊢
          have hpN : p ≤ N := by rw [hp]; exact nd_len HLl.out.2 HLl.out.1
          have HU : Hid (w5.ownsRow w1.heap.size 3 1 (.slice (some ⟨g, 0, none⟩) p gc) p (ints (nI l))) := Lib.hid (ownsRow_base ho5 HSz.out)
          have HGn : Hid (wr.heap.size ≤ g ∧ g ≠ tb) := Lib.hid ⟨hg1, by have := HCT.out; have := HSz.out; omega⟩
          have hd0 : ((p : Int) == 0) = false := by simp; omega
          clear hf5 ho5 hlf hl0 hrd2 hRN hg1 hg2 hp c0 c1
          go_wp2_with (at_builtin; refine wpList_append_kept rfl _ _ 30 rfl w1.heap.size 32 Try.underlying30 hi2 hz2 hs2 hb2 rfl (by decide) rfl (World.ownsRow.alloc HOw5.out _) rfl (SlV.lit _ 32 #[.slice (some ⟨g, 0, none⟩) p gc] 1 1 rfl (by unfold maxLen; omega)) (fun u hu => by rw [show u = _ from List.mem_singleton.1 hu]; rfl) (by omega) (by unfold maxLen; have := HmN.out; omega) (by omega) (by rw [World.size_alloc]; have := HSz5.out; omega) ?_)
          intro v6 w6 ho6 hf6 _ hb6
          have htn : ¬ (Value.slice oa m oc).ownBlock = some tb := fun e => by have := (World.ownsRow.lt HOw.out tb e).1; have := HCT.out; omega
          have HO6 : Hid (RowsO w6 w1.heap.size v6 ((R ++ [l]).map nI) (fun j => if j = (R.map nI).length then (.slice (some ⟨g, 0, none⟩) p gc) else V j)) := Lib.hid (by
            rw [List.map_append]
            refine HO5.out.add (u := .slice (some ⟨g, 0, none⟩) p gc) (p := nI l) (by rw [nI_len, ← HP.out]; exact HU.out) (fun b e => ?_) ((Fx.refl No w5).alloc _) (by rw [List.length_map, ← HM.out]; exact ho6) hf6 (fun q e => by rw [World.size_alloc]; exact hb6 q e)
            have e : g = b := by simpa [Value.ownBlock] using e
            subst e
            refine ⟨fun e2 => ?_, fun j hj e2 => ?_⟩
            · have := (World.ownsRow.lt HOw.out g e2).2; have := HGn.out.1; omega
            · have := (World.ownsRow.lt (HO.out.el j hj) g e2).2; have := HGn.out.1; omega)
          have HB6 : Hid (BolB w6 tb N fun i => !decide (i ∈ S)) := Lib.hid ((HB5.out.no ((Fx.refl No w5).alloc _)).keep hf6 htn)
          have HF6 : Hid (Fx (fun y => y = tb) w1 w6) := Lib.hid ((HF5.out.trans' ((Fx.refl No w5).alloc _) fun j e _ => e.elim).trans' hf6 fun j e hl => by have := (World.ownsRow.lt HOw5.out j e).1; omega)
          have HU6 : Hid (w6.ownsRow w1.heap.size 3 1 (.slice (some ⟨g, 0, none⟩) p gc) p (ints (nI l))) := Lib.hid (ownsRow_fx (ownsRow_fx HU.out ((Fx.refl No w5).alloc (.cells #[.slice (some ⟨g, 0, none⟩) p gc] 32)) fun _ _ q => q) hf6 fun k e e2 => by
            have e : g = k := by simpa [Value.ownBlock] using e
            subst e
            have := (World.ownsRow.lt HOw.out g e2).2; have := HGn.out.1; omega)
          have hs6 := slLen_own ho6
          have HTb6 : Hid (tb < w6.heap.size) := Lib.hid (by have := HF6.out.size; have := HCT.out; omega)
          have HNt6 : Hid (∀ y, v6.ownBlock = some y → y ≠ tb) := Lib.hid fun y e e2 => by have := (World.ownsRow.lt ho6 y e).1; have := HCT.out; omega
          clear ho6 hf6 hb6 htn
          go_wp2
          go_loopw [8] (fun i ws => ∃ k : Nat, i = .int .i64 (k : Nat) ∧ k ≤ p ∧ Fx (fun y => y = tb) w6 ws ∧ BolB ws tb N (fun i => !decide (i ∈ S ++ l.take k))) (fun i _ => p - (intOf i).toNat)
          case atStart => exact ⟨0, rfl, by omega, Fx.refl _ _, by simpa using HB6.out⟩
          case round =>
            obtain ⟨k, rfl, hk, hf, hb⟩ := hrel
            have HFk := Lib.hid hf
            have HBk := Lib.hid hb
            by_cases hkp : k < p
            · have hu7 := ownsRow_fx HU6.out hf fun y e e2 => by
                have e : g = y := by simpa [Value.ownBlock] using e
                have e2 : y = tb := e2
                exact HGn.out.2 (e.trans e2)
              have hcell := World.ownsRow.cellAt hu7 k (by omega)
              have hkl : k < l.length := by rw [← HP.out]; exact hkp
              obtain ⟨x, hx2⟩ : ∃ x, x = hx l k := ⟨_, rfl⟩
              rw [show (ints (nI l))[k]? = some (.int .i64 (x : Nat)) by rw [hx2]; simp [ints, nI, hx, hkl]] at hcell
              have hxN : x < N := by rw [hx2]; exact HLl.out.1 _ (hx_mem hkl)
              obtain ⟨b6, z6⟩ := hb x hxN
              have HTk : Hid (l.take (k + 1) = l.take k ++ [x]) := Lib.hid (by rw [hx2]; exact take_hx hkl)
              have k0 : (0 : Int) ≤ (k : Int) := by omega
              have k1 : (k : Int) < (p : Int) := by omega
              have x0 : (0 : Int) ≤ (x : Int) := by omega
              have x1 : (x : Int) < (N : Int) := by omega
              clear hf hb hu7 hx2
              go_wp2
              go_roundw
              case rel => exact ⟨k + 1, by go_num, by omega, HFk.out.trans' (Fx.put _ _ _ _) (fun j e _ => e), (HBk.out.put hxN false).congr fun i hi => by
                rw [HTk.out, ← List.append_assoc]
                by_cases e : i = x
                · simp [e]
                · simp [e]⟩
              case measure => simp [intOf]; omega
            · have hke : k = p := by omega
              have k1 : ¬ (k : Int) < (p : Int) := by omega
              have HBn : Hid (BolB wr tb N fun i => !decide (i ∈ S ++ l)) := Lib.hid (by have := hb; rw [hke, HP.out, List.take_length] at this; exact this)
              have HFn : Hid (Fx (fun y => y = tb) w1 wr) := Lib.hid (HF6.out.trans' hf fun j e _ => e)
              have HOn : Hid (RowsO wr w1.heap.size v6 ((R ++ [l]).map nI) (fun j => if j = (R.map nI).length then (.slice (some ⟨g, 0, none⟩) p gc) else V j)) := Lib.hid (by
                have h1 := HO6.out
                refine ⟨ownsRow_fx h1.own hf fun y e e2 => HNt6.out y e e2, fun j hj => ownsRow_fx (h1.el j hj) hf fun y e e2 => ?_, h1.sep⟩
                have := (World.ownsRow.lt (h1.el j hj) y e).1; have := HCT.out; have e2 : y = tb := e2; omega)
              clear hf hb hke hk hkp
              go_wp2
              go_roundw
              case rel => exact ⟨R ++ [l], S ++ l, _, by have := HRd2.out; exact this, HFn.out, HBn.out, HOn.out⟩
              case measure => rw [hs6]; simp only [slLen]; have := HmN.out; omega
end
#print axioms refRounds_any
end Go.Proofs.Yteafkafkbipcmaa
