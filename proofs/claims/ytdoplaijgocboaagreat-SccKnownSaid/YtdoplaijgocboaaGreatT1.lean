/- The reference of components: Of. | Rows of numbers that a call builds: rows are put at the end, numbers are put to a row. | The reference of components: Parts. -/
import Derived.Test.YtdoplaijgocboaaGreatS6
import Derived.Test.YtdoplaijgocboaaGreatS5
import Derived.Test.YtdoplaijgocboaaGreatM1
import Derived.Laws.OwnMore
import Derived.Test.YtdoplaijgocboaaGreatS1

namespace Go.Proofs.YtdoplaijgocboaaGreat
open Go.RowKit
set_option linter.unusedVariables false

def cnoL (sm : Nat → Nat → Bool) (i : Nat) : List Int := (List.range i).map fun k => ((cno sm k : Nat) : Int)
theorem cnoL_len (sm : Nat → Nat → Bool) (i : Nat) : (cnoL sm i).length = i := by simp [cnoL]
theorem cnoL_succ (sm : Nat → Nat → Bool) (i : Nat) : cnoL sm (i + 1) = cnoL sm i ++ [((cno sm i : Nat) : Int)] := by simp [cnoL, List.range_succ]
theorem cnoL_at {sm : Nat → Nat → Bool} {i k : Nat} (h : k < i) : gi (cnoL sm i) k = ((cno sm k : Nat) : Int) := by simp [gi, cnoL, h]
theorem cno_new' {sm : Nat → Nat → Bool} {i : Nat} (hr : ∀ k, k < i → sm i k = false) : repB sm i = true ∧ cno sm i = (reps sm i).length := by
  have h1 : repB sm i = true := repB_iff.2 hr
  refine ⟨h1, ?_⟩
  unfold cno
  rcases lst_spec (sm := sm) i with ⟨e, _⟩ | ⟨e1, e2, _⟩
  · rw [e]
  · rw [hr _ e1] at e2; cases e2
theorem info_intR : (Tryz.prog.info? 3).map (fun i => (i.zero, i.size, i.bytes)) = some (some (.int .i64 0), 1, 8) := by kernel_rfl
section
variable {w w' : World} {D S : Nat → Prop} {L : List Ed} {v : Value} {sm : Nat → Nat → Bool}
set_option maxRecDepth 100000 in
set_option maxHeartbeats 4000000 in
theorem refOf_any (h : EdsV w D v L) {N : Nat} (hN : N ≤ 1000) (hL : NdL L N) (hq : Eqv sm N) (hsm : ∀ i j, i < N → j < N → (sm i j = true ↔ Sm (EG L) i j)) :
    Calls Tryz.prog 8 #[.agg #[.int .i64 (N : Nat), v]] w fun e w' => ∃ v', e = .returned v' ∧ Fx No w w' ∧ w'.ownsRow w.heap.size 3 1 v' N (ints (cnoL sm N)) := by
  obtain ⟨ii, hi, hz, hs, hb⟩ := info_parts info_intR
  have HL := Lib.hid hL
  have HE := Lib.hid hq
  have HSm := Lib.hid hsm
  have HR := Lib.hid (refReach_any (h.no ((Fx.refl No w).alloc (.cells #[.int .i64 (N : Nat), v] 28))) hN hL)
  obtain ⟨ao, cap, rfl, _⟩ := EdsV.facts h
  clear h hL hq hsm
  go_enter Tryz.func8, Tryz.ntmps8
  go_wp2_with fail
  refine HR.out.mono ?_
  rintro e w2 ⟨vo, gO, B, g, rfl, hf2, hm2, hg2⟩
  obtain ⟨vO, vcap, rfl, hvO, _⟩ := hm2.shape
  have hf0 : Fx No w w2 := ((Fx.refl No w).alloc _).trans hf2
  obtain ⟨rb, hrb⟩ : ∃ x, x = w.heap.size := ⟨_, rfl⟩
  have r0 : w2.cell? ⟨rb, 0, none⟩ = some (.int .i64 (N : Nat)) := by rw [hrb]; exact hf2.cell' (by simp) (fun q => q)
  have hrl : w.heap.size < w2.heap.size := by have := hf2.size; rw [World.size_alloc] at this; omega
  rw [← hrb]
  have HR0 := Lib.hid r0
  have HF0 := Lib.hid hf0
  have HM2 := Lib.hid hm2
  have HvO := Lib.hid hvO
  have HG : Hid (∀ i k, i < N → k < i → (g i k && g k i) = sm i k) := Lib.hid fun i k hi hk => by
    rw [Bool.eq_iff_iff, Bool.and_eq_true, hg2 i k hi (by omega), hg2 k i (by omega) hi, HSm.out i k hi (by omega)]
    unfold Sm Rch
    constructor
    · rintro ⟨h1, h2⟩; exact ⟨.inr h1, .inr h2⟩
    · rintro ⟨h1 | h1, h2 | h2⟩
      · omega
      · omega
      · omega
      · exact ⟨h1, h2⟩
  clear hf2 hm2 hg2 hvO HR hf0 hrb r0
  go_wp2
  go_loopw [4, 5, 6] (fun o m i ws => ∃ k : Nat, i = .int .i64 k ∧ k ≤ N ∧ m = .int .i64 ((reps sm k).length : Nat) ∧ Fx No w2 ws ∧ ws.ownsRow w2.heap.size 3 1 o k (ints (cnoL sm k))) (fun _ _ i _ => N - (intOf i).toNat)
  case atStart => exact ⟨0, rfl, by omega, rfl, Fx.refl _ _, World.ownsRow_nil _ _ _ _⟩
  case round =>
    obtain ⟨i, rfl, hiN, rfl, hf, ho⟩ := hrel
    have HF := Lib.hid hf
    have HO := Lib.hid ho
    obtain ⟨oo, oc, rfl, _⟩ := SlV.ofOwns ho
    have r0 := hf.cell' HR0.out (fun q => q)
    obtain ⟨mn, hmn⟩ : ∃ x, x = (reps sm i).length := ⟨_, rfl⟩
    rw [← hmn]
    have HMn := Lib.hid hmn
    clear hf ho hmn
    by_cases hlt : i < N
    · have iN : (i : Int) < (N : Int) := by omega
      have i0 : (0 : Int) ≤ (i : Int) := by omega
      obtain rfl := HvO.out (by omega)
      go_wp2
      go_loopw [7, 8] (fun a j ws => ∃ (k : Nat) (z : Int), j = .int .i64 k ∧ k ≤ i ∧ a = .int .i64 z ∧ ((z = -1 ∧ ∀ q, q < k → sm i q = false) ∨ (z = (cno sm i : Nat) ∧ ∃ q, q < i ∧ sm i q = true)) ∧ Fx No wr ws) (fun _ j _ => i - (intOf j).toNat)
      case atStart => exact ⟨0, -1, rfl, by omega, rfl, .inl ⟨rfl, fun q hq => by omega⟩, Fx.refl _ _⟩
      case round =>
        obtain ⟨k, z, rfl, hki, rfl, hzz, hf⟩ := hrel
        have HF3 := Lib.hid (HF.out.trans hf)
        have hz3 := HF3.out.size
        have HO3 := Lib.hid (ownsRow_fx HO.out hf fun _ _ q => q)
        rcases hzz with ⟨rfl, hqq⟩ | ⟨hzc, hex⟩
        · by_cases hk : k < i
          · have hki2 : (k : Int) < (i : Int) := by omega
            have k0 : (0 : Int) ≤ (k : Int) := by omega
            have hm := HM2.out.fx (HF3.out) (fun _ _ q => q)
            have m1 := hm.row i hlt
            have m2 := hm.row k (by omega)
            have s1 := (hm.cel i k hlt (by omega)).1
            have s2 := (hm.cel k i (by omega) hlt).1
            obtain ⟨g0, gc, e1, _, _⟩ := ownsRow_pos HO3.out (by omega)
            simp only [Value.slice.injEq] at e1
            obtain ⟨rfl, -, rfl⟩ := e1
            have cl := HO3.out.cells (g := g0) rfl k (.int .i64 ((cno sm k : Nat) : Int)) (by rw [← cnoL_at hk]; simp [ints, gi, cnoL, hk])
            rw [Addr.add_lit, Nat.zero_add] at cl
            obtain ⟨c, hc⟩ : ∃ c, c = cno sm k := ⟨_, rfl⟩
            rw [← hc] at cl
            have hgk := HG.out i k hlt hk
            obtain ⟨ta, hta⟩ : ∃ t, t = g i k := ⟨_, rfl⟩
            obtain ⟨tb, htb⟩ : ∃ t, t = g k i := ⟨_, rfl⟩
            rw [← hta] at s1 hgk
            rw [← htb] at s2 hgk
            have HQ := Lib.hid hqq
            have HGk := Lib.hid hgk
            have HC := Lib.hid hc
            have HF4 := Lib.hid hf
            clear hqq hgk hc hf hm hta htb r0
            cases ta
            · have HS0 : Hid (sm i k = false) := Lib.hid (by rw [← HGk.out]; rfl)
              clear HGk
              go_wp2
              go_roundw
              case rel => exact ⟨k + 1, -1, by go_num, by omega, rfl, .inl ⟨rfl, fun q hq => by
                by_cases e : q = k
                · rw [e]; exact HS0.out
                · exact HQ.out q (by omega)⟩, HF4.out⟩
              case measure => simp [intOf]; omega
            · cases tb
              · have HS0 : Hid (sm i k = false) := Lib.hid (by rw [← HGk.out]; rfl)
                clear HGk
                go_wp2
                go_roundw
                case rel => exact ⟨k + 1, -1, by go_num, by omega, rfl, .inl ⟨rfl, fun q hq => by
                  by_cases e : q = k
                  · rw [e]; exact HS0.out
                  · exact HQ.out q (by omega)⟩, HF4.out⟩
                case measure => simp [intOf]; omega
              · have HS0 : Hid (sm i k = true) := Lib.hid (by rw [← HGk.out]; rfl)
                clear HGk
                go_wp2
                go_roundw
                case rel => exact ⟨k + 1, (c : Nat), by go_num, by omega, rfl, .inr ⟨by rw [HC.out, (cno_same HE.out hlt (by omega)).2 HS0.out], k, hk, HS0.out⟩, HF4.out⟩
                case measure => simp [intOf]; omega
          · have hki2 : ¬ (k : Int) < (i : Int) := by omega
            have dk : decide ((k : Int) < (i : Int)) = false := decide_eq_false hki2
            have dk2 : decide (k < i) = false := decide_eq_false hk
            have hq2 : ∀ q, q < i → sm i q = false := fun q hq => hqq q (by omega)
            obtain ⟨hrp, hcn⟩ := cno_new' hq2
            have HC : Hid (((cno sm i : Nat) : Int) = (mn : Nat)) := Lib.hid (by rw [hcn, HMn.out])
            have HMS : Hid ((reps sm (i + 1)).length = mn + 1) := Lib.hid (by rw [reps_succ, if_pos hrp, List.length_append, HMn.out]; rfl)
            have HMl : Hid (mn ≤ i) := Lib.hid (by rw [HMn.out]; exact reps_len i)
            have hmn1000 : mn ≤ 1000 := by have := HMl.out; omega
            clear hqq hq2 hrp hcn hf r0 hki2 hk
            go_wp2_with (at_builtin; refine wpList_append_kept rfl _ _ 23 rfl w2.heap.size 3 Tryz.underlying23 hi hz hs hb rfl (by decide) rfl (World.ownsRow.alloc HO3.out _) rfl (SlV.lit _ 3 #[.int .i64 _] 1 1 rfl (by unfold maxLen; omega)) (ints_one [_]) (by omega) (by unfold maxLen; omega) (by omega) (by simp; omega) ?_)
            intro v6 w6 ho6 hf6 hk6 hb6
            have HN6 : Hid (Fx No w2 w6 ∧ w6.ownsRow w2.heap.size 3 1 v6 (i + 1) (ints (cnoL sm (i + 1)))) := Lib.hid ⟨((HF3.out.trans ((Fx.refl No _).alloc _)).trans' hf6 fun j e hl => by have := (World.ownsRow.lt HO3.out j e).1; omega), by rw [cnoL_succ, show ints (cnoL sm i ++ [((cno sm i : Nat) : Int)]) = ints (cnoL sm i) ++ ints [((cno sm i : Nat) : Int)] from List.map_append, HC.out]; exact ho6⟩
            clear ho6 hf6 hk6 hb6
            go_wp2
            go_roundw
            case rel => exact ⟨i + 1, by go_num, by omega, by rw [HMS.out]; first | done | go_num, HN6.out.1, HN6.out.2⟩
            case measure => simp [intOf]; omega
        · obtain ⟨c, hc⟩ : ∃ c, c = cno sm i := ⟨_, rfl⟩
          rw [← hc] at hzc
          subst hzc
          have dz : decide ((c : Int) < 0) = false := decide_eq_false (by omega)
          by_cases hk : k < i
          · have hki2 : (k : Int) < (i : Int) := by omega
            clear hf r0
            have HC : Hid (((cno sm i : Nat) : Int) = (c : Nat)) := Lib.hid (by rw [hc])
            obtain ⟨p, hp, hsp⟩ := hex
            have HMS : Hid ((reps sm (i + 1)).length = mn) := Lib.hid (by
              rw [reps_succ, if_neg, List.append_nil, HMn.out]
              intro e
              have := repB_iff.1 e p hp
              rw [hsp] at this; cases this)
            clear hc hsp hp
            go_wp2_with (at_builtin; refine wpList_append_kept rfl _ _ 23 rfl w2.heap.size 3 Tryz.underlying23 hi hz hs hb rfl (by decide) rfl (World.ownsRow.alloc HO3.out _) rfl (SlV.lit _ 3 #[.int .i64 _] 1 1 rfl (by unfold maxLen; omega)) (ints_one [_]) (by omega) (by unfold maxLen; omega) (by omega) (by simp; omega) ?_)
            intro v6 w6 ho6 hf6 hk6 hb6
            have HN6 : Hid (Fx No w2 w6 ∧ w6.ownsRow w2.heap.size 3 1 v6 (i + 1) (ints (cnoL sm (i + 1)))) := Lib.hid ⟨((HF3.out.trans ((Fx.refl No _).alloc _)).trans' hf6 fun j e hl => by have := (World.ownsRow.lt HO3.out j e).1; omega), by rw [cnoL_succ, show ints (cnoL sm i ++ [((cno sm i : Nat) : Int)]) = ints (cnoL sm i) ++ ints [((cno sm i : Nat) : Int)] from List.map_append, HC.out]; exact ho6⟩
            clear ho6 hf6 hk6 hb6
            go_wp2
            go_roundw
            case rel => exact ⟨i + 1, by go_num, by omega, by rw [HMS.out]; first | done | go_num, HN6.out.1, HN6.out.2⟩
            case measure => simp [intOf]; omega
          · have dk : decide ((k : Int) < (i : Int)) = false := decide_eq_false (by omega)
            have dk2 : decide (k < i) = false := decide_eq_false hk
            clear hf r0 hk
            have HC : Hid (((cno sm i : Nat) : Int) = (c : Nat)) := Lib.hid (by rw [hc])
            obtain ⟨p, hp, hsp⟩ := hex
            have HMS : Hid ((reps sm (i + 1)).length = mn) := Lib.hid (by
              rw [reps_succ, if_neg, List.append_nil, HMn.out]
              intro e
              have := repB_iff.1 e p hp
              rw [hsp] at this; cases this)
            clear hc hsp hp
            go_wp2_with (at_builtin; refine wpList_append_kept rfl _ _ 23 rfl w2.heap.size 3 Tryz.underlying23 hi hz hs hb rfl (by decide) rfl (World.ownsRow.alloc HO3.out _) rfl (SlV.lit _ 3 #[.int .i64 _] 1 1 rfl (by unfold maxLen; omega)) (ints_one [_]) (by omega) (by unfold maxLen; omega) (by omega) (by simp; omega) ?_)
            intro v6 w6 ho6 hf6 hk6 hb6
            have HN6 : Hid (Fx No w2 w6 ∧ w6.ownsRow w2.heap.size 3 1 v6 (i + 1) (ints (cnoL sm (i + 1)))) := Lib.hid ⟨((HF3.out.trans ((Fx.refl No _).alloc _)).trans' hf6 fun j e hl => by have := (World.ownsRow.lt HO3.out j e).1; omega), by rw [cnoL_succ, show ints (cnoL sm i ++ [((cno sm i : Nat) : Int)]) = ints (cnoL sm i) ++ ints [((cno sm i : Nat) : Int)] from List.map_append, HC.out]; exact ho6⟩
            clear ho6 hf6 hk6 hb6
            go_wp2
            go_roundw
            case rel => exact ⟨i + 1, by go_num, by omega, by rw [HMS.out]; first | done | go_num, HN6.out.1, HN6.out.2⟩
            case measure => simp [intOf]; omega
    · obtain rfl : i = N := by omega
      have z0 := HF0.out.size
      clear HR0
      go_wp2
      go_ret
      exact ⟨_, rfl, HF0.out.trans HF.out, ownsRow_base HO.out z0⟩
end
#print axioms refOf_any
end Go.Proofs.YtdoplaijgocboaaGreat

namespace Go.Proofs.YtdoplaijgocboaaGreat
open Go.RowKit
set_option linter.unusedVariables false

/-- rows of the call's own -/
structure RowsO (w : World) (lo : Nat) (ov : Value) (P : List (List Int)) (V : Nat → Value) : Prop where
  own : w.ownsRow lo 23 1 ov P.length ((List.range P.length).map V)
  el : ∀ j, j < P.length → w.ownsRow lo 3 1 (V j) (rg P j).length (ints (rg P j))
  sep : ∀ j b, j < P.length → (V j).ownBlock = some b → ov.ownBlock ≠ some b ∧ ∀ i, i < P.length → i ≠ j → (V i).ownBlock ≠ some b
section
variable {w w' W w2 : World} {lo : Nat} {ov v' : Value} {P : List (List Int)} {V : Nat → Value}
theorem RowsO.nil (w : World) (lo : Nat) (V : Nat → Value) : RowsO w lo (.slice none 0 0) [] V := ⟨World.ownsRow_nil _ _ _ _, fun j hj => by simp at hj, fun j b hj => by simp at hj⟩
theorem RowsO.no (h : RowsO w lo ov P V) (hf : Fx No w w') : RowsO w' lo ov P V := ⟨ownsRow_fx h.own hf fun _ _ q => q, fun j hj => ownsRow_fx (h.el j hj) hf fun _ _ q => q, h.sep⟩
theorem RowsO.base {lo' : Nat} (h : RowsO w lo ov P V) (hl : lo' ≤ lo) : RowsO w lo' ov P V := ⟨ownsRow_base h.own hl, fun j hj => ownsRow_base (h.el j hj) hl, h.sep⟩
theorem rg_snoc {P : List (List Int)} {p : List Int} {j : Nat} : rg (P ++ [p]) j = if j = P.length then p else rg P j := by
  unfold rg
  by_cases e : j = P.length
  · rw [if_pos e, e]; simp
  · rw [if_neg e]
    by_cases h : j < P.length
    · simp [List.getD, List.getElem?_append_left h]
    · have : P.length + 1 ≤ j := by omega
      simp only [List.getD]
      rw [List.getElem?_eq_none (by simp; omega), List.getElem?_eq_none (by omega)]
theorem rg_set {P : List (List Int)} {p : List Int} {c j : Nat} (hc : c < P.length) : rg (P.set c p) j = if j = c then p else rg P j := by
  unfold rg
  by_cases e : j = c
  · subst e; simp [hc]
  · rw [if_neg e]; simp [List.getD, List.getElem?_set_ne (fun q => e q.symm)]
theorem RowsO.push (h : RowsO w lo ov P V) (hW : Fx No w W) (ho : w2.ownsRow lo 23 1 v' (P.length + 1) ((List.range P.length).map V ++ [.slice none 0 0])) (hfx : Fx (fun b => ov.ownBlock = some b) W w2)
    (hb : ∀ g, v'.ownBlock = some g → ov.ownBlock = some g ∨ W.heap.size ≤ g) : RowsO w2 lo v' (P ++ [[]]) (fun j => if j = P.length then .slice none 0 0 else V j) := by
  have hlt : ∀ j b, j < P.length → (V j).ownBlock = some b → b < w.heap.size := fun j b hj e => (World.ownsRow.lt (h.el j hj) b e).2
  have hz := hW.size
  refine ⟨?_, fun j hj => ?_, fun j b hj e => ?_⟩
  · rw [List.length_append, List.length_singleton, List.range_succ, List.map_append]
    have : (List.range P.length).map (fun j => if j = P.length then Value.slice none 0 0 else V j) = (List.range P.length).map V := List.map_congr_left fun j hj => by rw [if_neg (by have := List.mem_range.1 hj; omega)]
    rw [this]
    simpa using ho
  · rw [List.length_append, List.length_singleton] at hj
    rw [rg_snoc]
    by_cases e : j = P.length
    · rw [if_pos e, if_pos e]; exact World.ownsRow_nil _ _ _ _
    · rw [if_neg e, if_neg e]
      have hj' : j < P.length := by omega
      exact ownsRow_fx (ownsRow_fx (h.el j hj') hW fun _ _ q => q) hfx fun b e2 e3 => (h.sep j b hj' e2).1 e3
  · rw [List.length_append, List.length_singleton] at hj
    by_cases e1 : j = P.length
    · rw [if_pos e1] at e; simp [Value.ownBlock] at e
    · rw [if_neg e1] at e
      have hj' : j < P.length := by omega
      refine ⟨fun e2 => ?_, fun i hi hne => ?_⟩
      · rcases hb b e2 with e3 | e3
        · exact (h.sep j b hj' e).1 e3
        · have := hlt j b hj' e; omega
      · by_cases e2 : i = P.length
        · rw [if_pos e2]; simp [Value.ownBlock]
        · rw [if_neg e2]
          rw [List.length_append, List.length_singleton] at hi
          exact (h.sep j b hj' e).2 i (by omega) hne
theorem RowsO.put {g n cap c : Nat} {y : Int} (h : RowsO w lo (.slice (some ⟨g, 0, none⟩) n cap) P V) (hc : c < P.length) (hW : Fx No w W) (ho : w2.ownsRow lo 3 1 v' ((rg P c).length + 1) (ints (rg P c) ++ ints [y]))
    (hfx : Fx (fun b => (V c).ownBlock = some b) W w2) (hb : ∀ g, v'.ownBlock = some g → (V c).ownBlock = some g ∨ W.heap.size ≤ g) :
    RowsO (w2.setCell ⟨g, c, none⟩ v') lo (.slice (some ⟨g, 0, none⟩) n cap) (P.set c (rg P c ++ [y])) (fun j => if j = c then v' else V j) := by
  have hown := h.own
  have hn : n = P.length := by
    rcases h.own.2 with ⟨e, _⟩ | ⟨g', c', cur, e, _⟩
    · cases e
    · simp only [Value.slice.injEq] at e; exact e.2.1
  subst hn
  have hgl := World.ownsRow.lt hown g rfl
  have hlt : ∀ j b, j < P.length → (V j).ownBlock = some b → b < w.heap.size := fun j b hj e => (World.ownsRow.lt (h.el j hj) b e).2
  have hz := hW.size
  have hgv : ¬ (V c).ownBlock = some g := fun e => (h.sep c g hc e).1 rfl
  have hgv' : ¬ v'.ownBlock = some g := fun e => by
    rcases hb g e with e | e
    · exact hgv e
    · omega
  have hp : Fx (fun x => x = g) w2 (w2.setCell ⟨g, c, none⟩ v') := Fx.put _ _ _ _
  refine ⟨?_, fun j hj => ?_, fun j b hj e => ?_⟩
  · have h1 := ownsRow_fx (ownsRow_fx hown hW fun _ _ q => q) hfx fun b e e2 => hgv (by have e : some g = some b := e; rw [← e] at e2; exact e2)
    have h2 := (World.ownsRow.stored h1 c v').1
    rw [List.length_set]
    have : ((List.range P.length).map fun j => if j = c then v' else V j) = ((List.range P.length).map V).set c v' := by
      apply List.ext_getElem?
      intro i
      by_cases e : i = c
      · subst e
        rw [List.getElem?_set_self (by simp [hc])]
        simp [hc]
      · rw [List.getElem?_set_ne (fun q => e q.symm)]
        by_cases hi : i < P.length
        · simp [hi, e]
        · rw [List.getElem?_eq_none (by simp; omega), List.getElem?_eq_none (by simp; omega)]
    rw [this]; exact h2
  · rw [List.length_set] at hj
    rw [rg_set hc]
    by_cases e : j = c
    · rw [if_pos e, if_pos e]
      refine ownsRow_fx ?_ hp fun b e2 e3 => hgv' (by have e3 : b = g := e3; rw [← e3]; exact e2)
      rw [List.length_append, show ints (rg P c ++ [y]) = ints (rg P c) ++ ints [y] from List.map_append]
      exact ho
    · rw [if_neg e, if_neg e]
      have h1 := ownsRow_fx (ownsRow_fx (h.el j hj) hW fun _ _ q => q) hfx fun b e2 e3 => (h.sep j b hj e2).2 c hc (fun q => e q.symm) e3
      exact ownsRow_fx h1 hp fun b e2 e3 => (h.sep j b hj e2).1 (by have e3 : b = g := e3; rw [e3]; rfl)
  · rw [List.length_set] at hj
    by_cases e1 : j = c
    · rw [if_pos e1] at e
      subst e1
      rcases hb b e with e2 | e2
      · obtain ⟨q1, q2⟩ := h.sep j b hj e2
        exact ⟨q1, fun i hi hne => by rw [List.length_set] at hi; rw [if_neg hne]; exact q2 i hi hne⟩
      · refine ⟨fun e3 => ?_, fun i hi hne => ?_⟩
        · have e3 : some g = some b := e3
          simp only [Option.some.injEq] at e3; omega
        · rw [List.length_set] at hi
          rw [if_neg hne]
          intro e3
          have := hlt i b hi e3; omega
    · rw [if_neg e1] at e
      obtain ⟨q1, q2⟩ := h.sep j b hj e
      refine ⟨q1, fun i hi hne => ?_⟩
      rw [List.length_set] at hi
      by_cases e2 : i = c
      · subst e2
        rw [if_pos rfl]
        intro e3
        rcases hb b e3 with e4 | e4
        · exact q2 i hi hne e4
        · have := hlt j b hj e; omega
      · rw [if_neg e2]; exact q2 i hi hne
/-- they may be read, and be written -/
theorem RowsO.rowsW (h : RowsO w lo ov P V) : ∃ B, RowsW w (Iv lo w.heap.size) ov P B V := by
  refine ⟨fun j => ((V j).ownBlock).getD 0, ⟨SlV.ofOwns h.own, fun i hi => SlV.ofOwns (h.el i hi)⟩, fun i hi h0 => ?_, fun i hi h0 => ?_, fun i j hi hj hne h1 h2 e => ?_⟩
  · obtain ⟨g, cap, e, _, _⟩ := ownsRow_pos (h.el i hi) h0
    exact ⟨cap, by rw [e]; rfl⟩
  · obtain ⟨g, cap, e, _, _⟩ := ownsRow_pos (h.el i hi) h0
    have hh := h.el i hi
    rw [e] at hh
    intro k hk
    have hb : ((V i).ownBlock).getD 0 = g := by rw [e]; rfl
    rw [hb, Nat.zero_add]
    refine ⟨?_, World.ownsRow.frozenAt hh k⟩
    rw [World.ownsRow.cellAt hh k (by omega)]
    simp [ints, gi, hk]
  · obtain ⟨g1, c1, e1, _, _⟩ := ownsRow_pos (h.el i hi) h1
    obtain ⟨g2, c2, e2, _, _⟩ := ownsRow_pos (h.el j hj) h2
    have b1 : (V i).ownBlock = some g1 := by rw [e1]; rfl
    have b2 : (V j).ownBlock = some g2 := by rw [e2]; rfl
    have e : ((V i).ownBlock).getD 0 = ((V j).ownBlock).getD 0 := e
    rw [b1, b2] at e
    simp only [Option.getD_some] at e
    subst e
    exact (h.sep i g1 hi b1).2 j hj (fun q => hne q.symm) b2
end
#print axioms RowsO.put
#print axioms RowsO.rowsW
end Go.Proofs.YtdoplaijgocboaaGreat

namespace Go.Proofs.YtdoplaijgocboaaGreat
open Go.RowKit
set_option linter.unusedVariables false

theorem canonI_rg {sm : Nat → Nat → Bool} {i c : Nat} (hc : c < (canonI sm i).length) : rg ((canonI sm i).map natsI) c = natsI (((canonI sm i)[c]?).getD []) := by simp [rg, List.getD, hc]
theorem canonI_new' {sm : Nat → Nat → Bool} {N : Nat} (h : Eqv sm N) {i : Nat} (hi : i < N) (hr : repB sm i = true) : (canonI sm (i + 1)).map natsI = (((canonI sm i).map natsI) ++ [[]]).set (canonI sm i).length (rg (((canonI sm i).map natsI) ++ [[]]) (canonI sm i).length ++ [(i : Int)]) := by
  rw [canonI_new h hi hr, rg_snoc, if_pos (by simp)]
  rw [List.map_append]
  apply List.ext_getElem?
  intro j
  rcases Nat.lt_trichotomy j (canonI sm i).length with e | e | e
  · rw [List.getElem?_set_ne (by omega), List.getElem?_append_left (by simpa using e), List.getElem?_append_left (by simpa using e)]
  · subst e
    rw [List.getElem?_set_self (by simp)]
    rw [List.getElem?_append_right (by simp)]
    simp [natsI]
  · rw [List.getElem?_eq_none (by simp; omega), List.getElem?_eq_none (by simp; omega)]
theorem canonI_old' {sm : Nat → Nat → Bool} {N : Nat} (h : Eqv sm N) {i : Nat} (hi : i < N) (hr : repB sm i = false) : (canonI sm (i + 1)).map natsI = ((canonI sm i).map natsI).set (cno sm i) (rg ((canonI sm i).map natsI) (cno sm i) ++ [(i : Int)]) ∧ cno sm i < (canonI sm i).length := by
  obtain ⟨h1, h2⟩ := canonI_old h hi hr
  refine ⟨?_, h2⟩
  rw [canonI_rg h2]
  conv => lhs; rw [h1]
  rw [List.map_set, natsI_app]
  rfl
theorem canonI_row {sm : Nat → Nat → Bool} {i : Nat} (h : i ≤ 1000) (j : Nat) : (rg ((canonI sm i).map natsI) j).length ≤ 1000 := by
  unfold rg
  by_cases hj : j < (canonI sm i).length
  · have e : ((canonI sm i).map natsI).getD j [] = natsI ((canonI sm i)[j]) := by simp [List.getD, hj]
    rw [e, natsI_len]
    have hm := List.getElem_mem hj
    unfold canonI at hm
    obtain ⟨r, _, hr⟩ := List.mem_map.1 hm
    have : (canonI sm i)[j] = cls sm i r := hr.symm
    rw [this]
    unfold cls
    have := List.length_filter_le (sm r) (List.range i)
    rw [List.length_range] at this
    omega
  · have e : ((canonI sm i).map natsI).getD j [] = [] := by simp only [List.getD]; rw [List.getElem?_eq_none (by simpa using hj)]; rfl
    rw [e]; exact Nat.zero_le _
theorem info_rowsR : (Tryz.prog.info? 23).map (fun i => (i.zero, i.size, i.bytes)) = some (some (.slice none 0 0), 1, 24) := by kernel_rfl
section
variable {w w' : World} {D S : Nat → Prop} {L : List Ed} {v : Value} {sm : Nat → Nat → Bool}
set_option maxRecDepth 100000 in
set_option maxHeartbeats 4000000 in
theorem refParts_any (h : EdsV w D v L) {N : Nat} (hN : N ≤ 1000) (hL : NdL L N) (hq : Eqv sm N) (hsm : ∀ i j, i < N → j < N → (sm i j = true ↔ Sm (EG L) i j)) :
    Calls Tryz.prog 7 #[.agg #[.int .i64 (N : Nat), v]] w fun e w' => ∃ v' V, e = .returned v' ∧ Fx No w w' ∧ RowsO w' w.heap.size v' ((canon sm N).map natsI) V := by
  obtain ⟨ii, hi, hz, hs, hb⟩ := info_parts info_intR
  obtain ⟨ij, hi2, hz2, hs2, hb2⟩ := info_parts info_rowsR
  have HE := Lib.hid hq
  have HR := Lib.hid (refOf_any (h.no ((Fx.refl No w).alloc (.cells #[.int .i64 (N : Nat), v] 28))) hN hL hq hsm)
  have HCn : Hid (canonI sm N = canon sm N) := Lib.hid rfl
  obtain ⟨ao, cap, rfl, _⟩ := EdsV.facts h
  clear h hL hq hsm
  go_enter Tryz.func7, Tryz.ntmps7
  go_wp2_with fail
  refine HR.out.mono ?_
  rintro e w2 ⟨v2, rfl, hf2, ho2⟩
  obtain ⟨ao2, cap2, rfl, _⟩ := SlV.ofOwns ho2
  have hf0 : Fx No w w2 := ((Fx.refl No w).alloc _).trans hf2
  obtain ⟨rb, hrb⟩ : ∃ x, x = w.heap.size := ⟨_, rfl⟩
  have r0 : w2.cell? ⟨rb, 0, none⟩ = some (.int .i64 (N : Nat)) := by rw [hrb]; exact hf2.cell' (by simp) (fun q => q)
  rw [← hrb]
  have HR0 := Lib.hid r0
  have HF0 := Lib.hid hf0
  have HO2 : Hid (IntsV w2 (fun k => k < w2.heap.size) (.slice ao2 N cap2) (cnoL sm N)) := Lib.hid (by have := (SlV.ofOwns ho2).mono (T := fun k => k < w2.heap.size) fun k hk => hk.2; unfold IntsV; rw [cnoL_len]; exact this)
  clear hf2 HR hf0 hrb r0 ho2
  go_wp2
  go_loopw [3, 5] (fun o i ws => ∃ (k : Nat) (V : Nat → Value), i = .int .i64 k ∧ k ≤ N ∧ Fx No w2 ws ∧ RowsO ws w2.heap.size o ((canonI sm k).map natsI) V) (fun _ i _ => N - (intOf i).toNat)
  case atStart => exact ⟨0, fun _ => undef, rfl, by omega, Fx.refl _ _, RowsO.nil _ _ _⟩
  case round =>
    obtain ⟨i, V, rfl, hiN, hf, ho⟩ := hrel
    have HF := Lib.hid hf
    obtain ⟨oo, oc, rfl, _⟩ := SlV.ofOwns ho.own
    have r0 := hf.cell' HR0.out (fun q => q)
    have hlen : ((canonI sm i).map natsI).length = (reps sm i).length := by simp [canonI]
    rw [hlen] at ho ⊢
    obtain ⟨mn, hmn⟩ : ∃ x, x = (reps sm i).length := ⟨_, rfl⟩
    rw [← hmn] at hlen ho ⊢
    have HO := Lib.hid ho
    have hmi : mn ≤ i := by rw [hmn]; exact reps_len i
    have HMn := Lib.hid hmn
    have HLn := Lib.hid hlen
    by_cases hlt : i < N
    · obtain ⟨_, _, e0, _, hkk⟩ := IntsV.facts (IntsV.keep HO2.out hf (fun _ _ q => q))
      rw [cnoL_len] at e0 hkk
      obtain ⟨b4, o4, e1, hb4, kc⟩ := hkk i hlt
      rw [cnoL_at hlt] at kc
      simp only [Value.slice.injEq] at e0
      obtain ⟨rfl, -, rfl⟩ := e0
      subst e1
      obtain ⟨c, hc⟩ : ∃ c, c = cno sm i := ⟨_, rfl⟩
      rw [← hc] at kc
      have HB4 := Lib.hid hb4
      have i0 : (0 : Int) ≤ (i : Int) := by omega
      have i1 : (i : Int) < (N : Int) := by omega
      have HRl : Hid (∀ q, q < i + 1 → True) := Lib.hid fun _ _ => trivial
      clear hkk hf ho hmn hlen hb4
      cases hr : repB sm i with
      | true =>
        have hcm : c = mn := by rw [hc, HMn.out]; exact (cno_new' (repB_iff.1 hr)).2
        subst hcm
        have e1 : ((c : Int) == (c : Int)) = true := by simp
        have HNx0 := Lib.hid (canonI_new' HE.out hlt hr)
        clear hr hc
        go_wp2_with (at_builtin; refine wpList_append_kept rfl _ _ 31 rfl w2.heap.size 23 Tryz.underlying31 hi2 hz2 hs2 hb2 rfl (by decide) rfl (World.ownsRow.alloc (show World.ownsRow _ _ _ _ _ c _ by have := HO.out.own; rw [HLn.out] at this; exact this) _) rfl (SlV.lit _ 23 #[.slice none 0 0] 1 1 rfl (by unfold maxLen; omega)) (fun u hu => by rw [show u = _ from List.mem_singleton.1 hu]; rfl) (by omega) (by unfold maxLen; omega) (by omega) (by have := HF.out.size; simp; omega) ?_)
        intro v6 w6 ho6 hf6 hk6 hb6
        obtain ⟨g, cap', rfl, hgl, _⟩ := ownsRow_pos ho6 (by omega)
        have HGl := Lib.hid hgl
        obtain ⟨PP, hPP⟩ : ∃ PP, PP = (canonI sm i).map natsI ++ [[]] := ⟨_, rfl⟩
        obtain ⟨VV, hVV⟩ : ∃ VV : Nat → Value, VV = fun j => if j = ((canonI sm i).map natsI).length then .slice none 0 0 else V j := ⟨_, rfl⟩
        have HOo : Hid (RowsO w6 w2.heap.size (.slice (some ⟨g, 0, none⟩) (c + 1) cap') PP VV) := Lib.hid (by rw [hPP, hVV]; exact HO.out.push ((Fx.refl No wr).alloc _) (by rw [HLn.out]; exact ho6) hf6 (fun q e => by rw [World.size_alloc]; exact hb6 q e))
        have HFo : Hid (Fx No w2 w6) := Lib.hid ((HF.out.trans ((Fx.refl No wr).alloc _)).trans' hf6 fun j e hl => by have := (World.ownsRow.lt HO.out.own _ e).1; omega)
        have kc := hf6.cell' (((Fx.refl No wr).alloc _).cell' kc (fun q => q)) (fun e => by have := (World.ownsRow.lt HO.out.own b4 e).1; have := HB4.out; omega)
        obtain ⟨n, hn⟩ : ∃ n, n = c + 1 := ⟨_, rfl⟩
        have HPl : Hid (n = PP.length) := Lib.hid (by rw [hPP, hn, List.length_append, HLn.out]; rfl)
        have HNx : Hid (PP.set c (rg PP c ++ [(i : Int)]) = (canonI sm (i + 1)).map natsI) := Lib.hid (by
          rw [HNx0.out, hPP]
          rw [show (canonI sm i).length = c from by have := HLn.out; simpa using this])
        have HMl : Hid (∀ j, j < PP.length → (rg PP j).length ≤ 1000) := Lib.hid fun j hj => by rw [hPP, rg_snoc]; split <;> first | exact Nat.zero_le _ | exact canonI_row (by omega) j
        rw [← hn] at HOo ⊢
        have hcn : c < n := by omega
        have hn6 : n ≤ 1001 := by omega
        clear ho6 hf6 hk6 hb6 HO hPP hVV HNx0 HLn hgl hn
        have hol := HOo.out.own
        have hlow : w2.heap.size ≤ w6.heap.size := HFo.out.size
        have hcP : c < PP.length := by rw [← HPl.out]; exact hcn
        have hel := HOo.out.el c hcP
        obtain ⟨eo, ec, hev, _⟩ := SlV.ofOwns hel
        have hsp := HOo.out.sep c
        have hcell := World.ownsRow.cellAt (by rw [← HPl.out] at hol; exact hol) c (by omega)
        rw [show ((List.range n).map VV)[c]? = some (VV c) by simp [hcn]] at hcell
        obtain ⟨m, hm⟩ : ∃ m, m = (rg PP c).length := ⟨_, rfl⟩
        have HMm := Lib.hid hm
        rw [← hm] at hev hel
        have hm6 : m ≤ 1000 := HMl.out c hcP |> fun h => by rw [← hm] at h; exact h
        rw [hev] at hcell hel
        have HEv := Lib.hid hev
        have HEl := Lib.hid hel
        have n1 : ¬ (Value.slice eo m ec).ownBlock = some g := fun e => (hsp g hcP (by rw [hev]; exact e)).1 rfl
        have n2 : ¬ (Value.slice eo m ec).ownBlock = some b4 := fun e => by have := (World.ownsRow.lt hel _ e).1; have := HB4.out; omega
        have g1 : ∀ W, Fx (fun x => (Value.slice eo m ec).ownBlock = some x) w6 W → W.cell? ⟨b4, o4 + i, none⟩ = some (.int .i64 (c : Nat)) := fun W q => q.cell' kc n2
        have g2 : ∀ W, Fx (fun x => (Value.slice eo m ec).ownBlock = some x) w6 W → W.cell? ⟨g, c, none⟩ = some (.slice eo m ec) := fun W q => q.cell' hcell n1
        have c0 : (0 : Int) ≤ (c : Int) := by omega
        have c1 : (c : Int) < (n : Int) := by omega
        have HOw : Hid ((w6.drew.alloc (.cells #[.int .i64 (i : Nat)] 3)).ownsRow w2.heap.size 3 1 (.slice eo m ec) m (ints (rg PP c))) := Lib.hid (ownsRow_fx HEl.out ((Fx.refl No w6).drew.alloc _) fun _ _ q => q)
        have HLo : Hid (w2.heap.size ≤ w6.heap.size) := Lib.hid hlow
        have HSz : Hid ((w2.heap.size ≤ (w6.drew.alloc (.cells #[.int .i64 (i : Nat)] 3)).heap.size) ∧ (w6.drew.alloc (.cells #[.int .i64 (i : Nat)] 3)).heap.size = w6.heap.size + 1) := Lib.hid (by
          have e : (w6.drew.alloc (.cells #[.int .i64 (i : Nat)] 3)).heap.size = w6.heap.size + 1 := World.size_alloc _ _
          omega)
        have kst : w6.cell? ⟨g, c, none⟩ = some (.slice eo m ec) := hcell
        have kfz : w6.frozen? ⟨g, c, none⟩ = false := World.ownsRow.frozenAt (by rw [← HPl.out] at hol; exact hol) c
        go_wp2_with fail
        clear hol hel hev hsp hm hcell n2 kc
        refine wp_region_T 16 (fun b W => b = false → Fx (fun x => (Value.slice eo m ec).ownBlock = some x) w6 W) (by kernel_rfl) (fun _ => (Fx.refl _ _).drew) ?_
        intro _ hC
        have hS : Fx (fun x => (Value.slice eo m ec).ownBlock = some x) w6 w6.drew := (Fx.refl _ _).drew
        refine wpT_take (i := 0) (v := ?_) rfl (by kernel_rfl) (by kernel_rfl) (by kernel_rfl) (by kernel_rfl) (fun _ _ _ h => h) (by decide) (Or.inl ⟨by rfl, ?_⟩) hC (fun _ => hS) ?_
        rotate_left
        · (intro W hc; have hs := hc rfl; clear hc; go_simp; first | done | with_reducible rfl)
        clear hC
        intro _ hC
        try simp only [Act.put, List.getElem_toArray, List.getElem_cons_zero, List.getElem_cons_succ, List.setIfInBounds_toArray, List.set_cons_zero, List.set_cons_succ]
        refine wpT_take (i := 1) (v := ?_) rfl (by kernel_rfl) (by kernel_rfl) (by kernel_rfl) (by kernel_rfl) (fun _ _ _ h => h) (by decide) (Or.inl ⟨by rfl, ?_⟩) hC (fun _ => hS) ?_
        rotate_left
        · (intro W hc; have hs := hc rfl; clear hc; go_simp; first | done | with_reducible rfl)
        clear hC
        intro _ hC
        try simp only [Act.put, List.getElem_toArray, List.getElem_cons_zero, List.getElem_cons_succ, List.setIfInBounds_toArray, List.set_cons_zero, List.set_cons_succ]
        refine wpT_take (i := 2) (v := ?_) rfl (by kernel_rfl) (by kernel_rfl) (by kernel_rfl) (by kernel_rfl) (fun _ _ _ h => h) (by decide) (Or.inl ⟨by rfl, ?_⟩) hC (fun _ => hS) ?_
        rotate_left
        · (intro W hc; have hs := hc rfl; clear hc; go_simp; first | done | with_reducible rfl)
        clear hC
        intro _ hC
        try simp only [Act.put, List.getElem_toArray, List.getElem_cons_zero, List.getElem_cons_succ, List.setIfInBounds_toArray, List.set_cons_zero, List.set_cons_succ]
        refine wpT_take (i := 3) (v := ?_) rfl (by kernel_rfl) (by kernel_rfl) (by kernel_rfl) (by kernel_rfl) (fun _ _ _ h => h) (by decide) (Or.inl ⟨by rfl, ?_⟩) hC (fun _ => hS) ?_
        rotate_left
        · (intro W hc; have hs := hc rfl; clear hc; go_simp; first | done | with_reducible rfl)
        clear hC
        intro _ hC
        try simp only [Act.put, List.getElem_toArray, List.getElem_cons_zero, List.getElem_cons_succ, List.setIfInBounds_toArray, List.set_cons_zero, List.set_cons_succ]
        refine wpT_take (i := 4) (v := ?_) rfl (by kernel_rfl) (by kernel_rfl) (by kernel_rfl) (by kernel_rfl) (fun _ _ _ h => h) (by decide) (Or.inl ⟨by rfl, ?_⟩) hC (fun _ => hS) ?_
        rotate_left
        · (intro W hc; have hs := hc rfl; clear hc; go_simp; first | done | with_reducible rfl)
        clear hC
        intro _ hC
        try simp only [Act.put, List.getElem_toArray, List.getElem_cons_zero, List.getElem_cons_succ, List.setIfInBounds_toArray, List.set_cons_zero, List.set_cons_succ]
        refine wpT_take (i := 5) (v := ?_) rfl (by kernel_rfl) (by kernel_rfl) (by kernel_rfl) (by kernel_rfl) (fun _ _ _ h => h) (by decide) (Or.inl ⟨by rfl, ?_⟩) hC (fun _ => hS) ?_
        rotate_left
        · (intro W hc; have hs := hc rfl; clear hc; go_simp; first | done | with_reducible rfl)
        clear hC
        intro _ hC
        try simp only [Act.put, List.getElem_toArray, List.getElem_cons_zero, List.getElem_cons_succ, List.setIfInBounds_toArray, List.set_cons_zero, List.set_cons_succ]
        refine wpT_take (i := 6) (v := ?_) rfl (by kernel_rfl) (by kernel_rfl) (by kernel_rfl) (by kernel_rfl) (fun _ _ _ h => h) (by decide) (Or.inl ⟨by rfl, ?_⟩) hC (fun _ => hS) ?_
        rotate_left
        · (intro W hc; have hs := hc rfl; clear hc; go_simp; first | done | with_reducible rfl)
        clear hC
        intro _ hC
        try simp only [Act.put, List.getElem_toArray, List.getElem_cons_zero, List.getElem_cons_succ, List.setIfInBounds_toArray, List.set_cons_zero, List.set_cons_succ]
        refine wpT_take (i := 7) (v := ?_) rfl (by kernel_rfl) (by kernel_rfl) (by kernel_rfl) (by kernel_rfl) (fun _ _ _ h => h) (by decide) (Or.inl ⟨by rfl, ?_⟩) hC (fun _ => hS) ?_
        rotate_left
        · (intro W hc; have hs := hc rfl; clear hc; go_simp; first | done | with_reducible rfl)
        clear hC
        intro _ hC
        try simp only [Act.put, List.getElem_toArray, List.getElem_cons_zero, List.getElem_cons_succ, List.setIfInBounds_toArray, List.set_cons_zero, List.set_cons_succ]
        refine wpT_take (i := 8) (v := ?_) rfl (by kernel_rfl) (by kernel_rfl) (by kernel_rfl) (by kernel_rfl) (fun _ _ _ h => h) (by decide) (Or.inl ⟨by rfl, ?_⟩) hC (fun _ => hS) ?_
        rotate_left
        · (intro W hc; have hs := hc rfl; clear hc; go_simp; first | done | with_reducible rfl)
        clear hC
        intro _ hC
        try simp only [Act.put, List.getElem_toArray, List.getElem_cons_zero, List.getElem_cons_succ, List.setIfInBounds_toArray, List.set_cons_zero, List.set_cons_succ]
        refine wpT_take (i := 9) (v := ?_) rfl (by kernel_rfl) (by kernel_rfl) (by kernel_rfl) (by kernel_rfl) (fun _ _ _ h => h) (by decide) (Or.inl ⟨by rfl, ?_⟩) hC (fun _ => hS) ?_
        rotate_left
        · (intro W hc; have hs := hc rfl; clear hc; go_simp; first | done | with_reducible rfl)
        clear hC
        intro _ hC
        try simp only [Act.put, List.getElem_toArray, List.getElem_cons_zero, List.getElem_cons_succ, List.setIfInBounds_toArray, List.set_cons_zero, List.set_cons_succ]
        refine wpT_take (i := 10) (v := ?_) rfl (by kernel_rfl) (by kernel_rfl) (by kernel_rfl) (by kernel_rfl) (fun _ _ _ h => h) (by decide) (Or.inl ⟨by rfl, ?_⟩) hC (fun _ => hS) ?_
        rotate_left
        · (intro W hc; have hs := hc rfl; clear hc; go_simp; first | done | with_reducible rfl)
        clear hC
        intro _ hC
        try simp only [Act.put, List.getElem_toArray, List.getElem_cons_zero, List.getElem_cons_succ, List.setIfInBounds_toArray, List.set_cons_zero, List.set_cons_succ]
        refine wpT_take (i := 11) (v := ?_) rfl (by kernel_rfl) (by kernel_rfl) (by kernel_rfl) (by kernel_rfl) (fun _ _ _ h => h) (by decide) (Or.inl ⟨by rfl, ?_⟩) hC (fun _ => hS) ?_
        rotate_left
        · (intro W hc; have hs := hc rfl; clear hc; go_simp; first | done | with_reducible rfl)
        clear hC
        intro _ hC
        try simp only [Act.put, List.getElem_toArray, List.getElem_cons_zero, List.getElem_cons_succ, List.setIfInBounds_toArray, List.set_cons_zero, List.set_cons_succ]
        refine wpT_take (i := 12) (v := ?_) rfl (by kernel_rfl) (by kernel_rfl) (by kernel_rfl) (by kernel_rfl) (fun _ _ _ h => h) (by decide) (Or.inl ⟨by rfl, ?_⟩) hC (fun _ => hS) ?_
        rotate_left
        · (intro W hc; have hs := hc rfl; clear hc; go_simp; first | done | with_reducible rfl)
        clear hC
        intro _ hC
        try simp only [Act.put, List.getElem_toArray, List.getElem_cons_zero, List.getElem_cons_succ, List.setIfInBounds_toArray, List.set_cons_zero, List.set_cons_succ]
        refine wpT_one (i := 13) (by kernel_rfl) rfl hC (fun K hK => ?_)
        go_simp
        have hS2 := ((Fx.refl No w6).drew.alloc (.cells #[.int .i64 (i : Nat)] 3)).no (S := fun x => (Value.slice eo m ec).ownBlock = some x)
        refine hK.out _ _ (fun _ => hS2) (fun _ hC' => ?_)
        clear hK K hS hC 
        have hS := hS2
        have hC := hC'
        clear hS2 hC'
        try simp only [Act.put, List.getElem_toArray, List.getElem_cons_zero, List.getElem_cons_succ, List.setIfInBounds_toArray, List.set_cons_zero, List.set_cons_succ]
        refine wpT_one (i := 14) (by kernel_rfl) rfl hC (fun K hK => ?_)
        refine step_append_kept rfl (.tmp 35) (.tmp 37) 23 rfl w2.heap.size 3 Tryz.underlying23 hi hz hs hb rfl (by decide) (.slice eo m ec) m (ints (rg PP c)) (by simp [Act.eval]) HOw.out (fun _ => True) (.slice (some ⟨w6.heap.size, 0, none⟩) 1 1) 1 [.int .i64 (i : Nat)] (by simp [Act.eval]) (SlV.lit w6.drew 3 #[.int .i64 (i : Nat)] 1 1 rfl (by unfold maxLen; omega)) (ints_one [_]) (by omega) (by unfold maxLen; omega) (by omega) HSz.out.1 ?_
        intro v' w3 ho hfx hk3 hb2
        obtain ⟨g', gc', rfl, _, _⟩ := ownsRow_pos ho (by omega)
        have hS2 : Fx (fun x => (Value.slice eo m ec).ownBlock = some x) w6 w3 := ((((Fx.refl No w6).drew).alloc _).no).trans hfx
        have q4 := hS2.cellF kst kfz n1
        have HNw : Hid (RowsO (w3.setCell ⟨g, c, none⟩ (.slice (some ⟨g', 0, none⟩) (m + 1) gc')) w2.heap.size (.slice (some ⟨g, 0, none⟩) n cap') (PP.set c (rg PP c ++ [(i : Int)])) (fun j => if j = c then (.slice (some ⟨g', 0, none⟩) (m + 1) gc') else VV j)) := Lib.hid (HOo.out.put hcP ((Fx.refl No w6).drew.alloc _) (by rw [← HMm.out]; exact ho) (by rw [HEv.out]; exact hfx) (by rw [HEv.out]; exact hb2))
        have HFw : Hid (Fx No w2 (w3.setCell ⟨g, c, none⟩ (.slice (some ⟨g', 0, none⟩) (m + 1) gc'))) := Lib.hid ((HFo.out.trans' hS2 fun j e hl => by have := (World.ownsRow.lt HEl.out _ e).1; omega).setCell (.inl HGl.out) _)
        refine hK.out _ _ (fun _ => hS2) (fun _ hC' => ?_)
        clear hK K hS hC ho hfx hk3 hb2
        have hS := hS2
        have hC := hC'
        clear hS2 hC' g1 g2
        try simp only [Act.put, List.getElem_toArray, List.getElem_cons_zero, List.getElem_cons_succ, List.setIfInBounds_toArray, List.set_cons_zero, List.set_cons_succ]
        refine wpT_take (i := 15) (v := ?_) rfl (by kernel_rfl) (by kernel_rfl) (by kernel_rfl) (by kernel_rfl) (fun _ _ _ h => h) (by decide) (Or.inl ⟨by rfl, ?_⟩) hC (fun _ => hS) ?_
        rotate_left
        · (intro W hc; have hs := hc rfl; clear hc; go_simp; first | done | with_reducible rfl)
        clear hC
        intro _ hC
        try simp only [Act.put, List.getElem_toArray, List.getElem_cons_zero, List.getElem_cons_succ, List.setIfInBounds_toArray, List.set_cons_zero, List.set_cons_succ]
        refine wpT_one (i := 16) (by kernel_rfl) rfl hC (fun K hK => ?_)
        go_simp
        refine hK.out _ _ (fun h => absurd h (by decide +kernel)) (fun _ hC' => ?_)
        clear hK K hC
        have hC := hC'
        clear hC'
        try simp only [Act.put, List.getElem_toArray, List.getElem_cons_zero, List.getElem_cons_succ, List.setIfInBounds_toArray, List.set_cons_zero, List.set_cons_succ]
        refine wpG_done (by kernel_rfl) ?_ _
        clear hS q4 n1 kst kfz
        go_wp2
        go_roundw
        case rel => exact ⟨i + 1, _, by go_num, by omega, HFw.out, by have := HNw.out; rw [HNx.out] at this; exact this⟩
        case measure => simp [intOf]; omega
      | false =>
        obtain ⟨hNx, hcl⟩ := canonI_old' HE.out hlt hr
        rw [← hc] at hNx hcl
        have hcl : c < mn := by rw [HMn.out]; simpa [canonI] using hcl
        have e1 : ((c : Int) == (mn : Int)) = false := by simp; omega
        obtain ⟨PP, hPP⟩ : ∃ PP, PP = (canonI sm i).map natsI := ⟨_, rfl⟩
        have HOp := HO
        rw [← hPP] at HOp hNx
        obtain ⟨g, cap', e2, hgl, _⟩ := ownsRow_pos HOp.out.own (by rw [hPP, HLn.out]; omega)
        simp only [Value.slice.injEq] at e2
        obtain ⟨rfl, -, rfl⟩ := e2
        have HGl := Lib.hid hgl
        obtain ⟨n, hn⟩ : ∃ n, n = mn := ⟨_, rfl⟩
        have HPl : Hid (n = PP.length) := Lib.hid (by rw [hPP, hn, HLn.out])
        have HOo : Hid (RowsO wr w2.heap.size (.slice (some ⟨g, 0, none⟩) n oc) PP V) := Lib.hid (by rw [hn]; exact HOp.out)
        obtain ⟨VV, hVV⟩ : ∃ VV, VV = V := ⟨_, rfl⟩
        rw [← hVV] at HOo
        obtain ⟨cap', hcap⟩ : ∃ cap', cap' = oc := ⟨_, rfl⟩
        rw [← hcap] at HOo ⊢
        have HFo := HF
        have HNx : Hid (PP.set c (rg PP c ++ [(i : Int)]) = (canonI sm (i + 1)).map natsI) := Lib.hid hNx.symm
        have HMl : Hid (∀ j, j < PP.length → (rg PP j).length ≤ 1000) := Lib.hid fun j hj => by rw [hPP]; exact canonI_row (by omega) j
        have hcn : c < n := by omega
        have hn6 : n ≤ 1001 := by omega
        rw [← hn] at e1 ⊢
        clear HOp hPP hVV hNx HLn hgl hn hcap hr hc HO HMn hcl
        have hol := HOo.out.own
        have hlow : w2.heap.size ≤ wr.heap.size := HFo.out.size
        have hcP : c < PP.length := by rw [← HPl.out]; exact hcn
        have hel := HOo.out.el c hcP
        obtain ⟨eo, ec, hev, _⟩ := SlV.ofOwns hel
        have hsp := HOo.out.sep c
        have hcell := World.ownsRow.cellAt (by rw [← HPl.out] at hol; exact hol) c (by omega)
        rw [show ((List.range n).map VV)[c]? = some (VV c) by simp [hcn]] at hcell
        obtain ⟨m, hm⟩ : ∃ m, m = (rg PP c).length := ⟨_, rfl⟩
        have HMm := Lib.hid hm
        rw [← hm] at hev hel
        have hm6 : m ≤ 1000 := HMl.out c hcP |> fun h => by rw [← hm] at h; exact h
        rw [hev] at hcell hel
        have HEv := Lib.hid hev
        have HEl := Lib.hid hel
        have n1 : ¬ (Value.slice eo m ec).ownBlock = some g := fun e => (hsp g hcP (by rw [hev]; exact e)).1 rfl
        have n2 : ¬ (Value.slice eo m ec).ownBlock = some b4 := fun e => by have := (World.ownsRow.lt hel _ e).1; have := HB4.out; omega
        have g1 : ∀ W, Fx (fun x => (Value.slice eo m ec).ownBlock = some x) wr W → W.cell? ⟨b4, o4 + i, none⟩ = some (.int .i64 (c : Nat)) := fun W q => q.cell' kc n2
        have g2 : ∀ W, Fx (fun x => (Value.slice eo m ec).ownBlock = some x) wr W → W.cell? ⟨g, c, none⟩ = some (.slice eo m ec) := fun W q => q.cell' hcell n1
        have c0 : (0 : Int) ≤ (c : Int) := by omega
        have c1 : (c : Int) < (n : Int) := by omega
        have HOw : Hid ((wr.drew.alloc (.cells #[.int .i64 (i : Nat)] 3)).ownsRow w2.heap.size 3 1 (.slice eo m ec) m (ints (rg PP c))) := Lib.hid (ownsRow_fx HEl.out ((Fx.refl No wr).drew.alloc _) fun _ _ q => q)
        have HLo : Hid (w2.heap.size ≤ wr.heap.size) := Lib.hid hlow
        have HSz : Hid ((w2.heap.size ≤ (wr.drew.alloc (.cells #[.int .i64 (i : Nat)] 3)).heap.size) ∧ (wr.drew.alloc (.cells #[.int .i64 (i : Nat)] 3)).heap.size = wr.heap.size + 1) := Lib.hid (by
          have e : (wr.drew.alloc (.cells #[.int .i64 (i : Nat)] 3)).heap.size = wr.heap.size + 1 := World.size_alloc _ _
          omega)
        have kst : wr.cell? ⟨g, c, none⟩ = some (.slice eo m ec) := hcell
        have kfz : wr.frozen? ⟨g, c, none⟩ = false := World.ownsRow.frozenAt (by rw [← HPl.out] at hol; exact hol) c
        go_wp2_with fail
        clear hol hel hev hsp hm hcell n2 kc
        refine wp_region_T 16 (fun b W => b = false → Fx (fun x => (Value.slice eo m ec).ownBlock = some x) wr W) (by kernel_rfl) (fun _ => (Fx.refl _ _).drew) ?_
        intro _ hC
        have hS : Fx (fun x => (Value.slice eo m ec).ownBlock = some x) wr wr.drew := (Fx.refl _ _).drew
        refine wpT_take (i := 0) (v := ?_) rfl (by kernel_rfl) (by kernel_rfl) (by kernel_rfl) (by kernel_rfl) (fun _ _ _ h => h) (by decide) (Or.inl ⟨by rfl, ?_⟩) hC (fun _ => hS) ?_
        rotate_left
        · (intro W hc; have hs := hc rfl; clear hc; go_simp; first | done | with_reducible rfl)
        clear hC
        intro _ hC
        try simp only [Act.put, List.getElem_toArray, List.getElem_cons_zero, List.getElem_cons_succ, List.setIfInBounds_toArray, List.set_cons_zero, List.set_cons_succ]
        refine wpT_take (i := 1) (v := ?_) rfl (by kernel_rfl) (by kernel_rfl) (by kernel_rfl) (by kernel_rfl) (fun _ _ _ h => h) (by decide) (Or.inl ⟨by rfl, ?_⟩) hC (fun _ => hS) ?_
        rotate_left
        · (intro W hc; have hs := hc rfl; clear hc; go_simp; first | done | with_reducible rfl)
        clear hC
        intro _ hC
        try simp only [Act.put, List.getElem_toArray, List.getElem_cons_zero, List.getElem_cons_succ, List.setIfInBounds_toArray, List.set_cons_zero, List.set_cons_succ]
        refine wpT_take (i := 2) (v := ?_) rfl (by kernel_rfl) (by kernel_rfl) (by kernel_rfl) (by kernel_rfl) (fun _ _ _ h => h) (by decide) (Or.inl ⟨by rfl, ?_⟩) hC (fun _ => hS) ?_
        rotate_left
        · (intro W hc; have hs := hc rfl; clear hc; go_simp; first | done | with_reducible rfl)
        clear hC
        intro _ hC
        try simp only [Act.put, List.getElem_toArray, List.getElem_cons_zero, List.getElem_cons_succ, List.setIfInBounds_toArray, List.set_cons_zero, List.set_cons_succ]
        refine wpT_take (i := 3) (v := ?_) rfl (by kernel_rfl) (by kernel_rfl) (by kernel_rfl) (by kernel_rfl) (fun _ _ _ h => h) (by decide) (Or.inl ⟨by rfl, ?_⟩) hC (fun _ => hS) ?_
        rotate_left
        · (intro W hc; have hs := hc rfl; clear hc; go_simp; first | done | with_reducible rfl)
        clear hC
        intro _ hC
        try simp only [Act.put, List.getElem_toArray, List.getElem_cons_zero, List.getElem_cons_succ, List.setIfInBounds_toArray, List.set_cons_zero, List.set_cons_succ]
        refine wpT_take (i := 4) (v := ?_) rfl (by kernel_rfl) (by kernel_rfl) (by kernel_rfl) (by kernel_rfl) (fun _ _ _ h => h) (by decide) (Or.inl ⟨by rfl, ?_⟩) hC (fun _ => hS) ?_
        rotate_left
        · (intro W hc; have hs := hc rfl; clear hc; go_simp; first | done | with_reducible rfl)
        clear hC
        intro _ hC
        try simp only [Act.put, List.getElem_toArray, List.getElem_cons_zero, List.getElem_cons_succ, List.setIfInBounds_toArray, List.set_cons_zero, List.set_cons_succ]
        refine wpT_take (i := 5) (v := ?_) rfl (by kernel_rfl) (by kernel_rfl) (by kernel_rfl) (by kernel_rfl) (fun _ _ _ h => h) (by decide) (Or.inl ⟨by rfl, ?_⟩) hC (fun _ => hS) ?_
        rotate_left
        · (intro W hc; have hs := hc rfl; clear hc; go_simp; first | done | with_reducible rfl)
        clear hC
        intro _ hC
        try simp only [Act.put, List.getElem_toArray, List.getElem_cons_zero, List.getElem_cons_succ, List.setIfInBounds_toArray, List.set_cons_zero, List.set_cons_succ]
        refine wpT_take (i := 6) (v := ?_) rfl (by kernel_rfl) (by kernel_rfl) (by kernel_rfl) (by kernel_rfl) (fun _ _ _ h => h) (by decide) (Or.inl ⟨by rfl, ?_⟩) hC (fun _ => hS) ?_
        rotate_left
        · (intro W hc; have hs := hc rfl; clear hc; go_simp; first | done | with_reducible rfl)
        clear hC
        intro _ hC
        try simp only [Act.put, List.getElem_toArray, List.getElem_cons_zero, List.getElem_cons_succ, List.setIfInBounds_toArray, List.set_cons_zero, List.set_cons_succ]
        refine wpT_take (i := 7) (v := ?_) rfl (by kernel_rfl) (by kernel_rfl) (by kernel_rfl) (by kernel_rfl) (fun _ _ _ h => h) (by decide) (Or.inl ⟨by rfl, ?_⟩) hC (fun _ => hS) ?_
        rotate_left
        · (intro W hc; have hs := hc rfl; clear hc; go_simp; first | done | with_reducible rfl)
        clear hC
        intro _ hC
        try simp only [Act.put, List.getElem_toArray, List.getElem_cons_zero, List.getElem_cons_succ, List.setIfInBounds_toArray, List.set_cons_zero, List.set_cons_succ]
        refine wpT_take (i := 8) (v := ?_) rfl (by kernel_rfl) (by kernel_rfl) (by kernel_rfl) (by kernel_rfl) (fun _ _ _ h => h) (by decide) (Or.inl ⟨by rfl, ?_⟩) hC (fun _ => hS) ?_
        rotate_left
        · (intro W hc; have hs := hc rfl; clear hc; go_simp; first | done | with_reducible rfl)
        clear hC
        intro _ hC
        try simp only [Act.put, List.getElem_toArray, List.getElem_cons_zero, List.getElem_cons_succ, List.setIfInBounds_toArray, List.set_cons_zero, List.set_cons_succ]
        refine wpT_take (i := 9) (v := ?_) rfl (by kernel_rfl) (by kernel_rfl) (by kernel_rfl) (by kernel_rfl) (fun _ _ _ h => h) (by decide) (Or.inl ⟨by rfl, ?_⟩) hC (fun _ => hS) ?_
        rotate_left
        · (intro W hc; have hs := hc rfl; clear hc; go_simp; first | done | with_reducible rfl)
        clear hC
        intro _ hC
        try simp only [Act.put, List.getElem_toArray, List.getElem_cons_zero, List.getElem_cons_succ, List.setIfInBounds_toArray, List.set_cons_zero, List.set_cons_succ]
        refine wpT_take (i := 10) (v := ?_) rfl (by kernel_rfl) (by kernel_rfl) (by kernel_rfl) (by kernel_rfl) (fun _ _ _ h => h) (by decide) (Or.inl ⟨by rfl, ?_⟩) hC (fun _ => hS) ?_
        rotate_left
        · (intro W hc; have hs := hc rfl; clear hc; go_simp; first | done | with_reducible rfl)
        clear hC
        intro _ hC
        try simp only [Act.put, List.getElem_toArray, List.getElem_cons_zero, List.getElem_cons_succ, List.setIfInBounds_toArray, List.set_cons_zero, List.set_cons_succ]
        refine wpT_take (i := 11) (v := ?_) rfl (by kernel_rfl) (by kernel_rfl) (by kernel_rfl) (by kernel_rfl) (fun _ _ _ h => h) (by decide) (Or.inl ⟨by rfl, ?_⟩) hC (fun _ => hS) ?_
        rotate_left
        · (intro W hc; have hs := hc rfl; clear hc; go_simp; first | done | with_reducible rfl)
        clear hC
        intro _ hC
        try simp only [Act.put, List.getElem_toArray, List.getElem_cons_zero, List.getElem_cons_succ, List.setIfInBounds_toArray, List.set_cons_zero, List.set_cons_succ]
        refine wpT_take (i := 12) (v := ?_) rfl (by kernel_rfl) (by kernel_rfl) (by kernel_rfl) (by kernel_rfl) (fun _ _ _ h => h) (by decide) (Or.inl ⟨by rfl, ?_⟩) hC (fun _ => hS) ?_
        rotate_left
        · (intro W hc; have hs := hc rfl; clear hc; go_simp; first | done | with_reducible rfl)
        clear hC
        intro _ hC
        try simp only [Act.put, List.getElem_toArray, List.getElem_cons_zero, List.getElem_cons_succ, List.setIfInBounds_toArray, List.set_cons_zero, List.set_cons_succ]
        refine wpT_one (i := 13) (by kernel_rfl) rfl hC (fun K hK => ?_)
        go_simp
        have hS2 := ((Fx.refl No wr).drew.alloc (.cells #[.int .i64 (i : Nat)] 3)).no (S := fun x => (Value.slice eo m ec).ownBlock = some x)
        refine hK.out _ _ (fun _ => hS2) (fun _ hC' => ?_)
        clear hK K hS hC 
        have hS := hS2
        have hC := hC'
        clear hS2 hC'
        try simp only [Act.put, List.getElem_toArray, List.getElem_cons_zero, List.getElem_cons_succ, List.setIfInBounds_toArray, List.set_cons_zero, List.set_cons_succ]
        refine wpT_one (i := 14) (by kernel_rfl) rfl hC (fun K hK => ?_)
        refine step_append_kept rfl (.tmp 35) (.tmp 37) 23 rfl w2.heap.size 3 Tryz.underlying23 hi hz hs hb rfl (by decide) (.slice eo m ec) m (ints (rg PP c)) (by simp [Act.eval]) HOw.out (fun _ => True) (.slice (some ⟨wr.heap.size, 0, none⟩) 1 1) 1 [.int .i64 (i : Nat)] (by simp [Act.eval]) (SlV.lit wr.drew 3 #[.int .i64 (i : Nat)] 1 1 rfl (by unfold maxLen; omega)) (ints_one [_]) (by omega) (by unfold maxLen; omega) (by omega) HSz.out.1 ?_
        intro v' w3 ho hfx hk3 hb2
        obtain ⟨g', gc', rfl, _, _⟩ := ownsRow_pos ho (by omega)
        have hS2 : Fx (fun x => (Value.slice eo m ec).ownBlock = some x) wr w3 := ((((Fx.refl No wr).drew).alloc _).no).trans hfx
        have q4 := hS2.cellF kst kfz n1
        have HNw : Hid (RowsO (w3.setCell ⟨g, c, none⟩ (.slice (some ⟨g', 0, none⟩) (m + 1) gc')) w2.heap.size (.slice (some ⟨g, 0, none⟩) n cap') (PP.set c (rg PP c ++ [(i : Int)])) (fun j => if j = c then (.slice (some ⟨g', 0, none⟩) (m + 1) gc') else VV j)) := Lib.hid (HOo.out.put hcP ((Fx.refl No wr).drew.alloc _) (by rw [← HMm.out]; exact ho) (by rw [HEv.out]; exact hfx) (by rw [HEv.out]; exact hb2))
        have HFw : Hid (Fx No w2 (w3.setCell ⟨g, c, none⟩ (.slice (some ⟨g', 0, none⟩) (m + 1) gc'))) := Lib.hid ((HFo.out.trans' hS2 fun j e hl => by have := (World.ownsRow.lt HEl.out _ e).1; omega).setCell (.inl HGl.out) _)
        refine hK.out _ _ (fun _ => hS2) (fun _ hC' => ?_)
        clear hK K hS hC ho hfx hk3 hb2
        have hS := hS2
        have hC := hC'
        clear hS2 hC' g1 g2
        try simp only [Act.put, List.getElem_toArray, List.getElem_cons_zero, List.getElem_cons_succ, List.setIfInBounds_toArray, List.set_cons_zero, List.set_cons_succ]
        refine wpT_take (i := 15) (v := ?_) rfl (by kernel_rfl) (by kernel_rfl) (by kernel_rfl) (by kernel_rfl) (fun _ _ _ h => h) (by decide) (Or.inl ⟨by rfl, ?_⟩) hC (fun _ => hS) ?_
        rotate_left
        · (intro W hc; have hs := hc rfl; clear hc; go_simp; first | done | with_reducible rfl)
        clear hC
        intro _ hC
        try simp only [Act.put, List.getElem_toArray, List.getElem_cons_zero, List.getElem_cons_succ, List.setIfInBounds_toArray, List.set_cons_zero, List.set_cons_succ]
        refine wpT_one (i := 16) (by kernel_rfl) rfl hC (fun K hK => ?_)
        go_simp
        refine hK.out _ _ (fun h => absurd h (by decide +kernel)) (fun _ hC' => ?_)
        clear hK K hC
        have hC := hC'
        clear hC'
        try simp only [Act.put, List.getElem_toArray, List.getElem_cons_zero, List.getElem_cons_succ, List.setIfInBounds_toArray, List.set_cons_zero, List.set_cons_succ]
        refine wpG_done (by kernel_rfl) ?_ _
        clear hS q4 n1 kst kfz
        go_wp2
        go_roundw
        case rel => exact ⟨i + 1, _, by go_num, by omega, HFw.out, by have := HNw.out; rw [HNx.out] at this; exact this⟩
        case measure => simp [intOf]; omega
    · obtain rfl : i = N := by omega
      have z0 := HF0.out.size
      have HB : Hid (RowsO wr w.heap.size (.slice oo mn oc) ((canon sm i).map natsI) V) := Lib.hid (by have := HO.out.base z0; rw [HCn.out] at this; exact this)
      clear HR0 hf ho hmn hlen HO
      go_wp2
      go_ret
      exact ⟨_, V, rfl, HF0.out.trans HF.out, HB.out⟩
end
#print axioms refParts_any
end Go.Proofs.YtdoplaijgocboaaGreat
