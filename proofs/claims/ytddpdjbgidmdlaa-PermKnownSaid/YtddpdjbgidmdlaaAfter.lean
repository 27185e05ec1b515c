/- Contract: perm.After. -/
import Derived.Test.YtddpdjbgidmdlaaUnrA
namespace Go.Proofs.Ytddpdjbgidmdlaa
open Go.RowKit
set_option linter.unusedVariables false

theorem gi_append (l m : List Int) (j : Nat) : gi (l ++ m) j = if j < l.length then gi l j else gi m (j - l.length) := by
  unfold gi
  by_cases h : j < l.length
  · rw [if_pos h]; simp [List.getD, List.getElem?_append_left h]
  · rw [if_neg h]; simp [List.getD, List.getElem?_append_right (by omega : l.length ≤ j)]
theorem gi_cons (x : Int) (l : List Int) (j : Nat) : gi (x :: l) j = if j = 0 then x else gi l (j - 1) := by
  cases j with
  | zero => rfl
  | succ j => rw [if_neg (by omega), gi_succ]; rfl
theorem gi_swap (a A B : List Int) (x y : Int) (j : Nat) :
    gi (a ++ y :: (A ++ x :: B)) j = if j = a.length then y else if j = a.length + 1 + A.length then x else gi (a ++ x :: (A ++ y :: B)) j := by
  simp only [gi_append, gi_cons]
  repeat' split
  all_goals first | rfl | (exfalso; omega) | (congr 1; omega)
theorem CellsI.append {w : World} {g o : Nat} {l m : List Int} (h1 : ∀ j, j < l.length → w.cell? ⟨g, o + j, none⟩ = some (.int .i64 (gi l j))) (h2 : ∀ j, j < m.length → w.cell? ⟨g, o + l.length + j, none⟩ = some (.int .i64 (gi m j))) :
    ∀ j, j < (l ++ m).length → w.cell? ⟨g, o + j, none⟩ = some (.int .i64 (gi (l ++ m) j)) := by
  intro j hj
  rw [gi_append]
  by_cases h : j < l.length
  · rw [if_pos h]; exact h1 j h
  · rw [if_neg h]
    have := h2 (j - l.length) (by rw [List.length_append] at hj; omega)
    rw [show o + l.length + (j - l.length) = o + j by omega] at this
    exact this
theorem ints_of_cells {w : World} {D : Nat → Prop} {g o n cap : Nat} {l : List Int} (h : ∀ j, j < l.length → w.cell? ⟨g, o + j, none⟩ = some (.int .i64 (gi l j))) (hd : D g) (hn : n = l.length) (h1 : n ≤ cap) (h2 : cap ≤ 9223372036854775807) :
    IntsV w D (.slice (some ⟨g, o, none⟩) n cap) l := by
  subst hn
  refine ⟨_, cap, rfl, h1, by unfold maxLen; omega, by simp [ints], by simp, .inr ⟨g, o, rfl, hd, fun i hi => ?_⟩⟩
  have hi' : i < l.length := by simpa [ints] using hi
  rw [h i hi']
  simp [ints, gi, hi']
/-- what After tells -/
def AfterQ (p q : List Int) (b : Bool) : Prop :=
  (b = false ∧ q = [] ∧ (okP p → Fall p)) ∨ (b = true ∧ okP p ∧ ∃ a x A y B, p = a ++ x :: (A ++ y :: B) ∧ Fall (A ++ y :: B) ∧ x < y ∧ (∀ z ∈ B, z < x) ∧ q = a ++ y :: (A ++ x :: B).reverse)
theorem fall_of_steps : ∀ {l : List Int}, (∀ j, j + 1 < l.length → gi l (j + 1) < gi l j) → Fall l
  | [], _ => List.Pairwise.nil
  | [a], _ => by simp [Fall]
  | a :: b :: l, h => by
    have ih : Fall (b :: l) := fall_of_steps fun j hj => by
      have := h (j + 1) (by simpa using hj)
      rw [gi_succ, gi_succ] at this
      exact this
    have h0 : b < a := h 0 (by simp)
    refine List.pairwise_cons.2 ⟨fun y hy => ?_, ih⟩
    rw [List.mem_cons] at hy
    rcases hy with rfl | hy
    · exact h0
    · have := (List.pairwise_cons.1 ih).1 y hy
      omega
theorem gi_drop (l : List Int) (i j : Nat) : gi (l.drop i) j = gi l (i + j) := by
  unfold gi
  simp [List.getD, List.getElem?_drop]
theorem fall_drop {p : List Int} {i : Nat} (h : ∀ j, i ≤ j → j + 1 < p.length → gi p (j + 1) < gi p j) : Fall (p.drop i) := by
  refine fall_of_steps fun j hj => ?_
  rw [List.length_drop] at hj
  rw [gi_drop, gi_drop, show i + (j + 1) = i + j + 1 by omega]
  exact h (i + j) (by omega) (by omega)
theorem nodup_gi {p : List Int} (h : okP p) {i j : Nat} (hi : i < p.length) (hj : j < p.length) (e : gi p i = gi p j) : i = j := by
  have hn := ((good_iff p).2 h).2
  exact (List.getElem_inj (xs := p) (i := i) (j := j) (h₀ := hi) (h₁ := hj) hn).1 (by simpa [gi, hi, hj] using e)
/-- how a row is parted at two places -/
theorem part_two {p : List Int} {i k : Nat} (hik : i < k) (hk : k < p.length) :
    p = p.take i ++ gi p i :: (((p.drop (i + 1)).take (k - i - 1)) ++ gi p k :: p.drop (k + 1)) := by
  have h1 : p.drop (i + 1) = ((p.drop (i + 1)).take (k - i - 1)) ++ gi p k :: p.drop (k + 1) := by
    have e1 := (List.take_append_drop (k - i - 1) (p.drop (i + 1))).symm
    rw [List.drop_drop, show i + 1 + (k - i - 1) = k by omega, drop_gi hk] at e1
    exact e1
  rw [← h1, ← drop_gi (by omega)]
  exact (List.take_append_drop i p).symm
/-- two cells exchanged -/
theorem swap_cells {w : World} {g : Nat} {p : List Int} {i k : Nat} (h : CellsI w g 0 p) (hik : i < k) (hk : k < p.length) :
    ∃ a A B, p = a ++ gi p i :: (A ++ gi p k :: B) ∧ A ++ gi p k :: B = p.drop (i + 1) ∧ B = p.drop (k + 1) ∧ a.length = i ∧ (A ++ gi p i :: B).length = p.length - (i + 1) ∧
      CellsI ((w.setCell ⟨g, i, none⟩ (.int .i64 (gi p k))).setCell ⟨g, k, none⟩ (.int .i64 (gi p i))) g (i + 1) (A ++ gi p i :: B) ∧
      ∀ j, j < i + 1 → ((w.setCell ⟨g, i, none⟩ (.int .i64 (gi p k))).setCell ⟨g, k, none⟩ (.int .i64 (gi p i))).cell? ⟨g, j, none⟩ = some (.int .i64 (gi (a ++ [gi p k]) j)) := by
  have hp := part_two hik hk
  obtain ⟨a, ha⟩ : ∃ a, a = p.take i := ⟨_, rfl⟩
  obtain ⟨A, hA⟩ : ∃ A, A = (p.drop (i + 1)).take (k - i - 1) := ⟨_, rfl⟩
  obtain ⟨B, hB⟩ : ∃ B, B = p.drop (k + 1) := ⟨_, rfl⟩
  have hla : a.length = i := by rw [ha, List.length_take]; omega
  have hlA : A.length = k - i - 1 := by rw [hA, List.length_take, List.length_drop]; omega
  have hlB : B.length = p.length - (k + 1) := by rw [hB, List.length_drop]
  have hd : A ++ gi p k :: B = p.drop (i + 1) := by
    have e1 := (List.take_append_drop (k - i - 1) (p.drop (i + 1))).symm
    rw [List.drop_drop, show i + 1 + (k - i - 1) = k by omega, drop_gi hk] at e1
    rw [hA, hB]; exact e1.symm
  rw [← ha, ← hA, ← hB] at hp
  have hall : ∀ j, j < p.length → ((w.setCell ⟨g, i, none⟩ (.int .i64 (gi p k))).setCell ⟨g, k, none⟩ (.int .i64 (gi p i))).cell? ⟨g, j, none⟩ = some (.int .i64 (gi (a ++ gi p k :: (A ++ gi p i :: B)) j))
      ∧ ((w.setCell ⟨g, i, none⟩ (.int .i64 (gi p k))).setCell ⟨g, k, none⟩ (.int .i64 (gi p i))).frozen? ⟨g, j, none⟩ = false := by
    intro j hj
    have h1 := h i (by omega)
    have h2 := h k (by omega)
    have h3 := h j hj
    rw [Nat.zero_add] at h1 h2 h3
    obtain ⟨c1, c2⟩ := cell_set2 (x := .int .i64 (gi p k)) (y := .int .i64 (gi p i)) (show i ≠ k by omega) h1.1 h2.1
    refine ⟨?_, by simpa using h3.2⟩
    rw [gi_swap, ← hp, hla, show i + 1 + A.length = k by omega]
    by_cases e1 : j = i
    · subst e1; rw [if_pos rfl]; exact c1
    · rw [if_neg e1]
      by_cases e2 : j = k
      · subst e2; rw [if_pos rfl]; exact c2
      · rw [if_neg e2, cell_set2_other e1 e2]; exact h3.1
  refine ⟨a, A, B, hp, hd, hB, hla, by simp [hlA, hlB]; omega, fun j hj => ?_, fun j hj => ?_⟩
  · have hj' : i + 1 + j < p.length := by simp [hlA, hlB] at hj; omega
    have := hall (i + 1 + j) hj'
    rw [show a ++ gi p k :: (A ++ gi p i :: B) = (a ++ [gi p k]) ++ (A ++ gi p i :: B) by simp, gi_append, if_neg (by simp [hla]), show i + 1 + j - (a ++ [gi p k]).length = j by simp [hla]] at this
    exact this
  · have := (hall j (by omega)).1
    rw [show a ++ gi p k :: (A ++ gi p i :: B) = (a ++ [gi p k]) ++ (A ++ gi p i :: B) by simp, gi_append, if_pos (by simp [hla]; omega)] at this
    exact this
set_option maxHeartbeats 2000000 in
theorem after_any {w : World} {D : Nat → Prop} {v : Value} {p : List Int} (h : IntsV w D v p) (hp : p.length ≤ 1000000) :
    Calls Try.prog 24 #[v] w fun e w' => ∃ u q b, e = .returned (.tuple #[u, .bool b]) ∧ Fx No w w' ∧ IntsV w' (Up w) u q ∧ AfterQ p q b := by
  obtain ⟨ao, cap, rfl, hl, hc⟩ := h.facts
  have hcap : p.length ≤ cap ∧ cap ≤ 9223372036854775807 := by
    obtain ⟨a, c, h1, h2, h3, _⟩ := h
    simp only [Value.slice.injEq] at h1
    obtain ⟨_, _, rfl⟩ := h1
    unfold maxLen at h3
    exact ⟨h2, by omega⟩
  have H := Lib.hid h
  have HC := Lib.hid hc
  have HPp := Lib.hid hp
  obtain ⟨len, hlen⟩ : ∃ k, k = p.length := ⟨_, rfl⟩
  rw [← hlen] at hl hp hcap ⊢
  obtain ⟨hc1, hc2⟩ := hcap
  have HLen := Lib.hid hlen
  have H : Hid (IntsV w D (.slice ao len cap) p) := by rw [hlen]; exact H
  have HRS : Hid (rightB p (len : Int) = okB p) := by rw [hlen]; exact Lib.hid (rightB_self p)
  clear hc h hlen
  rcases hok : okB p with _ | _
  · have HOk := Lib.hid hok
    have HN : Hid (AfterQ p [] false) := .inl ⟨rfl, rfl, fun h => by rw [(okB_iff p).2 h] at hok; simp at hok⟩
    clear hok
    go_enter Try.func24, Try.ntmps24
    go_wp2_with fail
    refine (right_any H.out _ HPp.out).mono ?_
    rintro e w1 ⟨rfl, hf⟩
    rw [HRS.out, HOk.out]
    have HF := Lib.hid hf
    clear hf
    go_wp2
    go_ret2
    exact ⟨_, [], false, rfl, HF.out, SlV.nil _ _ _, HN.out⟩
  · have HOk := Lib.hid hok
    have HP : Hid (okP p) := (okB_iff p).1 hok
    clear hok
    go_enter Try.func24, Try.ntmps24
    go_wp2_with fail
    refine (right_any H.out _ HPp.out).mono ?_
    rintro e w1 ⟨rfl, hf⟩
    rw [HRS.out, HOk.out]
    have HF := Lib.hid hf
    clear hf
    go_wp2
    go_loopw [4] (fun i wr => ∃ iz : Int, i = .int .i64 iz ∧ -2 ≤ iz ∧ iz + 2 ≤ len ∧ (∀ j : Nat, iz < j → j + 1 < len → gi p (j + 1) < gi p j) ∧ Fx No w wr) (fun i _ => (intOf i + 2).toNat)
    case atStart => exact ⟨(len : Int) - 2, rfl, by omega, by omega, fun j h1 h2 => by omega, HF.out⟩
    case round =>
      obtain ⟨iz, rfl, hi1, hi2, hq, hf⟩ := hrel
      have HQ := Lib.hid hq
      have HFi := Lib.hid hf
      clear hq hf
      by_cases hneg : iz < 0
      · have hd : decide ((0 : Int) ≤ iz) = false := decide_eq_false (by omega)
        have HN : Hid (AfterQ p [] false) := .inl ⟨rfl, rfl, fun h => by
          have := fall_drop (p := p) (i := 0) fun j _ h2 => HQ.out j (by omega) (by rw [HLen.out]; exact h2)
          rwa [List.drop_zero] at this⟩
        go_wp2
        go_quiet (fail)
        go_wp2
        go_ret2
        exact ⟨_, [], false, rfl, HFi.out.drewN _, SlV.nil _ _ _, HN.out⟩
      · obtain ⟨i, rfl⟩ := Int.eq_ofNat_of_zero_le (by omega : 0 ≤ iz)
        have hil : i + 1 < len := by omega
        obtain ⟨b, o, rfl, _, h1⟩ := HC.out i (by rw [← HLen.out]; omega)
        obtain ⟨b', o', e2, _, h2⟩ := HC.out (i + 1) (by rw [← HLen.out]; omega)
        obtain ⟨rfl, rfl⟩ : b = b' ∧ o = o' := by simp at e2; exact e2
        have q1 := HFi.out.cell' h1 (fun h => h)
        have q2 := HFi.out.cell' h2 (fun h => h)
        have hd0 : decide ((0 : Int) ≤ (i : Int)) = true := decide_eq_true (by omega)
        clear h1 h2 e2 hneg
        by_cases hx : gi p (i + 1) < gi p i
        · have HX := Lib.hid hx
          have hd : decide (gi p (i + 1) < gi p i) = true := decide_eq_true hx
          clear hx
          go_wp2
          go_quiet (fail)
          go_wp2
          go_roundw
          case rel => exact ⟨(i : Int) - 1, rfl, by omega, by omega, fun j h1 h2 => by
            by_cases e : j = i
            · subst e; exact HX.out
            · exact HQ.out j (by omega) h2, HFi.out.drewN _⟩
          case measure => simp [intOf] <;> omega
        · have hd : decide (gi p (i + 1) < gi p i) = false := decide_eq_false hx
          have HX : Hid (gi p i < gi p (i + 1)) := by
            show gi p i < gi p (i + 1)
            have : gi p i ≠ gi p (i + 1) := fun e => by
              have := nodup_gi HP.out (i := i) (j := i + 1) (by rw [← HLen.out]; omega) (by rw [← HLen.out]; omega) e
              omega
            omega
          have hdi : decide ((i : Int) < 0) = false := decide_eq_false (by omega)
          clear hx
          go_wp2
          go_quiet (fail)
          go_wp2_with fail
          refine (cloneI_any ((H.out.no HFi.out).no ((Fx.refl No _).drewN _)) HPp.out).mono ?_
          rintro e wc ⟨u, rfl, hf, ho⟩
          obtain ⟨g, gcap, hu, hg1, hg2⟩ := ownsRow_pos (show wc.ownsRow _ _ 1 u p.length (ints p) from ho) (by rw [← HLen.out]; omega)
          rw [← HLen.out] at hu
          subst hu
          have HFc := Lib.hid ((HFi.out.drewN _).trans hf)
          have hgw : w.heap.size ≤ g := by have := HFi.out.size; simp at hg1; omega
          have hgc : len ≤ gcap ∧ gcap ≤ 9223372036854775807 := by
            obtain ⟨a, c, h1, h2, h3, _⟩ := ho.ints
            simp only [Value.slice.injEq] at h1
            obtain ⟨_, _, rfl⟩ := h1
            unfold maxLen at h3
            exact ⟨by have := HLen.out; omega, by omega⟩
          obtain ⟨hgc1, hgc2⟩ := hgc
          have HCl : Hid (CellsI wc g 0 p) := ho.cells
          clear ho hf hg1
          go_wp2
          go_loopw [6] (fun k ws => ∃ κ : Nat, k = .int .i64 κ ∧ i + 1 ≤ κ ∧ κ < len ∧ (∀ j, κ < j → j < len → gi p j < gi p i) ∧ Fx No w ws ∧ CellsI ws g 0 p) (fun k _ => (intOf k).toNat)
          case atStart => exact ⟨len - 1, by congr 1; omega, by omega, by omega, fun j h1 h2 => by omega, HFc.out, HCl.out⟩
          case round =>
            obtain ⟨κ, rfl, hk1, hk2, hq, hf, hcl⟩ := hrel
            have HQk := Lib.hid hq
            have HFk := Lib.hid hf
            have HCk := Lib.hid hcl
            obtain ⟨a1, a2⟩ := hcl κ (by rw [← HLen.out]; exact hk2)
            obtain ⟨b1, b2⟩ := hcl i (by rw [← HLen.out]; omega)
            rw [Nat.zero_add] at a1 a2 b1 b2
            clear hq hf hcl
            by_cases hx : gi p κ < gi p i
            · have hd : decide (gi p κ < gi p i) = true := decide_eq_true hx
              have hki : Hid (κ ≠ i + 1) := fun e => by
                subst e
                have := HX.out
                omega
              have HXk := Lib.hid hx
              clear hx
              go_wp2
              go_quiet (fail)
              go_wp2
              go_roundw
              case rel => exact ⟨κ - 1, by have := hki.out; congr 1; omega, by have := hki.out; omega, by omega, fun j h1 h2 => by
                by_cases e : j = κ
                · subst e; exact HXk.out
                · exact HQk.out j (by omega) h2, HFk.out.drewN _, HCk.out.fx ((Fx.refl No _).drewN _) (fun h => h)⟩
              case measure => have := hki.out; simp [intOf] <;> omega
            · have hd : decide (gi p κ < gi p i) = false := decide_eq_false hx
              have HXk : Hid (gi p i < gi p κ) := by
                show gi p i < gi p κ
                have : gi p i ≠ gi p κ := fun e => by
                  have := nodup_gi HP.out (i := i) (j := κ) (by rw [← HLen.out]; omega) (by rw [← HLen.out]; omega) e
                  omega
                omega
              clear hx
              go_wp2
              go_quiet (fail)
              go_wp2
              go_region
              all_goals
                obtain ⟨A1, A2, A3, hp1, hp2, hp3, hp4, hp5, hp6, hp7⟩ := swap_cells (w := wr.drewN (nq + 1)) (HCk.out.fx ((Fx.refl No _).drewN _) (fun h => h)) (show i < κ by omega) (by rw [← HLen.out]; exact hk2)
                have K1 := Lib.hid hp1
                have K2 := Lib.hid hp2
                have K3 := Lib.hid hp3
                have K4 := Lib.hid hp4
                have K5 := Lib.hid hp5
                have K6 := Lib.hid hp6
                have K7 := Lib.hid hp7
                clear hp1 hp2 hp3 hp4 hp5 hp6 hp7
                go_wp2_with fail
                refine (reverse_any K6.out (by rw [K5.out, HLen.out]) (by rw [K5.out]; have := HPp.out; omega)).mono ?_
                rintro e w3 ⟨rfl, hf, hcr, hkeep⟩
                have HF3 : Hid (Fx No w w3) := ((HFk.out.drewN (nq + 1)).trans' (((Fx.put _ g i _).trans (Fx.put _ g κ _)).trans hf) (fun j e h => by omega))
                have HC3 := Lib.hid hcr
                have HK3 := Lib.hid hkeep
                clear hf hcr hkeep
                go_wp2
                go_ret2
                refine ⟨_, A1 ++ gi p κ :: (A2 ++ gi p i :: A3).reverse, true, rfl, HF3.out, ints_of_cells (fun j hj => ?_) hgw (by have h1 := K4.out; have h2 := K5.out; have h3 := HLen.out; simp at h2 ⊢; omega) hgc1 hgc2, .inr ⟨rfl, HP.out, A1, gi p i, A2, gi p κ, A3, K1.out, ?_, HXk.out, ?_, rfl⟩⟩
                · rw [show A1 ++ gi p κ :: (A2 ++ gi p i :: A3).reverse = (A1 ++ [gi p κ]) ++ (A2 ++ gi p i :: A3).reverse by simp] at hj ⊢
                  refine CellsI.append (fun j hj => ?_) (fun j hj => ?_) j hj
                  · rw [Nat.zero_add]
                    have hji : j < i + 1 := by have := K4.out; simp at hj; omega
                    exact HK3.out j _ hji (K7.out j hji)
                  · have := (HC3.out j hj).1
                    rw [show 0 + (A1 ++ [gi p κ]).length + j = i + 1 + j by have := K4.out; simp; omega]
                    exact this
                · rw [K2.out]
                  exact fall_drop fun j h1 h2 => HQ.out j (by omega) (by rw [HLen.out]; exact h2)
                · intro z hz
                  rw [K3.out] at hz
                  obtain ⟨t, ht, rfl⟩ := List.getElem_of_mem hz
                  have h1 : κ + 1 + t < p.length := by rw [List.length_drop] at ht; omega
                  have := HQk.out (κ + 1 + t) (by omega) (by rw [HLen.out]; exact h1)
                  simpa [gi, h1] using this
end Go.Proofs.Ytddpdjbgidmdlaa
