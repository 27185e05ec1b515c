/- Contracts: both Unranks. -/
import Derived.Test.YtddpdjbgidmdlaaAfter
import Derived.Test.YtddpdjbgidmdlaaDel
import Derived.Test.YtddpdjbgidmdlaaAppend
import Derived.Test.YtddpdjbgidmdlaaSub
namespace Go.Proofs.Ytddpdjbgidmdlaa
open Go.RowKit
set_option linter.unusedVariables false

def unrOk (n : Int) (k : Nat) : Bool := decide (0 ≤ n ∧ n ≤ 20 ∧ k < fact n.toNat)
def unrL (n : Int) (k : Nat) : List Int := if unrOk n k then unr n.toNat (upTo n.toNat) k else []
def UnrR (n : Int) (k : Nat) (w : World) (e : Ending) (w' : World) : Prop := ∃ u, e = .returned (.tuple #[u, .bool (unrOk n k)]) ∧ Fx No w w' ∧ IntsV w' (Up w) u (unrL n k)
theorem upTo_take_succ {n i : Nat} (h : i < n) : (upTo n).take (i + 1) = (upTo n).take i ++ [(i : Int)] := by
  rw [take_gi (by rw [upTo_length]; exact h)]
  congr 2
  simp [gi, upTo, h]
theorem upTo_gi {n i : Nat} (h : i < n) : gi (upTo n) i = (i : Int) := by simp [gi, upTo, h]
theorem unr_step {m : Nat} {left : List Int} {k : Nat} : unr (m + 1) left k = gi left (k / fact m) :: unr m (left.eraseIdx (k / fact m)) (k % fact m) := rfl
set_option maxHeartbeats 4000000 in
theorem unrank_any (n : Int) (k : Nat) (w : World) (hk : k < 18446744073709551616) :
    Calls Try.prog 20 #[.int .i64 n, .int .u64 (k : Int)] w (UnrR n k w) := by
  by_cases h0 : 0 ≤ n
  · by_cases h20 : n ≤ 20
    · obtain ⟨N, rfl⟩ := Int.eq_ofNat_of_zero_le h0
      have hN20 : N ≤ 20 := by omega
      have hd0 : decide ((N : Int) < 0) = false := decide_eq_false (by omega)
      have hd20 : decide ((20 : Int) < (N : Int)) = false := decide_eq_false (by omega)
      obtain ⟨F, hF⟩ : ∃ F, F = fact N := ⟨_, rfl⟩
      have HFa := Lib.hid hF
      by_cases hkf : k < F
      · have HB : Hid (unrOk (N : Int) k = true) := by
          show unrOk (N : Int) k = true
          unfold unrOk
          rw [decide_eq_true_iff]
          exact ⟨h0, h20, by rw [Int.toNat_natCast, ← hF]; exact hkf⟩
        have HL : Hid (unrL (N : Int) k = unr N (upTo N) k) := by show unrL _ _ = _; unfold unrL; rw [if_pos HB.out]; rfl
        have hdk : decide (F ≤ k) = false := decide_eq_false (by omega)
        have HK := Lib.hid hkf
        obtain ⟨ii, hi, hz, hs, hb⟩ := info_parts info_int
        clear hF h0 h20 hkf
        go_enter Try.func20, Try.ntmps20
        go_wp2_with fail
        refine (factor_any N _ hN20).mono ?_
        rintro e w1 ⟨rfl, rfl⟩
        rw [← HFa.out]
        go_wp2
        go_loopw [6, 24] (fun l i wr => ∃ j : Nat, i = .int .i64 j ∧ j ≤ N ∧ OwnI wr w.heap.size l ((upTo N).take j) ∧ Fx No w wr) (fun _ i _ => N - (intOf i).toNat)
        case atStart => exact ⟨0, rfl, Nat.zero_le _, OwnI.nil _ _, Fx.refl _ _⟩
        case round =>
          obtain ⟨j, rfl, hj, ho, hf⟩ := hrel
          have hlj : ((upTo N).take j).length = j := by rw [List.length_take, upTo_length]; omega
          have HO := Lib.hid ho
          have HF := Lib.hid hf
          have hwz := hf.size
          clear ho hf
          by_cases hlt : j < N
          · have HS := Lib.hid (upTo_take_succ hlt)
            have HLj := Lib.hid hlj
            have HO' : Hid (wr.ownsRow w.heap.size 3 1 u6 j (ints ((upTo N).take j))) := by have := HO.out; unfold OwnI at this; rw [hlj] at this; exact this
            clear hlj
            go_wp2_with (at_builtin; refine wpList_append_kept rfl _ _ 29 rfl w.heap.size 3 Try.underlying29 hi hz hs hb rfl (by decide) rfl (World.ownsRow.alloc HO'.out _) rfl (SlV.lit _ 3 #[.int .i64 _] 1 1 rfl (by unfold maxLen; omega)) (ints_one [_]) (by omega) (by unfold maxLen; omega) (by omega) (by simp; omega) ?_)
            intro v' w2 ho hfx hk2 hb2
            have HO2 : Hid (OwnI w2 w.heap.size v' ((upTo N).take (j + 1))) := by
              show OwnI _ _ _ _
              rw [HS.out]
              unfold OwnI
              rw [List.length_append, HLj.out]
              simpa [ints] using ho
            have HF2 : Hid (Fx No w w2) := (HF.out.alloc _).trans' hfx (fun g e hl => by have := (World.ownsRow.lt HO'.out g e).1; omega)
            clear ho hfx hk2 hb2
            go_wp2
            go_roundw
            case rel => first | exact ⟨j + 1, by go_num, by omega, HO2.out, HF2.out⟩ | ((repeat apply Exists.intro); exact ⟨⟨j + 1, by go_num, by omega, HO2.out, HF2.out⟩, rfl⟩)
            case measure => simp [intOf]; omega
          · obtain rfl : j = N := by omega
            have hall : (upTo j).take j = upTo j := by have := List.take_length (l := upTo j); rw [upTo_length] at this; exact this
            have HO1 : Hid (OwnI wr w.heap.size u6 (upTo j)) := by have := HO.out; rw [hall] at this; exact this
            obtain ⟨ao, cap, hu, hpl⟩ : ∃ ao cap, u6 = .slice ao j cap ∧ (0 < j → ∃ g, ao = some ⟨g, 0, none⟩ ∧ w.heap.size ≤ g ∧ g < wr.heap.size ∧ j ≤ cap ∧ cap ≤ 9223372036854775807 ∧ CellsI wr g 0 (upTo j)) := by
              by_cases h0 : 0 < j
              · obtain ⟨g, cap, h1, h2, h3, h4, h5⟩ := HO1.out.place (by rw [upTo_length]; exact h0)
                rw [upTo_length] at h1 h4
                refine ⟨_, cap, h1, fun _ => ⟨g, rfl, h2, h3, h4, h5, ?_⟩⟩
                have h8 := HO1.out
                rw [h1] at h8
                exact h8.cells
              · have : j = 0 := by omega
                subst this
                rcases HO1.out.2 with ⟨h1, _⟩ | ⟨g, cap, cur, hv, hb, hg, h3, h4, _⟩
                · exact ⟨none, 0, h1, fun h => absurd h h0⟩
                · exact ⟨_, cap, by rw [hv]; rfl, fun h => absurd h h0⟩
            subst hu
            have HPl := Lib.hid hpl
            clear hpl hall hlj
            go_wp2
            go_loopw [1, 6, 8] (fun kv l o ws => ∃ (m κ : Nat) (L O : List Int), kv = .int .u64 (κ : Int) ∧ l = .slice ao m cap ∧ m ≤ j ∧ κ < fact m ∧ L.length = m ∧ OwnI ws w.heap.size o O ∧ o ≠ .slice none 0 0 ∧ O ++ unr m L κ = unr j (upTo j) k ∧
              (0 < m → ∃ g, ao = some ⟨g, 0, none⟩ ∧ w.heap.size ≤ g ∧ g < ws.heap.size ∧ o.ownBlock ≠ some g ∧ CellsI ws g 0 L) ∧ O.length + m = j ∧ Fx No w ws) (fun _ l _ _ => match l with | .slice _ n _ => n | _ => 0)
            case atStart => 
              refine ⟨j, k, upTo j, [], rfl, rfl, Nat.le_refl _, by rw [← HFa.out]; exact HK.out, upTo_length _, ?_, by simp, by simp, fun h0 => ?_, by simp, HF.out.alloc _⟩
              · have := World.ownsRow_lit (base := w.heap.size) (e := 3) (size := 1) wr #[] 0 hwz (by unfold maxLen; omega) rfl
                exact this
              · obtain ⟨g, h1, h2, h3, h4, h5, h6⟩ := HPl.out h0
                exact ⟨g, h1, h2, by simp; omega, by simp [Value.ownBlock]; omega, h6.fx ((Fx.refl No _).alloc _) (fun h => h)⟩
            case round =>
              obtain ⟨m, κ, L, O, rfl, rfl, hm, hκ, hLm, ho, hon, hE, hcl, hOm, hf⟩ := hrel
              have HLm := Lib.hid hLm
              have HOo := Lib.hid ho
              have HOn := Lib.hid hon
              have HE := Lib.hid hE
              have HC := Lib.hid hcl
              have HOm := Lib.hid hOm
              have HFs := Lib.hid hf
              have Hκ := Lib.hid hκ
              have hws := hf.size
              clear hLm ho hon hE hcl hOm hf hκ
              cases m with
              | zero =>
                go_wp2
                go_ret2
                have h8 := HE.out
                rw [show unr 0 L κ = [] from rfl, List.append_nil] at h8
                exact ⟨_, by rw [HB.out]; rfl, HFs.out, by rw [HL.out, ← h8]; exact HOo.out.up⟩
              | succ m =>
                obtain ⟨g, rfl, hg1, hg2, hog, hcl⟩ := HC.out (Nat.succ_pos m)
                have HOg := Lib.hid hog
                have HCl := Lib.hid hcl
                clear hog hcl
                obtain ⟨G, hG⟩ : ∃ G, G = fact m := ⟨_, rfl⟩
                have HG := Lib.hid hG
                obtain ⟨at_, hat⟩ : ∃ a, a = κ / G := ⟨_, rfl⟩
                obtain ⟨re, hre⟩ : ∃ a, a = κ % G := ⟨_, rfl⟩
                have hat1 : at_ < m + 1 := by rw [hat, hG]; exact Nat.div_lt_of_lt_mul Hκ.out
                have hre1 : re < G := by rw [hre, hG]; exact Nat.mod_lt _ (fact_pos m)
                have hGp : 0 < G := by rw [hG]; exact fact_pos m
                have hG0 : ((G : Int) == 0) = false := by simp; omega
                have t1 : (κ : Int).tdiv (G : Int) = (at_ : Int) := by rw [hat]; rfl
                have t2 : (κ : Int).tmod (G : Int) = (re : Int) := by rw [hre]; rfl
                have t3 : IntKind.i64.wrap (at_ : Int) = (at_ : Int) := IntWalk.i64_in _ (by omega)
                have t4 : IntKind.u64.wrap (at_ : Int) = (at_ : Int) := u64_in (by omega) (by omega)
                have t5 : IntKind.u64.wrap (re : Int) = (re : Int) := by
                  have : G ≤ 2432902008176640000 := by rw [hG]; exact fact_le (by omega)
                  exact u64_in (by omega) (by omega)
                have hm20 : m ≤ 20 := by omega
                have HAt := Lib.hid hat
                have HRe := Lib.hid hre
                clear hG hat hre
                go_wp2_with fail
                refine (factor_any m _ hm20).mono ?_
                rintro e w1 ⟨rfl, rfl⟩
                rw [← HG.out]
                have q1 : wr.cell? ⟨g, at_, none⟩ = some (.int .i64 (gi L at_)) := by
                  have := (HCl.out at_ (by rw [HLm.out]; exact hat1)).1
                  rwa [Nat.zero_add] at this
                have hOl : O.length ≤ 20 := by have := HOm.out; omega
                go_wp2_with (at_builtin; refine wpList_append_kept rfl _ _ 29 rfl w.heap.size 3 Try.underlying29 hi hz hs hb rfl (by decide) rfl (World.ownsRow.alloc HOo.out _) rfl (SlV.lit _ 3 #[.int .i64 _] 1 1 rfl (by unfold maxLen; omega)) (ints_one [_]) (by omega) (by unfold maxLen; omega) (by omega) (by simp; omega) ?_)
                intro v' w2 ho hfx hk2 hb2
                have hz2 := hfx.size
                simp only [World.size_alloc] at hz2
                have HO2 : Hid (OwnI w2 w.heap.size v' (O ++ [gi L at_])) := by
                  show OwnI _ _ _ _
                  unfold OwnI
                  rw [List.length_append]
                  simpa [ints] using ho
                have HF2 : Hid (Fx No w w2) := (HFs.out.alloc _).trans' hfx (fun g e hl => by have := (World.ownsRow.lt HOo.out g e).1; omega)
                have HC2 : Hid (CellsI w2 g 0 L) := (HCl.out.fx ((Fx.refl No _).alloc _) (fun h => h)).fx hfx HOg.out
                have HOg2 : Hid (v'.ownBlock ≠ some g) := by
                  intro e
                  rcases hb2 g e with e | e
                  · exact HOg.out e
                  · first | omega | (simp at e; omega)
                have HOn2 : Hid (v' ≠ .slice none 0 0) := by
                  intro e
                  have := ho.1
                  have h3 := HO2.out
                  rw [e] at h3
                  have h4 := h3.2
                  rcases h4 with ⟨_, h5⟩ | ⟨g, c, cur, h5, _⟩
                  · simp at h5
                  · simp at h5
                clear ho hfx hk2 hb2 q1
                have hmc : m + 1 ≤ cap ∧ cap ≤ 9223372036854775807 := by
                  obtain ⟨g', h1, h2, h3, h4, h5, h6⟩ := HPl.out (by omega)
                  exact ⟨by omega, h5⟩
                obtain ⟨hmc1, hmc2⟩ := hmc
                go_wp2_with fail
                refine (delete_any HC2.out HLm.out.symm hat1 hmc1 hmc2).mono ?_
                rintro e w3 ⟨rfl, hf3, hc3⟩
                have HC3 := Lib.hid hc3
                have HF3 : Hid (Fx No w w3) := HF2.out.trans' hf3 (fun j e h => by omega)
                have HO3 : Hid (OwnI w3 w.heap.size v' (O ++ [gi L at_])) := ownsRow_fx HO2.out hf3 (fun k h1 h2 => HOg2.out (by rw [h1, h2]))
                have hz3 := hf3.size
                clear hf3 hc3
                have HE3 : Hid ((O ++ [gi L at_]) ++ unr m (L.eraseIdx at_) re = unr j (upTo j) k) := by
                  show _ = _
                  rw [← HE.out, unr_step, ← HG.out, ← HAt.out, ← HRe.out]
                  simp
                go_wp2
                go_roundw
                case rel => exact ⟨m, re, L.eraseIdx at_, O ++ [gi L at_], rfl, rfl, by omega, by rw [← HG.out]; exact hre1, by rw [List.length_eraseIdx_of_lt (by rw [HLm.out]; exact hat1), HLm.out]; rfl, HO3.out, HOn2.out, HE3.out, fun h0 => ⟨g, rfl, hg1, by omega, HOg2.out, HC3.out⟩, by have := HOm.out; simp; omega, HF3.out⟩
                case measure => simp
      · have HB : Hid (unrOk (N : Int) k = false) := by
          show unrOk (N : Int) k = false
          unfold unrOk
          rw [decide_eq_false_iff_not, Int.toNat_natCast, ← hF]
          exact fun h => hkf h.2.2
        have HL : Hid (unrL (N : Int) k = []) := by show unrL _ _ = _; unfold unrL; rw [HB.out]; rfl
        have hdk : decide (F ≤ k) = true := decide_eq_true (by omega)
        clear hF h0 h20 hkf
        go_enter Try.func20, Try.ntmps20
        go_wp2_with fail
        refine (factor_any N _ hN20).mono ?_
        rintro e w1 ⟨rfl, rfl⟩
        rw [← HFa.out]
        go_wp2
        go_ret2
        exact ⟨_, by rw [HB.out]; rfl, Fx.refl _ _, by rw [HL.out]; exact SlV.nil _ _ _⟩
    · have HB : Hid (unrOk n k = false) := by
        show unrOk n k = false
        unfold unrOk
        rw [decide_eq_false_iff_not]
        exact fun h => h20 h.2.1
      have HL : Hid (unrL n k = []) := by show unrL _ _ = _; unfold unrL; rw [HB.out]; rfl
      have hd0 : decide (n < 0) = false := decide_eq_false (by omega)
      have hd20 : decide ((20 : Int) < n) = true := decide_eq_true (by omega)
      clear h0 h20
      go_enter Try.func20, Try.ntmps20
      go_wp2
      go_ret2
      exact ⟨_, by rw [HB.out]; rfl, Fx.refl _ _, by rw [HL.out]; exact SlV.nil _ _ _⟩
  · have HB : Hid (unrOk n k = false) := by
      show unrOk n k = false
      unfold unrOk
      rw [decide_eq_false_iff_not]
      exact fun h => h0 h.1
    have HL : Hid (unrL n k = []) := by show unrL _ _ = _; unfold unrL; rw [HB.out]; rfl
    have hd0 : decide (n < 0) = true := decide_eq_true (by omega)
    clear h0
    go_enter Try.func20, Try.ntmps20
    go_wp2
    go_ret2
    exact ⟨_, by rw [HB.out]; rfl, Fx.refl _ _, by rw [HL.out]; exact SlV.nil _ _ _⟩
#print axioms unrank_any
end Go.Proofs.Ytddpdjbgidmdlaa
