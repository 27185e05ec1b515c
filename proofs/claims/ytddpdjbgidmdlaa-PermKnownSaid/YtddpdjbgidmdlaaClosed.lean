/- Contract: the law's closed. -/
import Derived.Test.YtddpdjbgidmdlaaTree4
import Derived.Test.YtddpdjbgidmdlaaDoorP
namespace Go.Proofs.Ytddpdjbgidmdlaa
open Go.RowKit
set_option linter.unusedVariables false

theorem freeTo_step {ps : List (Int × Int)} {g : Nat → Bool} {i k : Nat} (h : k < ps.length) : (ps.take (k + 1)).all (fun q => q.2 != (i : Int) || g q.1.toNat) = ((ps.take k).all (fun q => q.2 != (i : Int) || g q.1.toNat) && ((gp ps k).2 != (i : Int) || g (gp ps k).1.toNat)) := by
  rw [take_gp h, List.all_append]; simp
set_option maxHeartbeats 4000000 in
theorem closed_any {w : World} {D : Nat → Prop} {v : Value} {ps : List (Int × Int)} (h : PairsV w D v ps) {N : Nat} (hN : N ≤ 4096) (hok : PsOk ps N) :
    Calls Try.prog 12 #[.int .i64 (N : Int), v] w fun e w' => e = .returned (.bool (closedB ps N)) ∧ Fx No w w' := by
  obtain ⟨uo, ucap, rfl, hul, hc⟩ := h.facts
  obtain ⟨ul, hulen⟩ : ∃ k, k = ps.length := ⟨_, rfl⟩
  rw [← hulen] at hul hc ⊢
  have HC := Lib.hid hc
  have HUl := Lib.hid hulen
  have HOk := Lib.hid hok
  clear h hc hulen hok
  have hm := makeBools (E := (N : Int)) (k := N) (by omega) (by omega) (by omega)
  obtain ⟨W1, hW1⟩ : ∃ W, W = w.alloc (.cells (zeroBools N) 4) := ⟨_, rfl⟩
  obtain ⟨nb, hnb⟩ : ∃ b, b = w.heap.size := ⟨_, rfl⟩
  have HC0 : Hid (CellsB W1 nb N (pss ps N 0)) := by
    have eb := heap_alloc_new w (.cells (zeroBools N) 4)
    rw [hW1, hnb]
    exact fun j hj => ⟨by rw [cell_of_row _ _ _ _ _ _ eb]; simp [zeroBools, hj, pss], frozen_of_row _ _ _ _ _ eb⟩
  have HF1 : Hid (Fx No w W1) := by rw [hW1]; exact (Fx.refl No w).alloc _
  have HZ := Lib.hid hnb
  go_enter Try.func12, Try.ntmps12
  go_wp2
  rw [← hW1, ← hnb]
  clear hm hW1 hnb
  go_loopw [6] (fun i wr => ∃ t : Nat, i = .int .i64 t ∧ t ≤ N ∧ Fx No w wr ∧ CellsB wr nb N (pss ps N t)) (fun i _ => N - (intOf i).toNat)
  case atStart => exact ⟨0, rfl, Nat.zero_le _, HF1.out, HC0.out⟩
  case round =>
    obtain ⟨t, rfl, ht, hf, hG⟩ := hrel
    have HF := Lib.hid hf
    have HG := Lib.hid hG
    clear hf hG
    by_cases hlt : t < N
    · go_wp2
      go_loopw [7] (fun i wr => ∃ j : Nat, i = .int .i64 j ∧ j ≤ N ∧ Fx No w wr ∧ CellsB wr nb N (stps ps (pss ps N t) j)) (fun i _ => N - (intOf i).toNat)
      case atStart => exact ⟨0, rfl, Nat.zero_le _, HF.out, HG.out⟩
      case round =>
        obtain ⟨j, rfl, hj, hf, hG⟩ := hrel
        have HF2 := Lib.hid hf
        have HG2 := Lib.hid hG
        clear hf hG
        by_cases hlt2 : j < N
        · obtain ⟨g, hg⟩ : ∃ g, g = stps ps (pss ps N t) j := ⟨_, rfl⟩
          have HGe := Lib.hid hg
          rw [← hg] at HG2
          clear hg
          go_wp2
          go_loopw [8, 9] (fun f i wr => ∃ k : Nat, i = .int .i64 k ∧ k ≤ ul ∧ f = .bool ((ps.take k).all (fun q => q.2 != (j : Int) || g q.1.toNat)) ∧ Fx No w wr ∧ CellsB wr nb N g) (fun _ i _ => ul - (intOf i).toNat)
          case atStart => exact ⟨0, rfl, Nat.zero_le _, rfl, HF2.out, HG2.out⟩
          case round =>
            obtain ⟨k, rfl, hk, rfl, hf, hG⟩ := hrel
            have HF3 := Lib.hid hf
            have HG3 := Lib.hid hG
            clear hf hG
            obtain ⟨F, hF⟩ : ∃ F, F = (ps.take k).all (fun q => q.2 != (j : Int) || g q.1.toNat) := ⟨_, rfl⟩
            rw [← hF]
            by_cases hlt3 : k < ul
            · obtain ⟨b, o, rfl, _, c1, c2⟩ := HC.out k hlt3
              have c1 := HF3.out.cell' c1 (fun h => h)
              have c2 := HF3.out.cell' c2 (fun h => h)
              have hkp : k < ps.length := by rw [← HUl.out]; exact hlt3
              have hst := freeTo_step (g := g) (i := j) hkp
              rw [← hF] at hst
              obtain ⟨p1, p2, p3, p4⟩ := HOk.out (gp ps k) (by simp [gp, hkp])
              obtain ⟨x, hx⟩ := Int.eq_ofNat_of_zero_le p1
              obtain ⟨y, hy⟩ := Int.eq_ofNat_of_zero_le p3
              rw [hx] at c1 p2
              rw [hy] at c2
              rw [hx, hy, Int.toNat_natCast] at hst
              have hxN : x < N := by omega
              obtain ⟨g1, g2⟩ := HG3.out x hxN
              obtain ⟨G, hGx⟩ : ∃ G, G = g x := ⟨_, rfl⟩
              rw [← hGx] at g1 hst
              clear hkp p1 p2 p3 p4 hx hy hF hGx
              rcases Bool.eq_false_or_eq_true F with rfl | rfl
              · by_cases hyj : (y : Int) = (j : Int)
                · have hne : ((y : Int) != (j : Int)) = false := by simpa using hyj
                  rw [hne] at hst
                  have HSt : Hid ((ps.take (k + 1)).all (fun q => q.2 != (j : Int) || g q.1.toNat) = G) := by rw [hst]; rfl
                  clear hst hyj
                  go_wp2
                  go_roundw
                  case rel => exact ⟨k + 1, by go_num, by omega, by rw [HSt.out], HF3.out, HG3.out⟩
                  case measure => simp [intOf]; omega
                · have hne : ((y : Int) != (j : Int)) = true := by simpa using hyj
                  rw [hne] at hst
                  have HSt : Hid ((ps.take (k + 1)).all (fun q => q.2 != (j : Int) || g q.1.toNat) = true) := by rw [hst]; rfl
                  clear hst hyj
                  go_wp2
                  go_roundw
                  case rel => exact ⟨k + 1, by go_num, by omega, by rw [HSt.out], HF3.out, HG3.out⟩
                  case measure => simp [intOf]; omega
              · have HSt : Hid ((ps.take (k + 1)).all (fun q => q.2 != (j : Int) || g q.1.toNat) = false) := by rw [hst]; rfl
                clear hst
                go_wp2
                go_roundw
                case rel => exact ⟨k + 1, by go_num, by omega, by rw [HSt.out], HF3.out, HG3.out⟩
                case measure => simp [intOf]; omega
            · obtain rfl : k = ul := by omega
              have hFr : F = freeB ps g j := by rw [hF, HUl.out, List.take_length]; rfl
              obtain ⟨g1, g2⟩ := HG3.out j hlt2
              obtain ⟨G, hGx⟩ : ∃ G, G = g j := ⟨_, rfl⟩
              rw [← hGx] at g1
              have HNew : Hid (∀ b, b = (G || F) → CellsB (wr.setCell ⟨nb, j, none⟩ (.bool b)) nb N (stps ps (pss ps N t) (j + 1))) := fun b hb => by
                refine (HG3.out.set hlt2 b).congr fun m hm => ?_
                show _ = stp ps (stps ps (pss ps N t) j) j m
                rw [← HGe.out]
                unfold stp
                rw [hb, hGx, hFr]
              have hnb2 : w.heap.size ≤ nb := by rw [HZ.out]; omega
              have HF4 : Hid (∀ b, Fx No w (wr.setCell ⟨nb, j, none⟩ (.bool b))) := fun b => HF3.out.setCell (.inl hnb2) _
              clear hF hFr hGx hnb2
              rcases Bool.eq_false_or_eq_true G with rfl | rfl
              · go_wp2
                go_roundw
                case rel => exact ⟨j + 1, by go_num, by omega, HF4.out true, HNew.out true rfl⟩
                case measure => simp [intOf]; omega
              · go_wp2
                go_roundw
                case rel => exact ⟨j + 1, by go_num, by omega, HF4.out F, HNew.out F rfl⟩
                case measure => simp [intOf]; omega
        · obtain rfl : j = N := by omega
          go_wp2
          go_roundw
          case rel => exact ⟨t + 1, by go_num, by omega, HF2.out, HG2.out⟩
          case measure => simp [intOf]; omega
    · obtain rfl : t = N := by omega
      go_wp2
      go_loopw [10] (fun i wr => ∃ j : Nat, i = .int .i64 j ∧ j ≤ t ∧ Fx No w wr ∧ CellsB wr nb t (pss ps t t) ∧ ∀ m, m < j → pss ps t t m = true) (fun i _ => t - (intOf i).toNat)
      case atStart => exact ⟨0, rfl, Nat.zero_le _, HF.out, HG.out, fun m hm => by omega⟩
      case round =>
        obtain ⟨j, rfl, hj, hf, hG, hA⟩ := hrel
        have HF2 := Lib.hid hf
        have HG2 := Lib.hid hG
        have HA := Lib.hid hA
        clear hf hG hA
        by_cases hlt2 : j < t
        · obtain ⟨g1, g2⟩ := HG2.out j hlt2
          obtain ⟨G, hGx⟩ : ∃ G, G = pss ps t t j := ⟨_, rfl⟩
          rw [← hGx] at g1
          have HGx := Lib.hid hGx
          clear hGx
          rcases Bool.eq_false_or_eq_true G with rfl | rfl
          · go_wp2
            go_roundw
            case rel => exact ⟨j + 1, by go_num, by omega, HF2.out, HG2.out, fun m hm => by
              by_cases e : m = j
              · rw [e]; exact HGx.out.symm
              · exact HA.out m (by omega)⟩
            case measure => simp [intOf]; omega
          · have HR : Hid (closedB ps t = true) := List.any_eq_true.2 ⟨j, by simpa using hlt2, by rw [← HGx.out]; rfl⟩
            go_wp2
            go_ret
            exact ⟨by rw [HR.out]; rfl, HF2.out⟩
        · obtain rfl : j = t := by omega
          have HR : Hid (closedB ps j = false) := List.any_eq_false.2 fun m hm => by
            rw [HA.out m (by simpa using hm)]; simp
          go_wp2
          go_ret
          exact ⟨by rw [HR.out]; rfl, HF2.out⟩
#print axioms closed_any
end Go.Proofs.Ytddpdjbgidmdlaa
