/- Contracts of package alibiref08: Of. -/
import Derived.Test.YthbfpcheljaeaaaDoorRefB
import Derived.Deep.RegionWith
namespace Go.Proofs.YthbfpcheljaeaaaDoor
open Go.RowKit
set_option linter.unusedVariables false

theorem IsR.bound {w : World} {D : Nat → Prop} {v : Value} {n X : Nat} (h : IsR w D v n X) : IsR w (fun k => D k ∧ k < w.heap.size) v n X := ⟨h.1, h.2.1, h.2.2.bound⟩

theorem refOf_any {w : World} {D : Nat → Prop} {v : Value} {l : List Int} (n : Int) (h : IntsV w D v l) :
    Calls Tryd.prog 10 #[.int .i64 n, v] w fun e w' => ∃ u, e = .returned (.agg #[u]) ∧ Fx No w w' ∧ IsR w' (Iv w.heap.size w'.heap.size) u (newN n) (ofX (newN n) l) := by
  obtain ⟨ao, cap, rfl, hlen, hc⟩ := h.facts
  have HC := Lib.hid hc
  clear hc h
  go_enter Tryd.func10, Tryd.ntmps10
  go_wp2_with fail
  refine (refNew_any n _).mono ?_
  rintro e w1 ⟨u, rfl, hf1, ho1⟩
  have hr1 := ho1.isR
  clear ho1
  obtain ⟨uo, ucap, rfl⟩ := hr1.shape
  obtain ⟨hc1, hz1⟩ := hf1.cellF (a := ⟨w.heap.size, 0, none⟩) (v := .slice none 0 0) (by simp) (by simp) (fun h => h)
  have hs1 := hf1.size
  simp only [World.size_alloc] at hs1
  have HF1 := Lib.hid (((Fx.refl No w).alloc _).trans hf1)
  have HR1 := Lib.hid hr1
  clear hf1 hr1
  go_wp2
  go_loopw [6] (fun i wr => ∃ (k : Nat) (uo : Option Addr) (ucap : Nat), k ≤ l.length ∧ i = .int .i64 k ∧ Fx No w wr ∧ w1.heap.size < wr.heap.size ∧
      wr.cell? ⟨w.heap.size, 0, none⟩ = some (.slice none 0 0) ∧ wr.frozen? ⟨w.heap.size, 0, none⟩ = false ∧
      wr.cell? ⟨w1.heap.size, 0, none⟩ = some (.slice uo (newN n) ucap) ∧ wr.frozen? ⟨w1.heap.size, 0, none⟩ = false ∧
      IsR wr (fun j => w.heap.size < j ∧ j ≠ w1.heap.size) (.slice uo (newN n) ucap) (newN n) (ofX (newN n) (l.take k))) (fun i _ => l.length - (intOf i).toNat)
  case atStart =>
    refine ⟨0, uo, ucap, Nat.zero_le _, rfl, HF1.out.alloc _, by simp, ?_, ?_, by simp, by simp, ?_⟩
    · rw [World.cell?_alloc_lt _ _ _ (by simp; omega)]; exact hc1
    · rw [World.frozen?_alloc_old _ _ _ (by simp; omega)]; exact hz1
    · have h2 := HR1.out.no ((Fx.refl No w1).alloc (.cells #[.slice uo (newN n) ucap] 28))
      exact h2.mono fun j ⟨h3, h4⟩ => by simp only [World.size_alloc] at h3; exact ⟨by omega, by omega⟩
  case round =>
    obtain ⟨k, uo, ucap, hk, rfl, hf, hsz, hc2, hz2, hc3, hz3, hr⟩ := hrel
    have HF := Lib.hid hf
    have HR := Lib.hid hr
    clear hf hr
    by_cases hlt : k < l.length
    · obtain ⟨bl, o, rfl, _, hcell⟩ := HC.out k hlt
      have hcell' := HF.out.cell' hcell (fun h => h)
      have hbl := World.block_lt_of_cell? w _ hcell
      clear hcell
      go_wp2
      go_region_with (first | (go_at_call 32; refine (refAdd_any (HR.out.no ((Fx.refl _ _).drew)) _).mono ?_; rintro e w2 ⟨u2, rfl, hf2, hr2⟩; obtain ⟨uo2, ucap2, rfl⟩ := hr2.shape; obtain ⟨hc4, hz4⟩ := hf2.cellF (a := ⟨w1.heap.size, 0, none⟩) hc3 hz3 (fun h => h); obtain ⟨hc5, hz5⟩ := hf2.cellF (a := ⟨w.heap.size, 0, none⟩) hc2 hz2 (fun h => h); have HF2 := Lib.hid hf2; have HR2 := Lib.hid hr2; clear hf2 hr2))
      all_goals
        go_wp2
        go_roundw
        case rel =>
          have hs2 := HF2.out.size
          simp only [World.size_drew] at hs2
          have hF := HF.out.trans ((Fx.refl No wr).drew.trans HF2.out)
          have hw1 : w.heap.size < w1.heap.size := by omega
          refine ⟨k + 1, uo2, ucap2, by omega, by go_num, hF.setCell (.inl (by simp; omega)) _, by simp; omega, ?_, ?_, ?_, ?_, ?_⟩
          · rw [World.cell?_setCell_other _ _ _ _ (addr_ne (by simp; omega))]; exact hc5
          · simpa using hz5
          · exact World.cell?_setCell_same _ _ _ hc4
          · simpa using hz4
          · rw [ofX_take hlt]
            refine (HR2.out.keep (S := fun j => j = w1.heap.size) (Fx.put _ _ _ _) ?_).mono ?_
            · rintro j (⟨_, h1⟩ | ⟨h1, _⟩) rfl
              · exact h1 rfl
              · simp at h1; omega
            · rintro j (⟨h1, h2⟩ | ⟨h1, _⟩)
              · exact ⟨h1, h2⟩
              · simp at h1; exact ⟨by omega, by omega⟩
        case measure => simp [intOf]; omega
    · obtain rfl : k = l.length := by omega
      go_wp2
      have hres := World.cell?_setCell_same wr ⟨w.heap.size, 0, none⟩ (.slice uo (newN n) ucap) hc2
      refine bodyPost_ret (v := .agg #[.slice uo (newN n) ucap]) (by simp [results, Tryd.results10, go_sem, hres]) rfl ⟨_, rfl, HF.out.setCell (.inl (by simp)) _, ?_⟩
      have h1 := HR.out
      rw [List.take_length] at h1
      exact ((h1.keep (S := fun j => j = w.heap.size) (Fx.put _ _ _ _) (by rintro j ⟨h1, _⟩ rfl; omega)).bound).mono fun j ⟨⟨h2, _⟩, h3⟩ => ⟨by omega, h3⟩
#print axioms refOf_any
end Go.Proofs.YthbfpcheljaeaaaDoor
