/- slices.Compact at ints, on a row of the call's own. -/
import Derived.Test.YtcfajeldkioomaaGN
import Derived.Laws.IdiomCopy
namespace Go.Proofs.Ytcfajeldkioomaa
open Go.RowKit
set_option linter.unusedVariables false

def CellsI (w : World) (g o : Nat) (l : List Int) : Prop := ∀ k, k < l.length → w.cell? ⟨g, o + k, none⟩ = some (.int .i64 (gi l k)) ∧ w.frozen? ⟨g, o + k, none⟩ = false
/-- a row of ints that is new since block B, and may be written -/
def RowI (w : World) (B : Nat) (v : Value) (l : List Int) : Prop :=
  ∃ ao cap, v = .slice ao l.length cap ∧ l.length ≤ cap ∧ cap ≤ maxLen ∧ (ao = none → cap = 0) ∧ (l = [] ∨ ∃ g, ao = some ⟨g, 0, none⟩ ∧ B ≤ g ∧ g < w.heap.size ∧ CellsI w g 0 l)
theorem CellsI.keep {w w' : World} {S : Nat → Prop} {g o : Nat} {l : List Int} (h : CellsI w g o l) (hf : Fx S w w') (hg : ¬ S g) : CellsI w' g o l := fun k hk => hf.cellF (h k hk).1 (h k hk).2 hg
theorem RowI.toInts {w : World} {B : Nat} {v : Value} {l : List Int} (h : RowI w B v l) : IntsV w (Iv B w.heap.size) v l := by
  obtain ⟨ao, cap, h1, h2, h3, h4, h5⟩ := h
  refine ⟨ao, cap, h1, h2, h3, by simp [ints], h4, ?_⟩
  rcases h5 with rfl | ⟨g, h5, h6, h7, h8⟩
  · exact .inl rfl
  · refine .inr ⟨g, 0, h5, ⟨h6, h7⟩, fun i hi => ?_⟩
    have hi' : i < l.length := by simpa [ints] using hi
    rw [(h8 i hi').1]
    simp [ints, gi, List.getD, hi']
theorem RowI.ofOwn {w : World} {B : Nat} {v : Value} {l : List Int} (h : w.ownsRow B 3 1 v l.length (ints l)) : RowI w B v l := by
  rcases h.2 with ⟨rfl, h0⟩ | ⟨g, cap, cur, rfl, hb, hg, h1, h2, h3, h4⟩
  · obtain rfl := List.eq_nil_of_length_eq_zero h0
    exact ⟨none, 0, rfl, Nat.le_refl _, Nat.zero_le _, fun _ => rfl, .inl rfl⟩
  · refine ⟨_, cap, rfl, h1, h2, (fun h => by cases h), .inr ⟨g, rfl, hb, (Array.getElem?_eq_some_iff.1 hg).1, fun k hk => ⟨?_, ?_⟩⟩⟩
    · have := h.cells (g := g) rfl k (.int .i64 (gi l k)) (by simp [ints, gi, hk])
      rw [Addr.add_lit] at this
      exact this
    · simp [World.frozen?, hg]
theorem RowI.keep {w w' : World} {S : Nat → Prop} {B : Nat} {v : Value} {l : List Int} (h : RowI w B v l) (hf : Fx S w w') (hd : ∀ k, B ≤ k → k < w.heap.size → ¬ S k) : RowI w' B v l := by
  obtain ⟨ao, cap, h1, h2, h3, h4, h5⟩ := h
  refine ⟨ao, cap, h1, h2, h3, h4, ?_⟩
  rcases h5 with h5 | ⟨g, h5, h6, h7, h8⟩
  · exact .inl h5
  · exact .inr ⟨g, h5, h6, Nat.lt_of_lt_of_le h7 hf.size, h8.keep hf (hd g h6 h7)⟩
theorem Fx.cells (g : Nat) : ∀ (vs : List Value) (o : Nat) (w : World), Fx (fun j => j = g) w (w.setCells g o vs)
  | [], _, _ => Fx.refl _ _
  | v :: r, o, w => (Fx.put w g o v).trans (Fx.cells g r (o + 1) _)
/-- without what comes twice, one behind the other: of the first a ones -/
def compTo (l : List Int) : Nat → List Int
  | 0 => []
  | a + 1 => compTo l a ++ if a = 0 ∨ gi l a ≠ gi l (a - 1) then [gi l a] else []
def comp (l : List Int) : List Int := compTo l l.length
theorem compTo_len (l : List Int) : ∀ a, (compTo l a).length ≤ a
  | 0 => by simp [compTo]
  | a + 1 => by
    have := compTo_len l a
    unfold compTo
    rw [List.length_append]
    split <;> simp <;> omega
theorem compTo_pos (l : List Int) (a : Nat) : 0 < (compTo l (a + 1)).length := by
  induction a with
  | zero => simp [compTo]
  | succ a ih => unfold compTo; rw [List.length_append]; omega
theorem compTo_new {l : List Int} {a : Nat} (h : gi l a ≠ gi l (a - 1)) : compTo l (a + 1) = compTo l a ++ [gi l a] := by
  rw [compTo, if_pos (.inr h)]
theorem compTo_old {l : List Int} {a : Nat} (h0 : 0 < a) (h : gi l a = gi l (a - 1)) : compTo l (a + 1) = compTo l a := by
  rw [compTo, if_neg (by omega)]; simp
theorem comp_short {l : List Int} (h : l.length < 2) : comp l = l := by
  match l with
  | [] => rfl
  | [x] => simp [comp, compTo, gi]
  | x :: y :: l => simp at h; omega
theorem compTo_one {l : List Int} (h : 0 < l.length) : compTo l 1 = l.take 1 := by
  match l with
  | [] => simp at h
  | x :: l => simp [compTo, gi]
theorem gi_append_left {a b : List Int} {k : Nat} (h : k < a.length) : gi (a ++ b) k = gi a k := by
  simp [gi, List.getD, List.getElem?_append_left h]
theorem gi_append_one {a : List Int} {x : Int} : gi (a ++ [x]) a.length = x := by simp [gi, List.getD]
section
variable {w w' : World} {D S T E : Nat → Prop} {v : Value} {l : List Int} {B : Nat}
set_option maxRecDepth 100000 in
set_option maxHeartbeats 2000000 in
theorem compact_any (h : RowI w B v l) (hl : l.length ≤ 1000000) : Calls Try.prog 58 #[v] w fun e w' => ∃ v', e = .returned v' ∧ Fx (fun k => B ≤ k) w w' ∧ RowI w' B v' (comp l) := by
  have H := Lib.hid h
  obtain ⟨ao, cap, rfl, hcl, hcm, h4, h5⟩ := h
  have hcm' : cap ≤ 9223372036854775807 := by unfold maxLen at hcm; exact hcm
  obtain ⟨n, hn⟩ : ∃ n, n = l.length := ⟨_, rfl⟩
  rw [← hn] at hcl hl ⊢
  have HN := Lib.hid hn
  by_cases hs : n < 2
  · have d1 : decide ((n : Int) < 2) = true := decide_eq_true (by omega)
    have HR : Hid (comp l = l) := Lib.hid (comp_short (by omega))
    clear h5 hn
    go_enter Try.func58, Try.ntmps58
    go_wp2
    go_ret
    refine ⟨_, rfl, Fx.refl _ _, ?_⟩
    rw [HR.out]
    have h1 := H.out
    rw [← HN.out] at h1
    exact h1
  · have d1 : decide ((n : Int) < 2) = false := decide_eq_false (by omega)
    obtain ⟨g, rfl, hBg, hgw, hc⟩ : ∃ g, ao = some ⟨g, 0, none⟩ ∧ B ≤ g ∧ g < w.heap.size ∧ CellsI w g 0 l := by
      rcases h5 with h5 | h5
      · subst h5; simp at hn; omega
      · exact h5
    have HC : Hid (∀ k, k < n → w.cell? ⟨g, k, none⟩ = some (.int .i64 (gi l k)) ∧ w.frozen? ⟨g, k, none⟩ = false) := Lib.hid fun k hk => by have := hc k (by omega); rwa [Nat.zero_add] at this
    have H1 : Hid (compTo l 1 = l.take 1) := Lib.hid (compTo_one (by omega))
    clear hc hn h4
    go_enter Try.func58, Try.ntmps58
    go_wp2
    go_loopw [3] (fun i ws => ∃ k : Nat, i = .int .i64 k ∧ 1 ≤ k ∧ k ≤ n ∧ Fx No w ws ∧ Hid (compTo l k = l.take k)) (fun i _ => n - (intOf i).toNat)
    case atStart => exact ⟨1, rfl, Nat.le_refl _, by omega, Fx.refl _ _, H1⟩
    case round =>
      obtain ⟨k, rfl, hk1, hk, hf, HK⟩ := hrel
      have HF := Lib.hid hf
      clear hf
      by_cases hlt : k < n
      · obtain ⟨p0, _⟩ := HC.out k hlt
        obtain ⟨q0, _⟩ := HC.out (k - 1) (by omega)
        have p0 := HF.out.cell' p0 (fun h => h)
        have q0 := HF.out.cell' q0 (fun h => h)
        have hi0 : (0 : Int) ≤ (k : Int) := by omega
        have hi1 : (k : Int) < (n : Int) := by omega
        have hw : IntKind.i64.wrap ((k : Int) - 1) = ((k - 1 : Nat) : Int) := by rw [IntKind.wrap_i64]; omega
        obtain ⟨k', hk'⟩ : ∃ k', k' = k - 1 := ⟨_, rfl⟩
        rw [← hk'] at q0 hw
        have hj0 : (0 : Int) ≤ (k' : Int) := by omega
        have hj1 : (k' : Int) < (n : Int) := by omega
        obtain ⟨x, hx⟩ : ∃ x, x = gi l k := ⟨_, rfl⟩
        obtain ⟨y, hy⟩ : ∃ y, y = gi l k' := ⟨_, rfl⟩
        rw [← hx] at p0
        rw [← hy] at q0
        have HX : Hid (x = gi l k ∧ y = gi l (k - 1)) := Lib.hid ⟨hx, by rw [hy, hk']⟩
        clear hx hy hk'
        by_cases hxy : x = y
        · have d2 : (x == y) = true := by simpa using hxy
          have HKd : Hid (compTo l (k + 1) = l.take k) := Lib.hid (by
            rw [compTo_old (by omega) (by rw [← HX.out.1, ← HX.out.2]; exact hxy), HK.out])
          have hcapk : ¬ (cap = k) := by omega
          have hkn : k ≤ n := hk
          go_wp2
          go_quiet (fail)
          have HF1 : Hid (Fx No w (wr.drewN nq)) := Lib.hid (HF.out.drewN _)
          clear p0 q0 hw hj0 hj1
          obtain ⟨s, hs2⟩ : ∃ s, s = n - k := ⟨_, rfl⟩
          go_wp2
          rw [← hs2]
          go_loopw [3, 5] (fun i j ws => ∃ K k2 : Nat, i = .int .i64 K ∧ j = .int .i64 k2 ∧ 1 ≤ k2 ∧ k2 ≤ s ∧ K + 1 ≤ k + k2 ∧ K = (compTo l (k + k2)).length ∧ Fx (fun b => b = g) w ws ∧ (∀ j, j < K → ws.cell? ⟨g, j, none⟩ = some (.int .i64 (gi (compTo l (k + k2)) j))) ∧ (∀ j, k + k2 ≤ j + 1 → j < n → ws.cell? ⟨g, j, none⟩ = some (.int .i64 (gi l j))) ∧ (∀ j, j < n → (ws.cell? ⟨g, j, none⟩).isSome = true ∧ ws.frozen? ⟨g, j, none⟩ = false)) (fun _ j _ => s - (intOf j).toNat)
          case atStart =>
            refine ⟨k, 1, rfl, rfl, Nat.le_refl _, by omega, by omega, by rw [HKd.out, List.length_take, ← HN.out]; omega, HF1.out.no, fun j hj => ?_, fun j h1 h2 => HF1.out.cell' (HC.out j h2).1 (fun h => h), fun j hj => ?_⟩
            rotate_left
            · have h3 := HF1.out.cellF (HC.out j hj).1 (HC.out j hj).2 (fun h => h)
              exact ⟨by rw [h3.1]; rfl, h3.2⟩
            rw [HF1.out.cell' (HC.out j (by omega)).1 (fun h => h), HKd.out]
            simp [gi, List.getD, List.getElem?_take, hj]
          case round => 
            obtain ⟨K, k2, rfl, rfl, h21, h22, hKk, hKl, hf, hlow, hhigh, hany⟩ := hrel
            have HF2 := Lib.hid hf
            have HLow := Lib.hid hlow
            have HHigh := Lib.hid hhigh
            have HAny := Lib.hid hany
            have HKl := Lib.hid hKl
            have HS2 := Lib.hid hs2
            clear hf hlow hhigh hKl hany
            by_cases hlt2 : k2 < s
            · have han : k + k2 < n := by omega
              have p0 := HHigh.out (k + k2) (by omega) han
              have q0 := HHigh.out (k + (k2 - 1)) (by omega) (by omega)
              have hw : IntKind.i64.wrap ((k2 : Int) - 1) = ((k2 - 1 : Nat) : Int) := by rw [IntKind.wrap_i64]; omega
              have hgl : k + k2 - 1 = k + (k2 - 1) := by omega
              obtain ⟨k3, hk3⟩ : ∃ k', k' = k2 - 1 := ⟨_, rfl⟩
              rw [← hk3] at q0 hw
              obtain ⟨x2, hx⟩ : ∃ x, x = gi l (k + k2) := ⟨_, rfl⟩
              obtain ⟨y2, hy⟩ : ∃ y, y = gi l (k + k3) := ⟨_, rfl⟩
              rw [← hx] at p0
              rw [← hy] at q0
              have HX2 : Hid (x2 = gi l (k + k2) ∧ y2 = gi l (k + k2 - 1)) := Lib.hid ⟨hx, by rw [hy, hk3, hgl]⟩
              have e0 : (0 : Int) ≤ (k2 : Int) := by omega
              have e1 : (k2 : Int) < (s : Int) := by omega
              have e2 : (0 : Int) ≤ (k3 : Int) := by omega
              have e3 : (k3 : Int) < (s : Int) := by omega
              have e4 : (0 : Int) ≤ (K : Int) := by omega
              have e5 : (K : Int) < (n : Int) := by omega
              clear hx hy hk3 hgl hs2
              by_cases hxy2 : x2 = y2
              · have d3 : (x2 == y2) = true := by simpa using hxy2
                have HNn : Hid (compTo l (k + (k2 + 1)) = compTo l (k + k2)) := Lib.hid (compTo_old (a := k + k2) (by omega) (by rw [← HX2.out.1, ← HX2.out.2]; exact hxy2))
                go_wp2
                go_quiet (fail)
                have HF3 : Hid (Fx No wr (wr.drewN nq)) := Lib.hid ((Fx.refl No wr).drewN _)
                go_wp2
                go_roundw
                case rel =>
                  refine ⟨K, k2 + 1, rfl, by go_num, by omega, by omega, by omega, by rw [HNn.out]; exact HKl.out, HF2.out.transNo HF3.out, fun j hj => ?_, fun j h1 h2 => HHigh.out j (by omega) h2, HAny.out⟩
                  rw [HNn.out]
                  exact HLow.out j hj
                case measure => simp [intOf]; omega
              · have d3 : (x2 == y2) = false := by simpa using hxy2
                have HNn : Hid (compTo l (k + (k2 + 1)) = compTo l (k + k2) ++ [x2]) := Lib.hid (by rw [HX2.out.1]; exact compTo_new (a := k + k2) (by rw [← HX2.out.1, ← HX2.out.2]; exact hxy2))
                obtain ⟨hs1, hs3⟩ := HAny.out K (by omega)
                obtain ⟨u, hu⟩ := Option.isSome_iff_exists.1 hs1
                clear hs1
                go_wp2
                go_quiet (fail)
                go_wp2
                have HW1 : Hid (∀ j, ¬ K = j → ((wr.drewN nq).setCell ⟨g, K, none⟩ (.int .i64 x2)).cell? ⟨g, j, none⟩ = wr.cell? ⟨g, j, none⟩) := Lib.hid fun j hj => World.cell?_setCell_other _ _ _ _ fun q => hj (by simpa using congrArg Addr.off q)
                have HW2 : Hid (((wr.drewN nq).setCell ⟨g, K, none⟩ (.int .i64 x2)).cell? ⟨g, K, none⟩ = some (.int .i64 x2)) := Lib.hid (World.cell?_setCell_same _ _ _ (u := u) hu)
                have HW3 : Hid (Fx (fun b => b = g) wr ((wr.drewN nq).setCell ⟨g, K, none⟩ (.int .i64 x2))) := Lib.hid (((Fx.refl (fun b => b = g) wr).drewN _).setCell (.inr rfl) _)
                clear hu hs3
                go_roundw
                case rel =>
                  refine ⟨K + 1, k2 + 1, by go_num, by go_num, by omega, by omega, by omega, by rw [HNn.out, List.length_append, ← HKl.out]; rfl, HF2.out.trans HW3.out, fun j hj => ?_, fun j h1 h2 => ?_, fun j hj => ?_⟩
                  · rw [HNn.out]
                    by_cases hjK : K = j
                    · subst hjK
                      rw [HW2.out]
                      have := gi_append_one (a := compTo l (k + k2)) (x := x2)
                      rw [← HKl.out] at this
                      rw [this]
                    · rw [HW1.out j hjK, HLow.out j (by omega), gi_append_left (by rw [← HKl.out]; omega)]
                  · rw [HW1.out j (by omega)]
                    exact HHigh.out j (by omega) h2
                  · refine ⟨?_, ?_⟩
                    · by_cases hjK : K = j
                      · subst hjK; rw [HW2.out]; rfl
                      · rw [HW1.out j hjK]; exact (HAny.out j hj).1
                    · rw [World.frozen?_setCell]
                      exact (HAny.out j hj).2
                case measure => simp [intOf]; omega
            · obtain rfl : k2 = s := by omega
              have hkk : k + k2 = n := by omega
              have HE : Hid (comp l = compTo l (k + k2)) := Lib.hid (by unfold comp; rw [hkk, HN.out])
              have hKn : K < n := by omega
              have hv : ∀ w, (zeroValue 3).run Try.prog w = .ok (.int .i64 0) w := Try.zeroValue3
              have hcl : ∀ ty, (Builtin.clear_ #[23] ty #[.slice (some ⟨g, K, none⟩) (n - K) (cap - K)]).run Try.prog wr = .ok (.tuple #[]) (wr.setCells g K (List.replicate (n - K) (.int .i64 0))) :=
                fun ty => Lib.run_clear_slice wr _ _ ty _ Try.underlying23 hv rfl rfl g _ _ _ (by omega) (fun t ht => (HAny.out (K + t) (by omega)).1) (fun t ht => (HAny.out (K + t) (by omega)).2)
              have b1 : ¬ (cap = K) := by omega
              have b2 : K ≤ n := by omega
              have b3 : K ≤ cap := by omega
              have HR : Hid (RowI (wr.setCells g K (List.replicate (n - K) (.int .i64 0))) B (.slice (some ⟨g, 0, none⟩) K cap) (comp l)) := Lib.hid (by
                rw [HE.out]
                refine ⟨some ⟨g, 0, none⟩, cap, by rw [← HKl.out], by rw [← HKl.out]; omega, hcm, (fun h => by cases h), .inr ⟨g, rfl, hBg, ?_, fun j hj => ?_⟩⟩
                · have h1 := (Fx.cells g (List.replicate (n - K) (.int .i64 0)) K wr).size
                  have h2 := HF2.out.size
                  omega
                · rw [Nat.zero_add, World.frozen?_setCells, World.cell?_setCells_out g _ _ _ _ (fun _ _ => .inl (by show j < K; rw [HKl.out]; exact hj))]
                  rw [← HKl.out] at hj
                  exact ⟨HLow.out j hj, (HAny.out j (by omega)).2⟩)
              have HF3 : Hid (Fx (fun k => B ≤ k) w (wr.setCells g K (List.replicate (n - K) (.int .i64 0)))) := Lib.hid ((HF2.out.trans (Fx.cells g _ K wr)).mono fun k _ hk => by rw [show k = g from hk]; exact hBg)
              clear hs2
              go_wp2
              go_ret
              exact ⟨_, rfl, HF3.out, HR.out⟩
        · have d2 : (x == y) = false := by simpa using hxy
          have HNx : Hid (compTo l (k + 1) = l.take (k + 1)) := Lib.hid (by
            rw [compTo_new (by rw [← HX.out.1, ← HX.out.2]; exact hxy), HK.out, take_gi (by rw [← HN.out]; exact hlt)])
          go_wp2
          go_quiet (fail)
          have HF1 : Hid (Fx No w (wr.drewN nq)) := Lib.hid (HF.out.drewN _)
          go_wp2
          go_roundw
          case rel => exact ⟨k + 1, by go_num, by omega, by omega, HF1.out, HNx⟩
          case measure => simp [intOf]; omega
      · obtain rfl : k = n := by omega
        have HR : Hid (comp l = l) := Lib.hid (by unfold comp; rw [← HN.out, HK.out, HN.out, List.take_length])
        go_wp2
        go_ret
        refine ⟨_, rfl, HF.out.no, ?_⟩
        rw [HR.out]
        have h1 := H.out.keep HF.out (fun _ _ _ h => h)
        rw [← HN.out] at h1
        exact h1
end
#print axioms compact_any
end Go.Proofs.Ytcfajeldkioomaa
