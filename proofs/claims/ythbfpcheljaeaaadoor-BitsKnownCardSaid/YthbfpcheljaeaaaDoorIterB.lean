/- Callers of package bits' iterator: from, Next. -/
import Derived.Test.YthbfpcheljaeaaaDoorIter
namespace Go.Proofs.YthbfpcheljaeaaaDoor
open Go.RowKit Go.Shelf
set_option linter.unusedVariables false
attribute [local go_sem] Oper.semAt_some

theorem SetP.bound {w : World} {D : Nat → Prop} {p : Option Addr} {n X : Nat} (h : SetP w D p n X) : SetP w (fun k => D k ∧ k < w.heap.size) p n X :=
  h.imp id fun ⟨b, h1, h2⟩ => ⟨b, h1, h2.bound⟩
theorem TabOk.lt {w : World} (h : TabOk w) : 0 < w.heap.size := World.block_lt_of_cell? w _ (h 0 (by omega))

theorem from_any (p : Option Addr) (i : Int) (w : World) :
    Calls Tryd.prog 35 #[.pointer p, .int .i64 i] w fun e w' => e = .returned (.func (.func 50) #[] #[.pointer (some ⟨w.heap.size + 1, 0, none⟩), .pointer (some ⟨w.heap.size, 0, none⟩)]) ∧
      w' = (w.alloc (.cells #[.pointer p] 24)).alloc (.cells #[.int .i64 i] 3) := by
  go_enter Tryd.func35, Tryd.ntmps35
  go_wp2
  go_ret
  exact ⟨rfl, rfl⟩

set_option maxRecDepth 100000 in
set_option maxHeartbeats 1000000 in
theorem next_any {w : World} {D : Nat → Prop} {p : Option Addr} {N X : Nat} (h : SetP w D p N X) (hT : TabOk w) (i : Int) (hi : i ≤ 9223372036854775807) :
    Calls Tryd.prog 16 #[.pointer p, .int .i64 i] w fun e w' => e = .returned (.tuple #[.int .i64 (nextN N X i), .bool (nextB N X i)]) ∧ Fx No w w' := by
  have H := Lib.hid h.bound
  have HT := Lib.hid hT
  have HTl := Lib.hid hT.lt
  clear h hT
  refine (callsIn_wide (n := 6)).1 ?_
  refine callsIn_of_wp_marks Tryd.func16 rfl trivial ?_ rfl
  simp only [Tryd.ntmps16, List.size_toArray, List.length_cons, List.length_nil, Nat.reduceAdd, Nat.reduceSub, Array.replicate_succ, Array.replicate_zero, List.push_toArray, List.append_toArray, List.nil_append, List.cons_append]
  gi_wp2_with fail
  refine ⟨trivial, (callsIn_wide.2 (from_any p i _)).mono ?_⟩
  rintro e w' ⟨rfl, rfl⟩
  simp only [World.size_alloc]
  obtain ⟨w4, hw4⟩ : ∃ w4, (((w.alloc (.cells #[.int .i64 0] 3)).alloc (.cells #[.bool false] 4)).alloc (.cells #[.pointer p] 24)).alloc (.cells #[.int .i64 i] 3) = w4 := ⟨_, rfl⟩
  have hs4 : w4.heap.size = w.heap.size + 4 := by rw [← hw4]; simp
  have hf4 : Fx No w w4 := by rw [← hw4]; exact ((((Fx.refl No w).alloc _).alloc _).alloc _).alloc _
  have c0 : w4.cell? ⟨w.heap.size, 0, none⟩ = some (.int .i64 0) ∧ w4.frozen? ⟨w.heap.size, 0, none⟩ = false := by rw [← hw4]; clear hw4 hf4 hs4; constructor <;> go_simp
  have c1 : w4.cell? ⟨w.heap.size + 1, 0, none⟩ = some (.bool false) ∧ w4.frozen? ⟨w.heap.size + 1, 0, none⟩ = false := by rw [← hw4]; clear hw4 hf4 hs4; constructor <;> go_simp
  have c2 : w4.cell? ⟨w.heap.size + 2, 0, none⟩ = some (.pointer p) ∧ w4.frozen? ⟨w.heap.size + 2, 0, none⟩ = false := by rw [← hw4]; clear hw4 hf4 hs4; constructor <;> go_simp
  have c3 : w4.cell? ⟨w.heap.size + 3, 0, none⟩ = some (.int .i64 i) ∧ w4.frozen? ⟨w.heap.size + 3, 0, none⟩ = false := by rw [← hw4]; clear hw4 hf4 hs4; constructor <;> go_simp
  rw [hw4]
  clear hw4
  gi_wp2_with fail
  refine range_law (gf := 50) (lb := #[.pointer (some ⟨w.heap.size + 3, 0, none⟩), .pointer (some ⟨w.heap.size + 2, 0, none⟩)]) rfl (enters_of Tryd.func50 (by kernel_rfl) rfl)
    (fun k : Nat => #[.int .i64 (k : Int)]) (fun _ => rfl) (fun pre _ => pre.length ≤ 100000) (fun k => k = w.heap.size + 3) (fun k => k = w.heap.size ∨ k = w.heap.size + 1) (by omega) (by omega) (by omega) (by omega)
    (fun xs => xs = preX i X N) (fun pre => pre <+: preX i X N ∧ pre ≠ [])
    (fun pre W => pre = [] ∧ (W.cell? ⟨w.heap.size, 0, none⟩ = some (.int .i64 0) ∧ W.frozen? ⟨w.heap.size, 0, none⟩ = false) ∧ (W.cell? ⟨w.heap.size + 1, 0, none⟩ = some (.bool false) ∧ W.frozen? ⟨w.heap.size + 1, 0, none⟩ = false) ∧ Fx No w W)
    (fun c pre W => c = .ret ∧ ∃ x : Nat, pre = [x] ∧ W.cell? ⟨w.heap.size, 0, none⟩ = some (.int .i64 x) ∧ W.cell? ⟨w.heap.size + 1, 0, none⟩ = some (.bool true) ∧ Fx No w W)
    ?kI ?kX ⟨rfl, c0, c1, hf4⟩
    (fun x => { tmps := #[.pointer p, .int .i64 i, undef, undef, .pointer (some ⟨w.heap.size, 0, none⟩), .pointer (some ⟨w.heap.size + 1, 0, none⟩), .int .i64 x, .pointer p, .int .i64 i, .func (.func 50) #[] #[.pointer (some ⟨w.heap.size + 3, 0, none⟩), .pointer (some ⟨w.heap.size + 2, 0, none⟩)], .int .i64 x, undef], defers := [] })
    ?assign ?body ?hit ?done ?stop
  case kI =>
    rintro s A B ⟨h1, h2, h3, h4⟩ hf
    exact ⟨h1, hf.cellF h2.1 h2.2 (by simp; omega), hf.cellF h3.1 h3.2 (by simp; omega), h4.trans' hf (by rintro j (rfl | rfl) hj <;> omega)⟩
  case kX =>
    rintro c s A B ⟨h1, x, h2, h3, h4, h5⟩ hf
    exact ⟨h1, x, h2, hf.cell' h3 (by simp; omega), hf.cell' h4 (by simp; omega), h5.trans' hf (by rintro j (rfl | rfl) hj <;> omega)⟩
  case assign =>
    intro x W K hK
    gi_wp2
    exact hK
  case body =>
    rintro pre x W _ ⟨rfl, ⟨h1, h2⟩, ⟨h3, h4⟩, h5⟩ hsz
    have HF := Lib.hid h5
    clear h5
    gi_wp2
    refine ⟨((Fx.refl _ _).setCell (.inr (.inl rfl)) _).setCell (.inr (.inr rfl)) _, rfl, x, rfl, ?_, ?_, (HF.out.setCell (.inl (by simp)) _).setCell (.inl (by simp)) _⟩
    · rw [World.cell?_setCell_other _ _ _ _ (addr_ne (by simp))]; exact World.cell?_setCell_same _ _ _ h1
    · exact World.cell?_setCell_same _ _ _ (by rw [World.cell?_setCell_other _ _ _ _ (addr_ne (by simp))]; exact h3)
  case hit =>
    intro W J Jx hf hsz hJ hJx hR hJ0
    have hlt := HTl.out
    refine from1_iter (Bd := fun k => k = w.heap.size ∨ k = w.heap.size + 1) hi (hf.cell' c3.1 (fun h => h)) (hf.cellF c3.1 c3.2 (fun h => h)).2 (hf.cell' c2.1 (fun h => h)) (H.out.keep (hf4.trans hf) No.disj) (HT.out.keep (hf4.trans hf) (fun h => h))
      (by omega) (by simp) (by omega) ⟨by omega, by omega⟩ ⟨by omega, by omega⟩ (by rintro k ⟨_, hk⟩; exact ⟨by omega, by omega⟩) ⟨by omega, by omega⟩ hJ hR hJ0
  case done =>
    rintro xs W rfl ⟨h1, h2, h3, h4⟩ hK
    have HN : Hid (nextX N X i = none) := by show nextX N X i = none; rw [nextX_preX, h1]; rfl
    have HF := Lib.hid h4
    have hz := World.cell?_setCell_other (W.setCell ⟨w.heap.size, 0, none⟩ (.int .i64 0)) ⟨w.heap.size + 1, 0, none⟩ ⟨w.heap.size, 0, none⟩ (.bool false) (addr_ne (by simp))
    rw [World.cell?_setCell_same _ _ _ h2.1] at hz
    have hz2 := World.cell?_setCell_same (W.setCell ⟨w.heap.size, 0, none⟩ (.int .i64 0)) ⟨w.heap.size + 1, 0, none⟩ (.bool false) (u := .bool false) (by rw [World.cell?_setCell_other _ _ _ _ (addr_ne (by simp))]; exact h3.1)
    have HZ := Lib.hid hz
    have HZ2 := Lib.hid hz2
    have HK := Lib.hid hK
    obtain ⟨h2a, h2b⟩ := h2
    obtain ⟨h3a, h3b⟩ := h3
    clear h1 h4 hz hz2 hK
    gi_wp2
    have hD : ((W.setCell ⟨w.heap.size, 0, none⟩ (.int .i64 0)).setCell ⟨w.heap.size + 1, 0, none⟩ (.bool false)).heap[w4.heap.size]? = some (.deferred (some [])) := by
      rw [Below.heap_setCell _ _ _ _ (by simp; omega), Below.heap_setCell _ _ _ _ (by simp; omega)]; exact HK.out
    refine ⟨by simp, .inl ⟨_, _, rfl, run_takeDeferred hD, ?_⟩⟩
    have hp := Fx.putObj (S := fun k => k = w4.heap.size) ((W.setCell ⟨w.heap.size, 0, none⟩ (.int .i64 0)).setCell ⟨w.heap.size + 1, 0, none⟩ (.bool false)) w4.heap.size (.deferred none) rfl
    have r1 := hp.cell' HZ.out (by simp; omega)
    have r2 := hp.cell' HZ2.out (by simp; omega)
    refine ⟨.tuple #[.int .i64 0, .bool false], by simp [results, Tryd.results16, go_sem, r1, r2], ?_⟩
    refine ⟨by simp only [nextN, nextB, HN.out]; rfl, ?_⟩
    exact ((HF.out.setCell (.inl (by simp)) _).setCell (.inl (by simp)) _).trans' hp (by rintro j rfl hj; omega)
  case stop =>
    rintro c pre W ⟨hp, _⟩ ⟨rfl, x, rfl, h1, h2, h3⟩ hK
    have HN : Hid (nextX N X i = some x) := by
      show nextX N X i = some x
      rw [nextX_preX]
      obtain ⟨t, ht⟩ := hp
      rw [← ht]; rfl
    have HF := Lib.hid h3
    clear hp h3
    gi_wp2
    refine ⟨by simp, .inl ⟨_, _, rfl, run_takeDeferred hK, ?_⟩⟩
    have hp := Fx.putObj (S := fun k => k = w4.heap.size) W w4.heap.size (.deferred none) rfl
    have r1 := hp.cell' h1 (by simp; omega)
    have r2 := hp.cell' h2 (by simp; omega)
    refine ⟨.tuple #[.int .i64 x, .bool true], by simp [results, Tryd.results16, go_sem, r1, r2], ?_⟩
    refine ⟨by simp only [nextN, nextB, HN.out]; rfl, ?_⟩
    exact HF.out.trans' hp (by rintro j rfl hj; omega)
/-- numbers as Go's ints -/
def natI (l : List Nat) : List Int := l.map fun k : Nat => (k : Int)
theorem natI_snoc (l : List Nat) (x : Nat) : natI (l ++ [x]) = natI l ++ [(x : Int)] := by simp [natI]
theorem natI_length (l : List Nat) : (natI l).length = l.length := by simp [natI]
theorem info_int' : (Tryd.prog.info? 3).map (fun i => (i.zero, i.size, i.bytes)) = some (some (.int .i64 0), 1, 8) := by kernel_rfl

theorem cell_one (W : World) (e : TypeId) (u : Value) : ∀ j u', [u][j]? = some u' → (W.alloc (.cells #[u] e)).cell? ((⟨W.heap.size, 0, none⟩ : Addr).add j) = some u' := by
  intro j u' hj
  cases j with
  | zero => simp at hj; subst hj; rw [Addr.add_lit]; simp
  | succ j => simp at hj

set_option maxRecDepth 100000 in
set_option maxHeartbeats 1000000 in
/-- slices.AppendSeq onto nil, of a set's iterator -/
theorem appendSeq_any {w : World} {D : Nat → Prop} {p : Option Addr} {N X bi bs : Nat} {i : Int} (hi : i ≤ 9223372036854775807) (h : SetP w D p N X) (hT : TabOk w)
    (ci : w.cell? ⟨bi, 0, none⟩ = some (.int .i64 i)) (zi : w.frozen? ⟨bi, 0, none⟩ = false) (cs : w.cell? ⟨bs, 0, none⟩ = some (.pointer p)) (hne : bi ≠ bs) (hDi : ¬ D bi) (hti : bi ≠ 0) :
    Calls Tryd.prog 52 #[.slice none 0 0, .func (.func 50) #[] #[.pointer (some ⟨bi, 0, none⟩), .pointer (some ⟨bs, 0, none⟩)]] w fun e w' =>
      ∃ v, e = .returned v ∧ Fx (fun k => k = bi) w w' ∧ w'.ownsRow w.heap.size 3 1 v (preX i X N).length (ints (natI (preX i X N))) := by
  obtain ⟨i0, hif, hz, hs, hb⟩ := info_parts info_int'
  have H := Lib.hid h.bound
  have HT := Lib.hid hT
  have hTl := hT.lt
  have hbi := World.block_lt_of_cell? w _ ci
  have hbs := World.block_lt_of_cell? w _ cs
  clear h hT
  refine (callsIn_wide (n := 6)).1 ?_
  refine callsIn_of_wp_marks Tryd.func52 rfl trivial ?_ rfl
  simp only [Tryd.ntmps52, List.size_toArray, List.length_cons, List.length_nil, Nat.reduceAdd, Nat.reduceSub, Array.replicate_succ, Array.replicate_zero, List.push_toArray, List.append_toArray, List.nil_append, List.cons_append]
  gi_wp2_with fail
  refine range_law (gf := 50) (lb := #[.pointer (some ⟨bi, 0, none⟩), .pointer (some ⟨bs, 0, none⟩)]) rfl (enters_of Tryd.func50 (by kernel_rfl) rfl)
    (fun k : Nat => #[.int .i64 (k : Int)]) (fun _ => rfl) (fun pre _ => pre.length ≤ 100000) (fun k => k = bi) (fun k => k = w.heap.size ∨ w.heap.size + 3 ≤ k) (by simp only [World.size_alloc]; omega) (by simp only [World.size_alloc]; omega) (by simp only [World.size_alloc]; omega) (by simp only [World.size_alloc]; omega)
    (fun xs => xs = preX i X N) (fun pre => pre <+: preX i X N ∧ pre ≠ [])
    (fun pre W => ∃ v, Boxed W w.heap.size 22 v ∧ W.ownsRow (w.heap.size + 3) 3 1 v pre.length (ints (natI pre)) ∧ Fx (fun k => k = bi) w W)
    (fun _ _ _ => False)
    ?kI (fun _ _ _ _ h => h.elim) ⟨_, Boxed.new _ _ _, World.ownsRow_nil _ _ _ _, (Fx.refl _ w).alloc _⟩
    (fun x => { tmps := #[.slice none 0 0, .func (.func 50) #[] #[.pointer (some ⟨bi, 0, none⟩), .pointer (some ⟨bs, 0, none⟩)], .pointer (some ⟨w.heap.size, 0, none⟩), undef, .slice none 0 0, .int .i64 x, .func (.func 50) #[] #[.pointer (some ⟨bi, 0, none⟩), .pointer (some ⟨bs, 0, none⟩)], .int .i64 x, undef, undef, undef, undef, undef], defers := [] })
    ?assign ?body ?hit ?done ?stop
  case kI =>
    rintro s A B ⟨v, h1, h2, h3⟩ hf
    refine ⟨v, hf.at_ h1 (by simp; omega), ownsRow_fx h2 hf (fun k hk => ?_), h3.trans' hf ?_⟩
    · have := (World.ownsRow.lt h2 k hk).1
      simp; omega
    · rintro j (rfl | rfl) hj
      · rfl
      · simp at hj; omega
  case assign =>
    intro x W K hK
    gi_wp2
    exact hK
  case body =>
    rintro pre x W hG ⟨v, h1, h2, h3⟩ hsz
    have hv := h1.cell
    have hvf := h1.frozen
    simp only [World.size_alloc] at hsz
    have HO := Lib.hid h2
    have HF := Lib.hid h3
    have HB := Lib.hid h1
    clear h1 h2 h3
    gi_wp2_with (gi_at_builtin; refine wpListIn_append_own _ rfl _ _ 22 rfl (w.heap.size + 3) 3 i0 _ 1 8 Tryd.underlying22 hif hz hs hb rfl (by decide) _ _ _ rfl (World.ownsRow.alloc HO.out _) ⟨W.heap.size, 0, none⟩ 1 1 [.int .i64 (x : Int)] rfl rfl (cell_one _ _ _) (by simp [Value.oneCell']) (by unfold maxLen; omega) (by omega) (by simp; omega) ?_)
    intro v1 w1 hown1 hg1 _
    obtain ⟨g, gcap, rfl⟩ := ownsRow_succ hown1
    have hf1 : Fx (fun k => v.ownBlock = some k) (W.alloc (.cells #[.int .i64 (x : Int)] 3)) w1 := Fx.ofGrown hg1 fun k hk _ => hk
    have hnb : v.ownBlock ≠ some w.heap.size := fun e => by have := (World.ownsRow.lt HO.out _ e).1; omega
    have hb1 := hf1.at_ (HB.out.alloc (.cells #[.int .i64 (x : Int)] 3)) hnb
    have hb2 : Boxed w1 w.heap.size 22 v := hb1
    have hv2 := hb2.cell
    have hvf2 := hb2.frozen
    have HO1 := Lib.hid hown1
    have HF1 := Lib.hid hf1
    have HB1 := Lib.hid hb2
    have hs1 := hf1.size
    simp only [World.size_alloc] at hs1
    clear hown1 hg1 hf1 hb1 hb2 hnb hv hvf
    gi_wp2
    refine ⟨?_, _, HB1.out.set _, ?_, ?_⟩
    · exact ((((Fx.refl _ W).alloc _).trans' HF1.out (by rintro j hj _; exact .inr (World.ownsRow.lt HO.out _ hj).1)).setCell (.inr (.inl rfl)) _)
    · have := ownsRow_setCell_below (a := ⟨w.heap.size, 0, none⟩) HO1.out (by simp) (.slice (some ⟨g, 0, none⟩) (pre.length + 1) gcap)
      simpa [natI, ints] using this
    · exact (HF.out.trans' (((Fx.refl No W).alloc _)) (by rintro j hj; exact hj.elim)).trans' (T := fun k => w.heap.size ≤ k) ((HF1.out.mono (by rintro j _ hj; have := (World.ownsRow.lt HO.out _ hj).1; simp; omega)).setCell (.inr (by simp)) _) (by rintro j hj hlt; have : w.heap.size ≤ j := hj; omega)
  case hit =>
    intro W J Jx hf hsz hJ hJx hR hJ0
    have hf' := ((Fx.refl No w).alloc (.cells #[.slice none 0 0] 22)).trans hf
    simp only [World.size_alloc] at hR ⊢
    refine from1_iter (Bd := fun k => k = w.heap.size ∨ w.heap.size + 3 ≤ k) hi (hf'.cell' ci (fun h => h)) (hf'.cellF ci zi (fun h => h)).2 (hf'.cell' cs (fun h => h)) (H.out.keep hf' No.disj) (HT.out.keep hf' (fun h => h))
      hne (fun h => hDi h.1) hti ⟨by omega, by omega⟩ ⟨by omega, by omega⟩ (by rintro k ⟨_, hk⟩; exact ⟨by omega, by omega⟩) ⟨by omega, by omega⟩ hJ hR hJ0
  case done =>
    rintro xs W rfl ⟨v, h1, h2, h3⟩ hK
    have hv := h1.cell
    have HO := Lib.hid h2
    have HF := Lib.hid h3
    have hlt := h1.lt
    clear h1 h2 h3
    simp only [World.size_alloc] at hK
    gi_wp2
    refine ⟨by simp, .inl ⟨_, _, rfl, run_takeDeferred (by simpa using hK), ?_⟩⟩
    refine ⟨v, by simp [results, Tryd.results52, go_sem], _, rfl, ?_, ?_⟩
    · refine HF.out.trans' (Fx.putObj (S := fun k => k = w.heap.size + 1) W _ _ (by simp)) ?_
      rintro j rfl hj; omega
    · refine ownsRow_base (ownsRow_fx HO.out (Fx.putObj (S := fun k => k = w.heap.size + 1) W _ _ (by simp)) ?_) (by omega)
      intro k hk
      have := (World.ownsRow.lt HO.out k hk).1
      simp; omega
  case stop =>
    rintro c pre W _ h _
    exact h.elim
#print axioms next_any
#print axioms appendSeq_any
end Go.Proofs.YthbfpcheljaeaaaDoor
