/- Callers of package bits' iterator: from, Next. -/
import Derived.Test.YtfpggeiphbekoaaDoorIter
namespace Go.Proofs.YtfpggeiphbekoaaDoor
open Go.RowKit Go.Shelf
set_option linter.unusedVariables false
attribute [local go_sem] Oper.semAt_some

theorem SetP.bound {w : World} {D : Nat → Prop} {p : Option Addr} {n X : Nat} (h : SetP w D p n X) : SetP w (fun k => D k ∧ k < w.heap.size) p n X :=
  h.imp id fun ⟨b, h1, h2⟩ => ⟨b, h1, h2.bound⟩
theorem TabOk.lt {w : World} (h : TabOk w) : 0 < w.heap.size := World.block_lt_of_cell? w _ (h 0 (by omega))

theorem from_any (p : Option Addr) (i : Int) (w : World) :
    Calls Tryd.prog 69 #[.pointer p, .int .i64 i] w fun e w' => e = .returned (.func (.func 88) #[] #[.pointer (some ⟨w.heap.size + 1, 0, none⟩), .pointer (some ⟨w.heap.size, 0, none⟩)]) ∧
      w' = (w.alloc (.cells #[.pointer p] 82)).alloc (.cells #[.int .i64 i] 3) := by
  go_enter Tryd.func69, Tryd.ntmps69
  go_wp2
  go_ret
  exact ⟨rfl, rfl⟩

/-- numbers as Go's ints -/
def natI (l : List Nat) : List Int := l.map fun k : Nat => (k : Int)
theorem natI_snoc (l : List Nat) (x : Nat) : natI (l ++ [x]) = natI l ++ [(x : Int)] := by simp [natI]
theorem natI_length (l : List Nat) : (natI l).length = l.length := by simp [natI]
theorem info_int' : (Tryd.prog.info? 3).map (fun i => (i.zero, i.size, i.bytes)) = some (some (.int .i64 0), 1, 8) := by kernel_rfl

theorem cell_one (W : World) (e : TypeId) (u : Value) : ∀ j u', [u][j]? = some u' → (W.alloc (.cells #[u] e)).cell? ((⟨W.heap.size, 0, none⟩ : Addr).add j) = some u' := by
  intro j u' hj
  cases j with
  | zero => simp at hj; subst hj; rw [Addr.add_lit]; simp
  | succ j => simp at hj

set_option maxRecDepth 100000 in
set_option maxHeartbeats 1000000 in
/-- slices.AppendSeq onto nil, of a set's iterator -/
theorem appendSeq_any {w : World} {D : Nat → Prop} {p : Option Addr} {N X bi bs : Nat} {i : Int} (hi : i ≤ 9223372036854775807) (h : SetP w D p N X) (hT : TabOk w)
    (ci : w.cell? ⟨bi, 0, none⟩ = some (.int .i64 i)) (zi : w.frozen? ⟨bi, 0, none⟩ = false) (cs : w.cell? ⟨bs, 0, none⟩ = some (.pointer p)) (hne : bi ≠ bs) (hDi : ¬ D bi) (hti : bi ≠ 0) :
    Calls Tryd.prog 87 #[.slice none 0 0, .func (.func 88) #[] #[.pointer (some ⟨bi, 0, none⟩), .pointer (some ⟨bs, 0, none⟩)]] w fun e w' =>
      ∃ v, e = .returned v ∧ Fx (fun k => k = bi) w w' ∧ w'.ownsRow w.heap.size 3 1 v (preX i X N).length (ints (natI (preX i X N))) := by
  obtain ⟨i0, hif, hz, hs, hb⟩ := info_parts info_int'
  have H := Lib.hid h.bound
  have HT := Lib.hid hT
  have hTl := hT.lt
  have hbi := World.block_lt_of_cell? w _ ci
  have hbs := World.block_lt_of_cell? w _ cs
  clear h hT
  refine (callsIn_wide (n := 6)).1 ?_
  refine callsIn_of_wp_marks Tryd.func87 rfl trivial ?_ rfl
  simp only [Tryd.ntmps87, List.size_toArray, List.length_cons, List.length_nil, Nat.reduceAdd, Nat.reduceSub, Array.replicate_succ, Array.replicate_zero, List.push_toArray, List.append_toArray, List.nil_append, List.cons_append]
  gi_wp2_with fail
  refine range_law (gf := 88) (lb := #[.pointer (some ⟨bi, 0, none⟩), .pointer (some ⟨bs, 0, none⟩)]) rfl (enters_of Tryd.func88 (by kernel_rfl) rfl)
    (fun k : Nat => #[.int .i64 (k : Int)]) (fun _ => rfl) (fun pre _ => pre.length ≤ 100000) (fun k => k = bi) (fun k => k = w.heap.size ∨ w.heap.size + 3 ≤ k) (by simp only [World.size_alloc]; omega) (by simp only [World.size_alloc]; omega) (by simp only [World.size_alloc]; omega) (by simp only [World.size_alloc]; omega)
    (fun xs => xs = preX i X N) (fun pre => pre <+: preX i X N ∧ pre ≠ [])
    (fun pre W => ∃ v, Boxed W w.heap.size 37 v ∧ W.ownsRow (w.heap.size + 3) 3 1 v pre.length (ints (natI pre)) ∧ Fx (fun k => k = bi) w W)
    (fun _ _ _ => False)
    ?kI (fun _ _ _ _ h => h.elim) ⟨_, Boxed.new _ _ _, World.ownsRow_nil _ _ _ _, (Fx.refl _ w).alloc _⟩
    (fun x => { tmps := #[.slice none 0 0, .func (.func 88) #[] #[.pointer (some ⟨bi, 0, none⟩), .pointer (some ⟨bs, 0, none⟩)], .pointer (some ⟨w.heap.size, 0, none⟩), undef, .slice none 0 0, .int .i64 x, .func (.func 88) #[] #[.pointer (some ⟨bi, 0, none⟩), .pointer (some ⟨bs, 0, none⟩)], .int .i64 x, undef, undef, undef, undef, undef], defers := [] })
    ?assign ?body ?hit ?done ?stop
  case kI =>
    rintro s A B ⟨v, h1, h2, h3⟩ hf
    refine ⟨v, hf.at_ h1 (by simp; omega), ownsRow_fx h2 hf (fun k hk => ?_), h3.trans' hf ?_⟩
    · have := (World.ownsRow.lt h2 k hk).1
      simp; omega
    · rintro j (rfl | rfl) hj
      · rfl
      · simp at hj; omega
  case assign =>
    intro x W K hK
    gi_wp2
    exact hK
  case body =>
    rintro pre x W hG ⟨v, h1, h2, h3⟩ hsz
    have hv := h1.cell
    have hvf := h1.frozen
    simp only [World.size_alloc] at hsz
    have HO := Lib.hid h2
    have HF := Lib.hid h3
    have HB := Lib.hid h1
    clear h1 h2 h3
    gi_wp2_with (gi_at_builtin; refine wpListIn_append_own _ rfl _ _ 37 rfl (w.heap.size + 3) 3 i0 _ 1 8 Tryd.underlying37 hif hz hs hb rfl (by decide) _ _ _ rfl (World.ownsRow.alloc HO.out _) ⟨W.heap.size, 0, none⟩ 1 1 [.int .i64 (x : Int)] rfl rfl (cell_one _ _ _) (by simp [Value.oneCell']) (by unfold maxLen; omega) (by omega) (by simp; omega) ?_)
    intro v1 w1 hown1 hg1 _
    obtain ⟨g, gcap, rfl⟩ := ownsRow_succ hown1
    have hf1 : Fx (fun k => v.ownBlock = some k) (W.alloc (.cells #[.int .i64 (x : Int)] 3)) w1 := Fx.ofGrown hg1 fun k hk _ => hk
    have hnb : v.ownBlock ≠ some w.heap.size := fun e => by have := (World.ownsRow.lt HO.out _ e).1; omega
    have hb1 := hf1.at_ (HB.out.alloc (.cells #[.int .i64 (x : Int)] 3)) hnb
    have hb2 : Boxed w1 w.heap.size 37 v := hb1
    have hv2 := hb2.cell
    have hvf2 := hb2.frozen
    have HO1 := Lib.hid hown1
    have HF1 := Lib.hid hf1
    have HB1 := Lib.hid hb2
    have hs1 := hf1.size
    simp only [World.size_alloc] at hs1
    clear hown1 hg1 hf1 hb1 hb2 hnb hv hvf
    gi_wp2
    refine ⟨?_, _, HB1.out.set _, ?_, ?_⟩
    · exact ((((Fx.refl _ W).alloc _).trans' HF1.out (by rintro j hj _; exact .inr (World.ownsRow.lt HO.out _ hj).1)).setCell (.inr (.inl rfl)) _)
    · have := ownsRow_setCell_below (a := ⟨w.heap.size, 0, none⟩) HO1.out (by simp) (.slice (some ⟨g, 0, none⟩) (pre.length + 1) gcap)
      simpa [natI, ints] using this
    · exact (HF.out.trans' (((Fx.refl No W).alloc _)) (by rintro j hj; exact hj.elim)).trans' (T := fun k => w.heap.size ≤ k) ((HF1.out.mono (by rintro j _ hj; have := (World.ownsRow.lt HO.out _ hj).1; simp; omega)).setCell (.inr (by simp)) _) (by rintro j hj hlt; have : w.heap.size ≤ j := hj; omega)
  case hit =>
    intro W J Jx hf hsz hJ hJx hR hJ0
    have hf' := ((Fx.refl No w).alloc (.cells #[.slice none 0 0] 37)).trans hf
    simp only [World.size_alloc] at hR ⊢
    refine from1_iter (Bd := fun k => k = w.heap.size ∨ w.heap.size + 3 ≤ k) hi (hf'.cell' ci (fun h => h)) (hf'.cellF ci zi (fun h => h)).2 (hf'.cell' cs (fun h => h)) (H.out.keep hf' No.disj) (HT.out.keep hf' (fun h => h))
      hne (fun h => hDi h.1) hti ⟨by omega, by omega⟩ ⟨by omega, by omega⟩ (by rintro k ⟨_, hk⟩; exact ⟨by omega, by omega⟩) ⟨by omega, by omega⟩ hJ hR hJ0
  case done =>
    rintro xs W rfl ⟨v, h1, h2, h3⟩ hK
    have hv := h1.cell
    have HO := Lib.hid h2
    have HF := Lib.hid h3
    have hlt := h1.lt
    clear h1 h2 h3
    simp only [World.size_alloc] at hK
    gi_wp2
    refine ⟨by simp, .inl ⟨_, _, rfl, run_takeDeferred (by simpa using hK), ?_⟩⟩
    refine ⟨v, by simp [results, Tryd.results87, go_sem], _, rfl, ?_, ?_⟩
    · refine HF.out.trans' (Fx.putObj (S := fun k => k = w.heap.size + 1) W _ _ (by simp)) ?_
      rintro j rfl hj; omega
    · refine ownsRow_base (ownsRow_fx HO.out (Fx.putObj (S := fun k => k = w.heap.size + 1) W _ _ (by simp)) ?_) (by omega)
      intro k hk
      have := (World.ownsRow.lt HO.out k hk).1
      simp; omega
  case stop =>
    rintro c pre W _ h _
    exact h.elim
#print axioms appendSeq_any
end Go.Proofs.YtfpggeiphbekoaaDoor
