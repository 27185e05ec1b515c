/- Contract: fill. -/
import Derived.Test.YtddpdjbgidmdlaaWalkC
import Derived.Sort.LoopGhostIn
import Derived.WalkMore
namespace Go.Proofs.Ytddpdjbgidmdlaa
open Go.RowKit Go.Shelf
set_option linter.unusedVariables false
attribute [local go_sem] Oper.semAt_some

/-- marks of ranges over functions that lie behind -/
theorem WalkP.lt {w : World} {k : WK} {v : Value} {row : List Int} {any begun : Bool} {A : Nat → Int} (h : WalkP w k v row any begun A) : ∀ b, Sx k v b ∨ k.D b → b < w.heap.size := by
  rintro b ((rfl | rfl | rfl | hb) | hb)
  · exact h.blt.1
  · exact h.blt.2.1
  · exact h.blt.2.2
  · exact (OwnI.lt h.own hb).2
  · exact h.dlt b hb
def marks (rs : List Nat) : List Deferred := rs.map fun r => { target := .collected r, args := #[] }
theorem marks_leave {F : Fence} {n : Nat} {P : Program} {fn : Func} {tmps : Array Value} {R : Ending → World → Prop} :
    ∀ (rs : List Nat) (w : World), rs.Nodup → (∀ r ∈ rs, w.heap[r]? = some (.deferred (some []))) → (∀ w', Fx (fun b => b ∈ rs) w w' → ∃ v, (results fn tmps).run P w' = .ok v w' ∧ R (.returned v) w') → LeavesInM F n P fn tmps R (marks rs) .returning w
  | [], w, _, _, h => h w (Fx.refl _ _)
  | r :: rs, w, hn, hm, h => by
    have hn' := List.nodup_cons.1 hn
    refine ⟨by simp, .inl ⟨r, _, rfl, run_takeDeferred (hm r (by simp)), marks_leave rs _ hn'.2 (fun s hs => ?_) fun w' hf => h w' ?_⟩⟩
    · rw [World.putObj_heap_other (by intro e; subst e; exact hn'.1 hs)]
      exact hm s (by simp [hs])
    · exact (Fx.putObj (S := fun b => b ∈ r :: rs) w r _ (by simp)).trans (hf.mono fun b _ hb => by simp [hb])
theorem wpIn_scope_wide {n : Nat} {P : Program} {c : Code} {Q : Exit → Act → World → Prop} {a : Act} {w : World} (h : c.wpIn Fence.wide n P (Exit.noGoto Q) a w) : (Code.scope c).wpIn Fence.wide n P Q a w :=
  wpIn_wide.2 (wp_scope_straight (wpIn_wide.1 h))
set_option maxRecDepth 100000 in
set_option maxHeartbeats 2000000 in
theorem fill_any {w : World} {k : WK} {v : Value} {row : List Int} {any begun : Bool} (h : WalkS w k v row any begun) :
    Calls Try.prog 33 #[.pointer (some ⟨k.wk, 0, none⟩)] w fun e w' => e = .returned (.tuple #[]) ∧ Fx (Sx k v) w w' ∧ ∃ v', WalkS w' k v' (fillP k.ps k.n row) any begun ∧ (∀ g, v'.ownBlock = some g → v.ownBlock = some g ∨ w.heap.size ≤ g) := by
  have H := Lib.hid h
  have hle := h.le
  have hnl := h.rel.nle
  clear h
  refine (callsIn_wide (n := 6)).1 ?_
  refine callsIn_of_wp_marks Try.func33 rfl trivial ?_ rfl
  simp only [Try.ntmps33, List.size_toArray, List.length_cons, List.length_nil, Nat.reduceAdd, Nat.reduceSub, Array.replicate_succ, Array.replicate_zero, List.push_toArray, List.append_toArray, List.nil_append, List.cons_append]
  gi_wp2_with fail
  refine wpIn_scope_wide (wpIn_seq (wpIn_label ?_))
  refine wpIn_block ?_
  have hf0 : Fx No w (w.alloc (.cells #[.pointer (some ⟨k.wk, 0, none⟩)] 24)) := (Fx.refl No w).alloc _
  have hsz0 : (w.alloc (.cells #[.pointer (some ⟨k.wk, 0, none⟩)] 24)).heap.size = w.heap.size + 1 := by simp
  have hbx : (w.alloc (.cells #[.pointer (some ⟨k.wk, 0, none⟩)] 24)).cell? ⟨w.heap.size, 0, none⟩ = some (.pointer (some ⟨k.wk, 0, none⟩)) := by simp
  generalize (w.alloc (.cells #[.pointer (some ⟨k.wk, 0, none⟩)] 24)) = w0 at hf0 hsz0 hbx ⊢
  have HF0 := Lib.hid hf0
  have HZ0 := Lib.hid hsz0
  have HBx := Lib.hid hbx
  clear hf0 hsz0 hbx
  refine wpIn_loop_ghost (fun m a W => ∃ (rs : List Nat) (row' : List Int) (v' x2 x3 x4 x5 x6 x7 x8 : Value), a = { tmps := #[.pointer (some ⟨k.wk, 0, none⟩), .pointer (some ⟨w.heap.size, 0, none⟩), x2, x3, x4, x5, x6, x7, x8], defers := marks rs } ∧
      rs.Nodup ∧ (∀ r ∈ rs, w.heap.size < r ∧ W.heap[r]? = some (.deferred (some []))) ∧ W.cell? ⟨w.heap.size, 0, none⟩ = some (.pointer (some ⟨k.wk, 0, none⟩)) ∧
      WalkS W k v' row' any begun ∧ Fx (Sx k v) w W ∧ (∀ g, v'.ownBlock = some g → v.ownBlock = some g ∨ (w.heap.size < g ∧ ∀ r ∈ rs, r ≠ g)) ∧ fillF k.ps k.n (m + 1) row' = fillP k.ps k.n row ∧ row'.length + m = k.n) (k.n - row.length) ?start ?round
  case start =>
    exact ⟨[], row, v, _, _, _, _, _, _, _, rfl, List.nodup_nil, fun r hr => by simp at hr, HBx.out, H.out.no HF0.out, HF0.out.no, fun g e => .inl e, rfl, by omega⟩
  case round =>
    rintro m a W ⟨rs, row', v', x2, x3, x4, x5, x6, x7, x8, rfl, hnd, hmk, hbx, hW, hf, hb, hfill, hm⟩
    have HNd := Lib.hid hnd
    have HMk := Lib.hid hmk
    have HW := Lib.hid hW
    have HF := Lib.hid hf
    have HB := Lib.hid hb
    have HFill := Lib.hid hfill
    have HM := Lib.hid hm
    have hwz := hf.size
    have hlt0 := World.block_lt_of_cell? W _ hbx
    clear hnd hmk hW hf hb hfill hm
    gi_wp2_with fail
    refine ⟨trivial, (callsIn_wide.2 (may_any ⟨k.wk, 0, none⟩ 0 _)).mono ?_⟩
    rintro e w' ⟨rfl, rfl⟩
    obtain ⟨W2, hW2⟩ : ∃ W2, (W.alloc (.cells #[.pointer (some ⟨k.wk, 0, none⟩)] 24)).alloc (.cells #[.int .i64 0] 3) = W2 := ⟨_, rfl⟩
    have hs2 : W2.heap.size = W.heap.size + 2 := by rw [← hW2]; simp
    have hf2 : Fx No W W2 := by rw [← hW2]; exact ((Fx.refl No W).alloc _).alloc _
    have d1 : W2.cell? ⟨W.heap.size, 0, none⟩ = some (.pointer (some ⟨k.wk, 0, none⟩)) := by rw [← hW2]; clear hW2 hf2 hs2; go_simp
    have d2 : W2.cell? ⟨W.heap.size + 1, 0, none⟩ = some (.int .i64 0) := by rw [← hW2]; clear hW2 hf2 hs2; go_simp
    rw [hW2]
    clear hW2
    have HW2 := Lib.hid (HW.out.no hf2)
    have hbx2 := hf2.cell' hbx (fun h => h)
    have HMk2 : Hid (∀ r ∈ rs, W2.heap[r]? = some (.deferred (some []))) := fun r hr => hf2.at_ (HMk.out r hr).2 (fun h => h)
    have HMl : Hid (∀ r ∈ rs, r < W2.heap.size) := fun r hr => (Array.getElem?_eq_some_iff.1 (HMk2.out r hr)).1
    have HLt := Lib.hid HW2.out.lt
    have HF2 := Lib.hid hf2
    have HLtW := Lib.hid HW.out.lt
    have hnb : ∀ b, W2.heap.size ≤ b → ¬ Sx k v' b := fun b h1 h2 => by have := HLt.out b (.inl h2); omega
    have HNb := Lib.hid hnb
    have hbxs : ¬ Sx k v' w.heap.size := fun h => by
      rcases h with h | h | h | h
      · have := (HF.out); have h3 := H.out.blt.1; omega
      · have h3 := H.out.blt.2.1; omega
      · have h3 := H.out.blt.2.2; omega
      · rcases HB.out _ h with h | h
        · have := (OwnI.lt H.out.own h).2; omega
        · omega
    have HBxs := Lib.hid hbxs
    clear hf2 hnb hbxs
    gi_wp2_with fail
    refine range_law2 (gf := 47) (lb := #[.pointer (some ⟨W.heap.size + 1, 0, none⟩), .pointer (some ⟨W.heap.size, 0, none⟩)]) rfl (enters_of Try.func47 (by kernel_rfl) rfl)
      (fun k : Nat => #[.int .i64 (k : Int)]) (fun _ => rfl) (fun pre x => pre ++ [x] <+: candTo k.ps row' 0 k.n) No No (Sx k v') (fun h => h) (fun h => h) (HNb.out _ (by omega)) (HNb.out _ (by omega)) (fun h => h) (fun h => h)
      (fun xs => xs = candTo k.ps row' 0 k.n) (fun pre => pre <+: candTo k.ps row' 0 k.n ∧ pre ≠ [])
      (fun pre W' => pre = [] ∧ WalkS W' k v' row' any begun ∧ Fx No W2 W')
      (fun c pre W' => c = .exit 1 ∧ ∃ (x : Nat) (v'' : Value), pre = [x] ∧ WalkS W' k v'' (row' ++ [(x : Int)]) any begun ∧ Fx (Sx k v') W2 W' ∧ (∀ g, v''.ownBlock = some g → v'.ownBlock = some g ∨ W2.heap.size + 2 ≤ g))
      ?kI ?kX ⟨rfl, HW2.out, Fx.refl _ _⟩
      (fun x => { tmps := #[.pointer (some ⟨k.wk, 0, none⟩), .pointer (some ⟨w.heap.size, 0, none⟩), .int .i64 (x : Int), .pointer (some ⟨k.wk, 0, none⟩), .func (.func 47) #[] #[.pointer (some ⟨W.heap.size + 1, 0, none⟩), .pointer (some ⟨W.heap.size, 0, none⟩)], .int .i64 (x : Int), x6, x7, x8], defers := [] })
      ?assign ?body ?hit ?done ?stop
    case kI =>
      rintro s A B ⟨h1, h2, h3⟩ hf
      refine ⟨h1, h2.fx hf (fun b hb e => ?_), h3.trans' hf (fun j hj hl => ?_)⟩
      · have := HLt.out b hb
        rcases e with e | e
        · exact e
        · omega
      · rcases hj with e | e
        · exact e
        · omega
    case kX =>
      rintro c s A B ⟨h1, x, v'', h2, h3, h4, h5⟩ hf
      refine ⟨h1, x, v'', h2, h3.fx hf (fun b hb e => ?_), h4.trans' hf (fun j hj hl => ?_), h5⟩
      · have hb' : b < W2.heap.size ∨ W2.heap.size + 2 ≤ b := by
          rcases hb with (hb | hb | hb | hb) | hb
          · exact .inl (HLt.out b (.inl (.inl hb)))
          · exact .inl (HLt.out b (.inl (.inr (.inl hb))))
          · exact .inl (HLt.out b (.inl (.inr (.inr (.inl hb)))))
          · rcases h5 b hb with h | h
            · exact .inl (HLt.out b (.inl (.inr (.inr (.inr h)))))
            · exact .inr h
          · exact .inl (HLt.out b (.inr hb))
        rcases e with e | e
        · exact e
        · omega
      · rcases hj with e | e
        · exact e.elim
        · omega
    case assign =>
      intro x W' K hK
      gi_wp2
      exact hK
    case body =>
      rintro pre x W' hG ⟨rfl, h2, h3⟩ hsz
      have hc : cand k.ps k.n row' 0 = some x := by
        rw [cand_head]
        obtain ⟨t, ht⟩ := hG
        rw [← ht]; rfl
      obtain ⟨_, hxn, hxr, _⟩ := cand_spec hc
      have hb3 := h3.cell' hbx2 (fun h => h)
      have H2 := Lib.hid h2
      have H3 := Lib.hid h3
      have HXr := Lib.hid hxr
      clear hG h2 h3 hc hxr
      gi_wp2_with fail
      refine ⟨trivial, CallsIn.inRound _ ((callsIn_wide.2 (push_any H2.out hxn HXr.out)).mono ?_)⟩
      rintro e W3 ⟨rfl, hf3, v3, hW3, hb4⟩
      have HF3 := Lib.hid hf3
      have HW3 := Lib.hid hW3
      have HB3 := Lib.hid hb4
      clear hf3 hW3 hb4
      gi_wp2
      exact ⟨HF3.out, rfl, x, v3, rfl, HW3.out, H3.out.no.trans HF3.out, fun g e => (HB3.out g e).imp id fun h => by omega⟩
    case hit =>
      intro W3 J Jx hf hsz hJ hJx hR hJ0
      refine may1_iter (Bd := No) (f := 0) (hf.cell' d2 (fun h => h)) (by omega) (hf.cell' d1 (fun h => h)) (HW2.out.no hf) (fun b hb => ⟨fun h => h, ?_⟩) hR hJ0
      rcases hb with hb | hb | rfl | rfl
      · have := HLt.out b (.inl hb); omega
      · have := HLt.out b (.inr hb); omega
      · omega
      · omega
    case done =>
      rintro xs W3 rfl ⟨h1, h2, h3⟩ hK
      have hcand : cand k.ps k.n row' 0 = none := by rw [cand_head, h1]; rfl
      have hfin : row' = fillP k.ps k.n row := by
        rw [← HFill.out]
        show row' = match cand k.ps k.n row' 0 with | none => row' | some i => fillF k.ps k.n m (row' ++ [(i : Int)])
        rw [hcand]
      have HFin := Lib.hid hfin
      have H2 := Lib.hid h2
      have H3 := Lib.hid h3
      have HK := Lib.hid hK
      clear h1 h2 h3 hcand hfin hK
      gi_wp2
      rw [Exit.noGoto_ret]
      refine marks_leave (W2.heap.size :: rs) W3 (List.nodup_cons.2 ⟨fun h => by have := HMl.out _ h; omega, HNd.out⟩) (fun r hr => ?_) fun w' hf => ⟨.tuple #[], by simp [results, Try.results33, go_sem], rfl, ?_, v', ?_, fun g e => (HB.out g e).imp id fun h => by omega⟩
      · rcases List.mem_cons.1 hr with rfl | hr
        · exact HK.out
        · exact H3.out.at_ (HMk2.out r hr) (fun h => h)
      · refine ((HF.out.trans (HF2.out.trans H3.out).no)).trans' hf fun j hj hl => ?_
        rcases List.mem_cons.1 hj with rfl | hj
        · omega
        · have := (HMk.out j hj).1; omega
      · rw [← HFin.out]
        refine H2.out.fx hf fun b hb hj => ?_
        rcases List.mem_cons.1 hj with rfl | hj
        · have := HLt.out _ hb; omega
        · have h8 := HMk.out b hj
          rcases hb with (hb | hb | hb | hb) | hb
          · have := H.out.blt.1; omega
          · have := H.out.blt.2.1; omega
          · have := H.out.blt.2.2; omega
          · rcases HB.out b hb with h | h
            · have := (OwnI.lt H.out.own h).2; omega
            · exact h.2 b hj rfl
          · have := H.out.dlt b hb; omega
    case stop =>
      rintro c pre W3 ⟨hp, _⟩ ⟨rfl, x, v3, rfl, h1, h2, h3⟩ hK
      have hc : cand k.ps k.n row' 0 = some x := by
        rw [cand_head]
        obtain ⟨t, ht⟩ := hp
        rw [← ht]; rfl
      have H1 := Lib.hid h1
      have H2 := Lib.hid h2
      have H3 := Lib.hid h3
      have HK := Lib.hid hK
      have HC := Lib.hid hc
      clear hp h1 h2 h3 hK hc
      obtain ⟨_, hxn, hxr, _⟩ := cand_spec HC.out
      have hrl := HW.out.le
      have hrl2 := H1.out.le
      rw [List.length_append, List.length_singleton] at hrl2
      obtain ⟨m', hm'⟩ : ∃ m', m = m' + 1 := ⟨m - 1, by have := HM.out; omega⟩
      subst hm'
      have HFill2 : Hid (fillF k.ps k.n (m' + 1) (row' ++ [(x : Int)]) = fillP k.ps k.n row) := by
        show _ = _
        rw [← HFill.out]
        show _ = match cand k.ps k.n row' 0 with | none => row' | some i => fillF k.ps k.n (m' + 1) (row' ++ [(i : Int)])
        rw [HC.out]
      gi_wp2
      refine ⟨m', by omega, W2.heap.size :: rs, row' ++ [(x : Int)], v3, _, _, _, _, _, _, _, rfl, List.nodup_cons.2 ⟨fun h => by have := HMl.out _ h; omega, HNd.out⟩, fun r hr => ?_, ?_, H1.out, (HF.out.trans HF2.out.no).trans' H2.out fun j hj hl => ?_, fun g e => ?_, HFill2.out, by have := HM.out; rw [List.length_append, List.length_singleton]; omega⟩
      · rcases List.mem_cons.1 hr with rfl | hr
        · exact ⟨by omega, HK.out⟩
        · refine ⟨(HMk.out r hr).1, H2.out.at_ (HMk2.out r hr) fun h => ?_⟩
          have h8 := (HMk.out r hr).1
          rcases h with h | h | h | h
          · have := H.out.blt.1; omega
          · have := H.out.blt.2.1; omega
          · have := H.out.blt.2.2; omega
          · rcases HB.out r h with h | h
            · have := (OwnI.lt H.out.own h).2; omega
            · exact h.2 r hr rfl
      · exact H2.out.cell' hbx2 HBxs.out
      · rcases hj with h | h | h | h
        · exact .inl h
        · exact .inr (.inl h)
        · exact .inr (.inr (.inl h))
        · rcases HB.out j h with h | h
          · exact .inr (.inr (.inr h))
          · omega
      · rcases H3.out g e with h | h
        · rcases HB.out g h with h9 | h9
          · exact .inl h9
          · refine .inr ⟨h9.1, fun r hr e2 => ?_⟩
            rcases List.mem_cons.1 hr with rfl | hr
            · have := (OwnI.lt HW.out.own h).2; omega
            · exact h9.2 r hr e2
        · refine .inr ⟨by omega, fun r hr e2 => ?_⟩
          rcases List.mem_cons.1 hr with rfl | hr
          · omega
          · have := HMl.out r hr; omega
#print axioms fill_any
end Go.Proofs.Ytddpdjbgidmdlaa
