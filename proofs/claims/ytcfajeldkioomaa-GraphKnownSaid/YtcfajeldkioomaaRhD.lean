/- The graph turned about: Back. -/
import Derived.Test.YtcfajeldkioomaaRhC
namespace Go.Proofs.Ytcfajeldkioomaa
open Go.RowKit Go.Shelf
set_option linter.unusedVariables false
attribute [local go_sem] Oper.semAt_some

/-- between two rounds: what has been added -/
structure BackI (w : World) (hs bb b' n : Nat) (L : List Ed) (pre : List Ed) (W : World) : Prop where
  fx : Fx No w W
  g : ∃ D, GraphV W D b' n (addL [] (pre.map turnE)) ∧ ∀ j, D j → w.heap.size ≤ j ∧ (j < hs ∨ hs + 3 ≤ j) ∧ j ≠ bb
  box : W.cell? ⟨bb, 0, none⟩ = some (.pointer (some ⟨b', 0, none⟩))
  sub : ∀ x ∈ pre, x ∈ L
theorem BackI.fx' {w : World} {hs bb b' n : Nat} {L pre : List Ed} {A B : World} (h : BackI w hs bb b' n L pre A) {S : Nat → Prop} (hf : Fx S A B) (hS : ∀ j, S j → hs ≤ j ∧ j < hs + 3) (hb : bb < hs) (hw : w.heap.size ≤ hs) : BackI w hs bb b' n L pre B := by
  obtain ⟨D, h1, h2⟩ := h.g
  exact ⟨h.fx.trans' hf fun j h3 h4 => by have := hS j h3; omega, ⟨D, h1.keep hf fun j h3 h4 => by have := (h2 j h3).2.1; have := hS j h4; omega, h2⟩, hf.cell' h.box fun h3 => by have := hS _ h3; have h3 : hs ≤ bb := this.1; omega, h.sub⟩
theorem addL_len_le {L pre : List Ed} (hp : pre.Nodup) (hs : ∀ x ∈ pre, x ∈ L) (ha : Asc L) : (addL [] (pre.map turnE)).length ≤ L.length := by
  refine Nat.le_trans ?_ (backL_len L)
  refine asc_len (backL_asc L) (addL_asc Asc.nil _) fun x hx => ?_
  rw [mem_addL] at hx
  rw [mem_backL]
  rcases hx with hx | hx
  · simp at hx
  · obtain ⟨y, hy, rfl⟩ := List.mem_map.1 hx
    exact hs y hy
theorem addL_len_sub {L pre : List Ed} (hs : ∀ x ∈ pre, x ∈ L) : (addL [] (pre.map turnE)).length ≤ L.length := by
  refine Nat.le_trans ?_ (backL_len L)
  refine asc_len (backL_asc L) (addL_asc Asc.nil _) fun x hx => ?_
  rw [mem_addL] at hx
  rw [mem_backL]
  rcases hx with hx | hx
  · simp at hx
  · obtain ⟨y, hy, rfl⟩ := List.mem_map.1 hx
    exact hs y hy
theorem backL_all {L xs : List Ed} (h : ∀ x, x ∈ xs ↔ x ∈ L) : addL [] (xs.map turnE) = backL L :=
  Asc.same (addL_asc Asc.nil _) (backL_asc L) fun x => by
    rw [mem_addL, mem_backL, List.mem_map]
    constructor
    · rintro (h1 | ⟨y, hy, rfl⟩)
      · simp at h1
      · exact (h y).1 hy
    · intro h1; exact .inr ⟨_, (h _).2 h1, rfl⟩
section
variable {w w' : World} {D : Nat → Prop} {b n : Nat} {L : List Ed}
set_option maxRecDepth 100000 in
set_option maxHeartbeats 4000000 in
theorem gBack_any (h : GraphV w D b n L) (hl : L.length ≤ 999999) : Calls Try.prog 11 #[.pointer (some ⟨b, 0, none⟩)] w fun e w' => ∃ b', e = .returned (.pointer (some ⟨b', 0, none⟩)) ∧ Fx No w w' ∧ ∃ D', GraphV w' D' b' n (backL L) ∧ ∀ x, D' x → w.heap.size ≤ x := by
  have H := Lib.hid h
  obtain ⟨ob, ib, mb, DO, DI, hp⟩ := h.ex
  have HP := Lib.hid hp
  have HAs := Lib.hid h.asc
  have HNd := Lib.hid h.nodes
  have HOkL := Lib.hid hp.map.ok
  have hnn := h.nn
  have hmix : Try.prog.follows .mixedOrders = true := by kernel_rfl
  clear h hp
  refine (callsIn_wide (n := 6)).1 ?_
  refine callsIn_of_wp_marks Try.func11 rfl trivial ?_ rfl
  simp only [Try.ntmps11, List.size_toArray, List.length_cons, List.length_nil, Nat.reduceAdd, Nat.reduceSub, Array.replicate_succ, Array.replicate_zero, List.push_toArray, List.append_toArray, List.nil_append, List.cons_append]
  gi_wp2_with fail
  refine ⟨trivial, (callsIn_wide.2 (gLen_any H.out)).mono ?_⟩
  rintro e w' ⟨rfl, rfl⟩
  gi_wp2_with fail
  refine ⟨trivial, (callsIn_wide.2 (gMade_any n _ hnn)).mono ?_⟩
  rintro e w1 ⟨b', rfl, hf, hg⟩
  have c2 := hf.cell' HP.out.c2 (fun h => h)
  have hlt2 := World.block_lt_of_cell? w1 _ c2
  have hlt2 : b < w1.heap.size := hlt2
  have HF1 := Lib.hid hf
  have HG1 := Lib.hid hg
  clear hf hg
  gi_wp2_with fail
  refine ⟨trivial, (callsIn_wide.2 (keys_any mb _)).mono ?_⟩
  rintro e w' ⟨rfl, rfl⟩
  simp only [World.size_alloc]
  obtain ⟨wq, hwq⟩ : ∃ wq, (w1.alloc (.cells #[.pointer (some ⟨b', 0, none⟩)] 27)).alloc (.cells #[.map (some mb)] 76) = wq := ⟨_, rfl⟩
  have hsq : wq.heap.size = w1.heap.size + 2 := by rw [← hwq]; simp
  have hfq : Fx No w1 wq := by rw [← hwq]; exact ((Fx.refl No w1).alloc _).alloc _
  have q0 : wq.cell? ⟨w1.heap.size, 0, none⟩ = some (.pointer (some ⟨b', 0, none⟩)) := by rw [← hwq]; clear hwq hfq hsq; go_simp
  have q1 : wq.cell? ⟨w1.heap.size + 1, 0, none⟩ = some (.map (some mb)) := by rw [← hwq]; clear hwq hfq hsq; go_simp
  rw [hwq]
  clear hwq
  have HFq := Lib.hid hfq
  have HQ1 := Lib.hid q1
  have hw1 := HF1.out.size
  have HMb : Hid (MapE wq mb L) := Lib.hid ((HP.out.map.no HF1.out).no hfq)
  have hmlt : mb < w.heap.size := HP.out.map.lt
  have hI0 : BackI w wq.heap.size w1.heap.size b' n L [] wq := by
    refine ⟨HF1.out.trans hfq, ⟨_, HG1.out.no hfq, fun j hj => ⟨hj.1, .inl (by have := hj.2; omega), by have := hj.2; omega⟩⟩, q0, by simp⟩
  have HI0 := Lib.hid hI0
  obtain ⟨hs, hhs⟩ : ∃ s, s = wq.heap.size := ⟨_, rfl⟩
  clear hfq hI0 c2 hlt2 q1
  gi_wp2_with fail
  refine range_law3 (gf := 59) (lb := #[.pointer (some ⟨w1.heap.size + 1, 0, none⟩)]) rfl (enters_of Try.func59 (by kernel_rfl) rfl)
    encE (fun _ => rfl) (fun _ x => x ∈ L) (fun k => k = hs + 2) (fun k => w.heap.size ≤ k ∧ (k < hs ∨ hs + 3 ≤ k) ∧ k ≠ w1.heap.size) (by omega) (by omega) (by omega) (by omega)
    (fun xs => ∀ x, x ∈ xs ↔ x ∈ L) (fun pre => pre ≠ [])
    (fun pre W => BackI w hs w1.heap.size b' n L pre W) (fun _ _ _ => False) ?kI ?kX (by rw [hhs]; exact HI0.out)
    (fun x W => W.alloc (.cells #[.int .i64 x.f, .int .i64 x.t, .int .i64 x.l] 25)) (fun x W => (Fx.refl No W).alloc _) ?a1 ?assign ?body ?hit ?done ?stop
  case assign =>
    intro x W K hK
    unfold encE
    gi_wp2
    exact hK
  case kI =>
    intro s A B h1 hf
    exact h1.fx' hf (fun j h2 => by rcases h2 with h2 | h2 <;> omega) (by omega) (by omega)
  case kX => intro c s A B h1 _; exact h1
  case stop => intro c pre W _ h1; exact h1.elim
  case hit =>
    intro W J Jx hf hsz hJ hJx hR hJ0
    refine (keys1_iter (hf.cell' HQ1.out (fun h => h)) (HMb.out.no hf) ⟨by omega, by omega⟩ ⟨by omega, by omega⟩ (fun s A B h1 h2 => hJ s A B h1 (h2.mono fun k _ e => by have e : k = W.heap.size := e; show k = hs + 2; omega)) hR hJ0)
  case done =>
    intro xs W hx hI hK
    have HX := Lib.hid (backL_all hx)
    have HI := Lib.hid hI
    have HK := Lib.hid hK
    have c0 := hI.box
    clear hx hI hK
    gi_wp2
    refine ⟨by simp, .inl ⟨_, _, rfl, run_takeDeferred HK.out, ?_⟩⟩
    have hp := Fx.putObj (S := fun k => k = wq.heap.size) W wq.heap.size (.deferred none) rfl
    refine ⟨.pointer (some ⟨b', 0, none⟩), by simp [results, Try.results11, go_sem], ?_⟩
    have hI2 := HI.out.fx' hp (fun j h2 => by have h2 : j = wq.heap.size := h2; omega) (by omega) (by omega)
    obtain ⟨D', h1, h2⟩ := hI2.g
    exact ⟨b', rfl, hI2.fx, D', by rw [← HX.out]; exact h1, fun x hx => (h2 x hx).1⟩
  case body =>
    intro pre x W0 W hxL hI hsz0 hfA
    have hzW := hfA.size
    rw [World.size_alloc] at hzW
    have e0 := hfA.cell' (a := ⟨W0.heap.size, 0, none⟩) (v := .int .i64 x.f) (by simp) (by simp; omega)
    have e1 := hfA.cell' (a := ⟨W0.heap.size, 1, none⟩) (v := .int .i64 x.t) (by simp) (by simp; omega)
    have e2 := hfA.cell' (a := ⟨W0.heap.size, 2, none⟩) (v := .int .i64 x.l) (by simp) (by simp; omega)
    have c0 := hI.box
    have HI := Lib.hid hI
    have HXL := Lib.hid hxL
    obtain ⟨D1, hg1, hD1⟩ := hI.g
    have HG := Lib.hid hg1
    have HD1 := Lib.hid hD1
    have HSb : Hid (∀ y ∈ pre ++ [x], y ∈ L) := Lib.hid fun y hy => by
      rcases List.mem_append.1 hy with h | h
      · exact HI.out.sub y h
      · rw [List.mem_singleton] at h; rw [h]; exact HXL.out
    have CG : Hid (∀ W2, Fx No W W2 → Calls Try.prog 19 #[.pointer (some ⟨b', 0, none⟩), .slice (some ⟨W2.heap.size, 0, none⟩) 1 1] (W2.alloc (.cells #[.int .i64 x.t, .int .i64 x.f, .int .i64 x.l] 25)) fun r w' => (∃ v, r = .returned v) ∧
        Hid (Fx (fun k => w.heap.size ≤ k ∧ (k < hs ∨ hs + 3 ≤ k) ∧ k ≠ w1.heap.size) W w' ∧ BackI w hs w1.heap.size b' n L (pre ++ [x]) w')) := Lib.hid fun W2 hf2 => by
      have hz2 := hf2.size
      have hA : Fx No W2 (W2.alloc (.cells #[.int .i64 x.t, .int .i64 x.f, .int .i64 x.l] 25)) := (Fx.refl No W2).alloc _
      have hlit : EdsV (W2.alloc (.cells #[.int .i64 x.t, .int .i64 x.f, .int .i64 x.l] 25)) (Iv W2.heap.size (W2.heap.size + 1)) (.slice (some ⟨W2.heap.size, 0, none⟩) 1 1) [turnE x] := EdsV.lit [turnE x] (by simp)
      have hnd := HNd.out x HXL.out
      have hokx := HOkL.out x HXL.out
      have hlen := addL_len_sub HI.out.sub
      refine (gAdd_any ((HG.out.no hf2).no hA) hlit (fun k h1 h2 => by have h3 := HG.out.lt k h2; have := h1.1; omega) (fun y hy => by rw [List.mem_singleton] at hy; rw [hy]; exact ⟨hokx.t, hokx.f, hokx.l⟩) (good_mk fun y hy => by rw [List.mem_singleton] at hy; rw [hy]; exact ⟨hnd.2, hnd.1⟩) (by simp; omega)).mono ?_
      rintro e w' ⟨rfl, hfD, hgD⟩
      refine ⟨⟨_, rfl⟩, Lib.hid ⟨?_, ?_⟩⟩
      · refine ((hf2.trans hA).no.trans (hfD.mono fun k _ hk => ?_))
        have := HD1.out k hk
        exact this
      · have hgD' : GraphV w' (DU D1 (W2.alloc (.cells #[.int .i64 x.t, .int .i64 x.f, .int .i64 x.l] 25)) w') b' n (addL [] ((pre ++ [x]).map turnE)) := by
          rw [List.map_append, List.map_singleton, addL_snoc]
          exact hgD
        refine ⟨?_, ⟨_, hgD', ?_⟩, ?_, HSb.out⟩
        · exact ((HI.out.fx.trans hf2).trans hA).trans' hfD fun j h1 h2 => by have := (HD1.out j h1).1; omega
        · rintro j (h1 | h1)
          · exact HD1.out j h1
          · have h2 := h1.1
            rw [World.size_alloc] at h2
            exact ⟨by omega, .inr (by omega), by omega⟩
        · refine hfD.cell' (hA.cell' (hf2.cell' HI.out.box (fun h => h)) (fun h => h)) fun h1 => (HD1.out _ h1).2.2 rfl
    obtain ⟨xf, xt, xl⟩ := x
    simp only at e0 e1 e2 CG
    clear hI hg1 hD1 hxL hfA
    gi_wp2_with fail
    refine wpIn_region_any (by assumption) ?_
    change wpAnyIn _ _ _ _ _ _ _ _ _ (World.drew _)
    refine wpAnyIn_ready (rs := [0, 1]) (by kernel_rfl) (by simp) ?_
    refine AllReadyIn.cons rfl (fun K hK => ?_) ?_
    · go_simp
      refine hK _ _ ?_
      clear hK K
      refine wpAnyIn_ready (rs := [1]) (by kernel_rfl) (by simp) ?_
      refine AllReadyIn.cons rfl (fun K hK => ?_) ?_
      · go_simp
        refine hK _ _ ?_
        clear hK K
        refine wpAnyIn_ready (rs := [2]) (by kernel_rfl) (by simp) ?_
        refine AllReadyIn.cons rfl (fun K hK => ?_) ?_
        · go_simp
          refine ⟨trivial, CallsIn.inRound _ ((callsIn_wide.2 (turned_any ⟨xf, xt, xl⟩ _)).mono ?_)⟩
          rintro e w' ⟨rfl, hfi⟩
          have c0 := ((Fx.refl No W).drew.trans hfi).cell' c0 (fun h => h)
          have hlt : w1.heap.size < w'.heap.size := World.block_lt_of_cell? _ _ c0
          refine hK _ _ ?_
          clear hK K
          refine wpAnyIn_ready (rs := [3]) (by kernel_rfl) (by simp) ?_
          refine AllReadyIn.cons rfl (fun K hK => ?_) ?_
          · go_simp
            refine hK _ _ ?_
            clear hK K
            refine wpAnyIn_ready (rs := [4]) (by kernel_rfl) (by simp) ?_
            refine AllReadyIn.cons rfl (fun K hK => ?_) ?_
            · go_simp
              refine ⟨trivial, CallsIn.inRound _ ((callsIn_wide.2 (CG.out _ ((Fx.refl No W).drew.trans hfi))).mono ?_)⟩
              rintro e w'' ⟨⟨v, rfl⟩, HR⟩
              refine hK _ _ ?_
              clear hK K
              refine wpAnyIn_done (by kernel_rfl) ?_ _
              exact HR.out
            exact AllReadyIn.nil
          exact AllReadyIn.nil
        exact AllReadyIn.nil
      exact AllReadyIn.nil
    refine AllReadyIn.cons rfl (fun K hK => ?_) ?_
    · go_simp
      refine hK _ _ ?_
      clear hK K
      refine wpAnyIn_ready (rs := [0, 2]) (by kernel_rfl) (by simp) ?_
      refine AllReadyIn.cons rfl (fun K hK => ?_) ?_
      · go_simp
        refine hK _ _ ?_
        clear hK K
        refine wpAnyIn_ready (rs := [2]) (by kernel_rfl) (by simp) ?_
        refine AllReadyIn.cons rfl (fun K hK => ?_) ?_
        · go_simp
          refine ⟨trivial, CallsIn.inRound _ ((callsIn_wide.2 (turned_any ⟨xf, xt, xl⟩ _)).mono ?_)⟩
          rintro e w' ⟨rfl, hfi⟩
          have c0 := ((Fx.refl No W).drew.trans hfi).cell' c0 (fun h => h)
          have hlt : w1.heap.size < w'.heap.size := World.block_lt_of_cell? _ _ c0
          refine hK _ _ ?_
          clear hK K
          refine wpAnyIn_ready (rs := [3]) (by kernel_rfl) (by simp) ?_
          refine AllReadyIn.cons rfl (fun K hK => ?_) ?_
          · go_simp
            refine hK _ _ ?_
            clear hK K
            refine wpAnyIn_ready (rs := [4]) (by kernel_rfl) (by simp) ?_
            refine AllReadyIn.cons rfl (fun K hK => ?_) ?_
            · go_simp
              refine ⟨trivial, CallsIn.inRound _ ((callsIn_wide.2 (CG.out _ ((Fx.refl No W).drew.trans hfi))).mono ?_)⟩
              rintro e w'' ⟨⟨v, rfl⟩, HR⟩
              refine hK _ _ ?_
              clear hK K
              refine wpAnyIn_done (by kernel_rfl) ?_ _
              exact HR.out
            exact AllReadyIn.nil
          exact AllReadyIn.nil
        exact AllReadyIn.nil
      refine AllReadyIn.cons rfl (fun K hK => ?_) ?_
      · go_simp
        refine ⟨trivial, CallsIn.inRound _ ((callsIn_wide.2 (turned_any ⟨xf, xt, xl⟩ _)).mono ?_)⟩
        rintro e w' ⟨rfl, hfi⟩
        have c0 := ((Fx.refl No W).drew.trans hfi).cell' c0 (fun h => h)
        have hlt : w1.heap.size < w'.heap.size := World.block_lt_of_cell? _ _ c0
        refine hK _ _ ?_
        clear hK K
        refine wpAnyIn_ready (rs := [0, 3]) (by kernel_rfl) (by simp) ?_
        refine AllReadyIn.cons rfl (fun K hK => ?_) ?_
        · go_simp
          refine hK _ _ ?_
          clear hK K
          refine wpAnyIn_ready (rs := [3]) (by kernel_rfl) (by simp) ?_
          refine AllReadyIn.cons rfl (fun K hK => ?_) ?_
          · go_simp
            refine hK _ _ ?_
            clear hK K
            refine wpAnyIn_ready (rs := [4]) (by kernel_rfl) (by simp) ?_
            refine AllReadyIn.cons rfl (fun K hK => ?_) ?_
            · go_simp
              refine ⟨trivial, CallsIn.inRound _ ((callsIn_wide.2 (CG.out _ ((Fx.refl No W).drew.trans hfi))).mono ?_)⟩
              rintro e w'' ⟨⟨v, rfl⟩, HR⟩
              refine hK _ _ ?_
              clear hK K
              refine wpAnyIn_done (by kernel_rfl) ?_ _
              exact HR.out
            exact AllReadyIn.nil
          exact AllReadyIn.nil
        refine AllReadyIn.cons rfl (fun K hK => ?_) ?_
        · go_simp
          refine hK _ _ ?_
          clear hK K
          refine wpAnyIn_ready (rs := [0]) (by kernel_rfl) (by simp) ?_
          refine AllReadyIn.cons rfl (fun K hK => ?_) ?_
          · go_simp
            refine hK _ _ ?_
            clear hK K
            refine wpAnyIn_ready (rs := [4]) (by kernel_rfl) (by simp) ?_
            refine AllReadyIn.cons rfl (fun K hK => ?_) ?_
            · go_simp
              refine ⟨trivial, CallsIn.inRound _ ((callsIn_wide.2 (CG.out _ ((Fx.refl No W).drew.trans hfi))).mono ?_)⟩
              rintro e w'' ⟨⟨v, rfl⟩, HR⟩
              refine hK _ _ ?_
              clear hK K
              refine wpAnyIn_done (by kernel_rfl) ?_ _
              exact HR.out
            exact AllReadyIn.nil
          exact AllReadyIn.nil
        exact AllReadyIn.nil
      exact AllReadyIn.nil
    exact AllReadyIn.nil
end
#print axioms gBack_any
end Go.Proofs.Ytcfajeldkioomaa
