/- The reference of graphs: Back, in, Only. -/
import Derived.Test.YtcfajeldkioomaaRgJ
import Derived.Test.YtcfajeldkioomaaRegK
import Derived.Test.YtcfajeldkioomaaGR
namespace Go.Proofs.Ytcfajeldkioomaa
open Go.RowKit
set_option linter.unusedVariables false

def turnE (x : Ed) : Ed := ⟨x.t, x.f, x.l⟩
theorem turnE_inj {a b : Ed} (h : turnE a = turnE b) : a = b := by
  unfold turnE at h
  simp only [Ed.mk.injEq] at h
  exact Ed.ext' h.2.1 h.1 h.2.2
theorem turnE_turn (a : Ed) : turnE (turnE a) = a := rfl
/-- a graph turned about -/
def backL (L : List Ed) : List Ed := addL [] (L.map turnE)
theorem mem_backL {L : List Ed} {x : Ed} : x ∈ backL L ↔ turnE x ∈ L := by
  unfold backL
  rw [mem_addL, List.mem_map]
  constructor
  · rintro (h | ⟨y, hy, rfl⟩)
    · simp at h
    · exact hy
  · intro h; exact .inr ⟨_, h, rfl⟩
theorem backL_asc (L : List Ed) : Asc (backL L) := addL_asc Asc.nil _
theorem backL_back {L : List Ed} (h : Asc L) : backL (backL L) = L := Asc.same (backL_asc _) h fun x => by rw [mem_backL, mem_backL]; rfl
theorem backL_len (L : List Ed) : (backL L).length ≤ L.length := by have := (addL_len [] (L.map turnE)).2; simpa [backL] using this
theorem backL_take {L : List Ed} {k : Nat} (h : k < L.length) : addL [] ((L.take (k + 1)).map turnE) = insE (turnE (gt L k)) (addL [] ((L.take k).map turnE)) := by
  rw [take_gt h, List.map_append, List.map_singleton, addL_snoc]
theorem backL_new {L : List Ed} (ha : Asc L) {k : Nat} (h : k < L.length) : turnE (gt L k) ∉ addL [] ((L.take k).map turnE) := by
  rw [mem_addL]
  rintro (h1 | h1)
  · simp at h1
  · obtain ⟨y, hy, e⟩ := List.mem_map.1 h1
    have e := turnE_inj e
    subst e
    obtain ⟨i, hi, e⟩ := List.getElem_of_mem hy
    rw [List.length_take] at hi
    rw [List.getElem_take] at e
    have h2 : i < k := by omega
    have h3 : gt L k = L[k] := by simp [gt, h]
    have h4 := (List.pairwise_iff_getElem.1 ha) i k (by omega) h h2
    rw [e, h3] at h4
    exact Ed.lt_irrefl _ h4
/-- what the reference builds, whoever owns its row -/
structure StB (w1 ws : World) (ob : Nat) (N : Int) (vs : Value) (acc : List Ed) : Prop where
  fx : Fx No w1 ws
  o0 : ws.cell? ⟨ob, 0, none⟩ = some (.int .i64 N) ∧ ws.frozen? ⟨ob, 0, none⟩ = false
  o1 : ws.cell? ⟨ob, 1, none⟩ = some vs ∧ ws.frozen? ⟨ob, 1, none⟩ = false
  row : EdsV ws (fun j => ob < j ∧ j < ws.heap.size) vs acc
  lo : w1.heap.size ≤ ob ∧ ob < ws.heap.size
section
variable {w w' : World} {D S E : Nat → Prop} {L : List Ed} {v u : Value} {zs : List Int}
set_option maxRecDepth 100000 in
set_option maxHeartbeats 4000000 in
theorem refBack_any (h : EdsV w D v L) (ha : Asc L) (N : Int) (hl : L.length ≤ 1000000) : Calls Try.prog 15 #[.agg #[.int .i64 N, v]] w fun e w' => ∃ v', e = .returned (.agg #[.int .i64 N, v']) ∧ Fx No w w' ∧ EdsV w' (fun k => w.heap.size ≤ k ∧ k < w'.heap.size) v' (backL L) := by
  have H := Lib.hid h.bound
  obtain ⟨ao, cap, rfl, _, _, hc⟩ := h.facts
  have HC := Lib.hid hc
  have HAs := Lib.hid ha
  clear h hc
  go_enter Try.func15, Try.ntmps15
  go_wp2_with fail
  refine wp_hold (fun W => ∃ w1 : World, Fx No w w1 ∧ w1.heap.size = w.heap.size + 1 + 1 ∧ w1.cell? ⟨w.heap.size, 1, none⟩ = some (.slice ao L.length cap) ∧
    (w1.cell? ⟨w.heap.size + 1, 0, none⟩ = some (.int .i64 0) ∧ w1.frozen? ⟨w.heap.size + 1, 0, none⟩ = false) ∧ (w1.cell? ⟨w.heap.size + 1, 1, none⟩ = some (.slice none 0 0) ∧ w1.frozen? ⟨w.heap.size + 1, 1, none⟩ = false) ∧
    StB w1 W (w.heap.size + 1 + 1) N (.slice none 0 0) [])
    ⟨(w.alloc (.cells #[.int .i64 N, .slice ao L.length cap] 30)).alloc (.cells #[.int .i64 0, .slice none 0 0] 30), ((Fx.refl No w).alloc _).alloc _, by simp, by go_simp, ⟨by go_simp, by go_simp⟩, ⟨by go_simp, by go_simp⟩, (Fx.refl No _).alloc _, ⟨by go_simp, by go_simp⟩, ⟨by go_simp, by go_simp⟩, RowV.nil _ _, by simp, by simp⟩ ?_
  rintro W0 ⟨w1, hF1, hz1, c1, ⟨q0, f0⟩, ⟨q1, f1⟩, hA⟩
  obtain ⟨cb, hcb⟩ : ∃ e, e = w.heap.size := ⟨_, rfl⟩
  rw [← hcb] at hz1 c1 q0 f0 q1 f1 hA ⊢
  obtain ⟨qb, hqb⟩ : ∃ e, e = cb + 1 := ⟨_, rfl⟩
  rw [← hqb] at hz1 q0 f0 q1 f1 hA ⊢
  obtain ⟨ob, hob⟩ : ∃ e, e = qb + 1 := ⟨_, rfl⟩
  rw [← hob] at hz1 hA ⊢
  have HF1 := Lib.hid hF1
  have HA := Lib.hid hA
  have HOb : Hid (ob = w1.heap.size) := Lib.hid hz1.symm
  have hqo : qb < ob := by omega
  have hcb1 : cb < w1.heap.size := by omega
  have hq0 : w.heap.size ≤ qb := by omega
  have hq1 : qb < w1.heap.size := by omega
  have hwob : w.heap.size ≤ ob := by omega
  have HQ0 := Lib.hid q0
  have HF0 := Lib.hid f0
  have HQ1 := Lib.hid q1
  have HFf1 := Lib.hid f1
  have HC1 := Lib.hid c1
  have hcq : ¬ cb = qb := by omega
  clear hF1 hA hcb hqb hob hz1 q0 f0 q1 f1 c1
  go_loopw [4] (fun i ws => ∃ (k : Nat) (vs : Value), i = .int .i64 k ∧ k ≤ L.length ∧ StB w1 ws ob N vs (addL [] ((L.take k).map turnE))) (fun i _ => L.length - (intOf i).toNat)
  case atStart => exact ⟨0, _, rfl, Nat.zero_le _, HA.out⟩
  case round =>
    obtain ⟨k, vs, rfl, hk, hA⟩ := hrel
    have hacl := (addL_len [] ((L.take k).map turnE)).2
    rw [List.length_map, List.length_take] at hacl
    obtain ⟨acc, hacc⟩ : ∃ a, a = addL [] ((L.take k).map turnE) := ⟨_, rfl⟩
    rw [← hacc] at hA hacl
    have hacl2 : acc.length ≤ 1000000 := by simp at hacl; omega
    have HSt := Lib.hid hacc
    obtain ⟨so, sc, rfl, _⟩ := EdsV.facts hA.row
    have HA := Lib.hid hA
    have c1 := hA.fx.cell' HC1.out (fun h => h)
    clear hA hacc hacl
    by_cases hlt : k < L.length
    · obtain ⟨b, o, rfl, hDb, p1, p2, p3⟩ := HC.out k hlt
      have p1 := HA.out.fx.cell' (HF1.out.cell' p1 (fun h => h)) (fun h => h)
      have p2 := HA.out.fx.cell' (HF1.out.cell' p2 (fun h => h)) (fun h => h)
      have p3 := HA.out.fx.cell' (HF1.out.cell' p3 (fun h => h)) (fun h => h)
      have HNx : Hid (addL [] ((L.take (k + 1)).map turnE) = insE (turnE (gt L k)) acc) := Lib.hid (by rw [backL_take hlt, ← HSt.out])
      have HNw : Hid (turnE (gt L k) ∉ acc) := Lib.hid (by rw [HSt.out]; exact backL_new HAs.out hlt)
      obtain ⟨z, hz'⟩ : ∃ z, z = gt L k := ⟨_, rfl⟩
      rw [← hz'] at p1 p2 p3 HNx HNw
      obtain ⟨zf, zt, zl⟩ := z
      simp only at p1 p2 p3
      have HNw : Hid ((⟨zt, zf, zl⟩ : Ed) ∉ acc) := Lib.hid HNw.out
      obtain ⟨acc2, ha2⟩ : ∃ a, a = insE (⟨zt, zf, zl⟩ : Ed) acc := ⟨_, rfl⟩
      have HNx : Hid (addL [] ((L.take (k + 1)).map turnE) = acc2) := Lib.hid (by rw [HNx.out, ha2]; rfl)
      have CW : Hid (∀ W, Fx No wr W → Calls Try.prog 43 #[.agg #[.int .i64 N, .slice so acc.length sc], .agg #[.int .i64 zt, .int .i64 zf, .int .i64 zl]] W (RefG (fun j => ob < j ∧ j < wr.heap.size) N acc2 W)) := Lib.hid fun W hf => by rw [ha2, ← insStE_all HNw.out]; exact refWith_any (HA.out.row.no hf) N zt zf zl hacl2
      have hkl : (k : Int) < (L.length : Int) := by omega
      have hk0 : (0 : Int) ≤ (k : Int) := by omega
      clear hz' ha2
      have HO0 := Lib.hid HA.out.o0
      have HO1 := Lib.hid HA.out.o1
      have g1 : ∀ W, Fx No wr W → W.cell? ⟨cb, 1, none⟩ = some (.slice (some ⟨b, o, none⟩) L.length cap) := fun W h => h.cell' c1 (fun h => h)
      have g2 : ∀ W, Fx No wr W → W.cell? ⟨b, o + k * 3, none⟩ = some (.int .i64 zf) := fun W h => h.cell' p1 (fun h => h)
      have g3 : ∀ W, Fx No wr W → W.cell? ⟨b, o + k * 3 + 1, none⟩ = some (.int .i64 zt) := fun W h => h.cell' p2 (fun h => h)
      have g4 : ∀ W, Fx No wr W → W.cell? ⟨b, o + k * 3 + 2, none⟩ = some (.int .i64 zl) := fun W h => h.cell' p3 (fun h => h)
      have g5 : ∀ W, Fx No wr W → W.cell? ⟨ob, 0, none⟩ = some (.int .i64 N) := fun W h => h.cell' HO0.out.1 (fun h => h)
      have g6 : ∀ W, Fx No wr W → W.cell? ⟨ob, 1, none⟩ = some (.slice so acc.length sc) := fun W h => h.cell' HO1.out.1 (fun h => h)
      clear p1 p2 p3
      go_wp2_with fail
      refine wp_region_G 21 (fun b W => b = false → Fx No wr W) (by kernel_rfl) (fun _ => (Fx.refl _ _).drew) ?_
      intro _ hC
      refine wpG_hold (fun W' => Fx No wr W') (Fx.refl _ _).drew ?_
      rintro y0 hS
      have hS0 := hS
      refine wpG_take (i := 0) (v := ?_) rfl (by kernel_rfl) (by kernel_rfl) (by kernel_rfl) (by kernel_rfl) (fun _ _ _ h => h) (by decide) (Or.inl ⟨by rfl, ?_⟩) hC (fun _ => hS) ?_
      rotate_left
      · (intro W hc; have hs := hc rfl; clear hc; go_simp; first | done | with_reducible rfl)
      clear hC
      intro _ hC
      try simp only [Act.put, List.getElem_toArray, List.getElem_cons_zero, List.getElem_cons_succ, List.setIfInBounds_toArray, List.set_cons_zero, List.set_cons_succ]
      refine wpG_take (i := 1) (v := ?_) rfl (by kernel_rfl) (by kernel_rfl) (by kernel_rfl) (by kernel_rfl) (fun _ _ _ h => h) (by decide) (Or.inl ⟨by rfl, ?_⟩) hC (fun _ => hS) ?_
      rotate_left
      · (intro W hc; have hs := hc rfl; clear hc; go_simp; first | done | with_reducible rfl)
      clear hC
      intro _ hC
      try simp only [Act.put, List.getElem_toArray, List.getElem_cons_zero, List.getElem_cons_succ, List.setIfInBounds_toArray, List.set_cons_zero, List.set_cons_succ]
      refine wpG_take (i := 3) (v := ?_) rfl (by kernel_rfl) (by kernel_rfl) (by kernel_rfl) (by kernel_rfl) (fun _ _ _ h => h) (by decide) (Or.inl ⟨by rfl, ?_⟩) hC (fun _ => hS) ?_
      rotate_left
      · (intro W hc; have hs := hc rfl; clear hc; go_simp; first | done | with_reducible rfl)
      clear hC
      intro _ hC
      try simp only [Act.put, List.getElem_toArray, List.getElem_cons_zero, List.getElem_cons_succ, List.setIfInBounds_toArray, List.set_cons_zero, List.set_cons_succ]
      refine wpG_take (i := 7) (v := ?_) rfl (by kernel_rfl) (by kernel_rfl) (by kernel_rfl) (by kernel_rfl) (fun _ _ _ h => h) (by decide) (Or.inl ⟨by rfl, ?_⟩) hC (fun _ => hS) ?_
      rotate_left
      · (intro W hc; have hs := hc rfl; clear hc; go_simp; first | done | with_reducible rfl)
      clear hC
      intro _ hC
      try simp only [Act.put, List.getElem_toArray, List.getElem_cons_zero, List.getElem_cons_succ, List.setIfInBounds_toArray, List.set_cons_zero, List.set_cons_succ]
      refine wpG_take (i := 9) (v := ?_) rfl (by kernel_rfl) (by kernel_rfl) (by kernel_rfl) (by kernel_rfl) (fun _ _ _ h => h) (by decide) (Or.inl ⟨by rfl, ?_⟩) hC (fun _ => hS) ?_
      rotate_left
      · (intro W hc; have hs := hc rfl; clear hc; go_simp; first | done | with_reducible rfl)
      clear hC
      intro _ hC
      try simp only [Act.put, List.getElem_toArray, List.getElem_cons_zero, List.getElem_cons_succ, List.setIfInBounds_toArray, List.set_cons_zero, List.set_cons_succ]
      refine wpG_take (i := 13) (v := ?_) rfl (by kernel_rfl) (by kernel_rfl) (by kernel_rfl) (by kernel_rfl) (fun _ _ _ h => h) (by decide) (Or.inl ⟨by rfl, ?_⟩) hC (fun _ => hS) ?_
      rotate_left
      · (intro W hc; have hs := hc rfl; clear hc; go_simp; first | done | with_reducible rfl)
      clear hC
      intro _ hC
      try simp only [Act.put, List.getElem_toArray, List.getElem_cons_zero, List.getElem_cons_succ, List.setIfInBounds_toArray, List.set_cons_zero, List.set_cons_succ]
      refine wpG_take (i := 15) (v := ?_) rfl (by kernel_rfl) (by kernel_rfl) (by kernel_rfl) (by kernel_rfl) (fun _ _ _ h => h) (by decide) (Or.inl ⟨by rfl, ?_⟩) hC (fun _ => hS) ?_
      rotate_left
      · (intro W hc; have hs := hc rfl; clear hc; go_simp; first | done | with_reducible rfl)
      clear hC
      intro _ hC
      try simp only [Act.put, List.getElem_toArray, List.getElem_cons_zero, List.getElem_cons_succ, List.setIfInBounds_toArray, List.set_cons_zero, List.set_cons_succ]
      refine wpG_take (i := 2) (v := ?_) rfl (by kernel_rfl) (by kernel_rfl) (by kernel_rfl) (by kernel_rfl) (fun _ _ _ h => h) (by decide) (Or.inl ⟨by rfl, ?_⟩) hC (fun _ => hS) ?_
      rotate_left
      · (intro W hc; have hs := hc rfl; clear hc; go_simp; first | done | with_reducible rfl)
      clear hC
      intro _ hC
      try simp only [Act.put, List.getElem_toArray, List.getElem_cons_zero, List.getElem_cons_succ, List.setIfInBounds_toArray, List.set_cons_zero, List.set_cons_succ]
      refine wpG_take (i := 8) (v := ?_) rfl (by kernel_rfl) (by kernel_rfl) (by kernel_rfl) (by kernel_rfl) (fun _ _ _ h => h) (by decide) (Or.inl ⟨by rfl, ?_⟩) hC (fun _ => hS) ?_
      rotate_left
      · (intro W hc; have hs := hc rfl; clear hc; go_simp; first | done | with_reducible rfl)
      clear hC
      intro _ hC
      try simp only [Act.put, List.getElem_toArray, List.getElem_cons_zero, List.getElem_cons_succ, List.setIfInBounds_toArray, List.set_cons_zero, List.set_cons_succ]
      refine wpG_take (i := 14) (v := ?_) rfl (by kernel_rfl) (by kernel_rfl) (by kernel_rfl) (by kernel_rfl) (fun _ _ _ h => h) (by decide) (Or.inl ⟨by rfl, ?_⟩) hC (fun _ => hS) ?_
      rotate_left
      · (intro W hc; have hs := hc rfl; clear hc; go_simp; first | done | with_reducible rfl)
      clear hC
      intro _ hC
      try simp only [Act.put, List.getElem_toArray, List.getElem_cons_zero, List.getElem_cons_succ, List.setIfInBounds_toArray, List.set_cons_zero, List.set_cons_succ]
      refine wpG_take (i := 4) (v := ?_) rfl (by kernel_rfl) (by kernel_rfl) (by kernel_rfl) (by kernel_rfl) (fun _ _ _ h => h) (by decide) (Or.inl ⟨by rfl, ?_⟩) hC (fun _ => hS) ?_
      rotate_left
      · (intro W hc; have hs := hc rfl; clear hc; go_simp; first | done | with_reducible rfl)
      clear hC
      intro _ hC
      try simp only [Act.put, List.getElem_toArray, List.getElem_cons_zero, List.getElem_cons_succ, List.setIfInBounds_toArray, List.set_cons_zero, List.set_cons_succ]
      refine wpG_take (i := 10) (v := ?_) rfl (by kernel_rfl) (by kernel_rfl) (by kernel_rfl) (by kernel_rfl) (fun _ _ _ h => h) (by decide) (Or.inl ⟨by rfl, ?_⟩) hC (fun _ => hS) ?_
      rotate_left
      · (intro W hc; have hs := hc rfl; clear hc; go_simp; first | done | with_reducible rfl)
      clear hC
      intro _ hC
      try simp only [Act.put, List.getElem_toArray, List.getElem_cons_zero, List.getElem_cons_succ, List.setIfInBounds_toArray, List.set_cons_zero, List.set_cons_succ]
      refine wpG_take (i := 16) (v := ?_) rfl (by kernel_rfl) (by kernel_rfl) (by kernel_rfl) (by kernel_rfl) (fun _ _ _ h => h) (by decide) (Or.inl ⟨by rfl, ?_⟩) hC (fun _ => hS) ?_
      rotate_left
      · (intro W hc; have hs := hc rfl; clear hc; go_simp; first | done | with_reducible rfl)
      clear hC
      intro _ hC
      try simp only [Act.put, List.getElem_toArray, List.getElem_cons_zero, List.getElem_cons_succ, List.setIfInBounds_toArray, List.set_cons_zero, List.set_cons_succ]
      refine wpG_take (i := 5) (v := ?_) rfl (by kernel_rfl) (by kernel_rfl) (by kernel_rfl) (by kernel_rfl) (fun _ _ _ h => h) (by decide) (Or.inl ⟨by rfl, ?_⟩) hC (fun _ => hS) ?_
      rotate_left
      · (intro W hc; have hs := hc rfl; clear hc; go_simp; first | done | with_reducible rfl)
      clear hC
      intro _ hC
      try simp only [Act.put, List.getElem_toArray, List.getElem_cons_zero, List.getElem_cons_succ, List.setIfInBounds_toArray, List.set_cons_zero, List.set_cons_succ]
      refine wpG_take (i := 11) (v := ?_) rfl (by kernel_rfl) (by kernel_rfl) (by kernel_rfl) (by kernel_rfl) (fun _ _ _ h => h) (by decide) (Or.inl ⟨by rfl, ?_⟩) hC (fun _ => hS) ?_
      rotate_left
      · (intro W hc; have hs := hc rfl; clear hc; go_simp; first | done | with_reducible rfl)
      clear hC
      intro _ hC
      try simp only [Act.put, List.getElem_toArray, List.getElem_cons_zero, List.getElem_cons_succ, List.setIfInBounds_toArray, List.set_cons_zero, List.set_cons_succ]
      refine wpG_take (i := 17) (v := ?_) rfl (by kernel_rfl) (by kernel_rfl) (by kernel_rfl) (by kernel_rfl) (fun _ _ _ h => h) (by decide) (Or.inl ⟨by rfl, ?_⟩) hC (fun _ => hS) ?_
      rotate_left
      · (intro W hc; have hs := hc rfl; clear hc; go_simp; first | done | with_reducible rfl)
      clear hC
      intro _ hC
      try simp only [Act.put, List.getElem_toArray, List.getElem_cons_zero, List.getElem_cons_succ, List.setIfInBounds_toArray, List.set_cons_zero, List.set_cons_succ]
      refine wpG_take (i := 6) (v := ?_) rfl (by kernel_rfl) (by kernel_rfl) (by kernel_rfl) (by kernel_rfl) (fun _ _ _ h => h) (by decide) (Or.inl ⟨by rfl, ?_⟩) hC (fun _ => hS) ?_
      rotate_left
      · (intro W hc; have hs := hc rfl; clear hc; go_simp; first | done | with_reducible rfl)
      clear hC
      intro _ hC
      try simp only [Act.put, List.getElem_toArray, List.getElem_cons_zero, List.getElem_cons_succ, List.setIfInBounds_toArray, List.set_cons_zero, List.set_cons_succ]
      refine wpG_take (i := 12) (v := ?_) rfl (by kernel_rfl) (by kernel_rfl) (by kernel_rfl) (by kernel_rfl) (fun _ _ _ h => h) (by decide) (Or.inl ⟨by rfl, ?_⟩) hC (fun _ => hS) ?_
      rotate_left
      · (intro W hc; have hs := hc rfl; clear hc; go_simp; first | done | with_reducible rfl)
      clear hC
      intro _ hC
      try simp only [Act.put, List.getElem_toArray, List.getElem_cons_zero, List.getElem_cons_succ, List.setIfInBounds_toArray, List.set_cons_zero, List.set_cons_succ]
      refine wpG_take (i := 18) (v := ?_) rfl (by kernel_rfl) (by kernel_rfl) (by kernel_rfl) (by kernel_rfl) (fun _ _ _ h => h) (by decide) (Or.inl ⟨by rfl, ?_⟩) hC (fun _ => hS) ?_
      rotate_left
      · (intro W hc; have hs := hc rfl; clear hc; go_simp; first | done | with_reducible rfl)
      clear hC
      intro _ hC
      try simp only [Act.put, List.getElem_toArray, List.getElem_cons_zero, List.getElem_cons_succ, List.setIfInBounds_toArray, List.set_cons_zero, List.set_cons_succ]
      refine wpG_take (i := 19) (v := ?_) rfl (by kernel_rfl) (by kernel_rfl) (by kernel_rfl) (by kernel_rfl) (fun _ _ _ h => h) (by decide) (Or.inl ⟨by rfl, ?_⟩) hC (fun _ => hS) ?_
      rotate_left
      · (intro W hc; have hs := hc rfl; clear hc; go_simp; first | done | with_reducible rfl)
      clear hC
      intro _ hC
      try simp only [Act.put, List.getElem_toArray, List.getElem_cons_zero, List.getElem_cons_succ, List.setIfInBounds_toArray, List.set_cons_zero, List.set_cons_succ]
      refine wpG_one (i := 20) (by kernel_rfl) rfl hC (fun K hK => ?_)
      go_simp
      refine (CW.out _ hS).mono ?_
      rintro e y1 ⟨v3, rfl, hfi, hr3⟩
      obtain ⟨ao3, cap3, rfl, _, _, _⟩ := EdsV.facts hr3
      have HR3 := Lib.hid hr3
      have HZy1 : Hid (y0.heap.size ≤ y1.heap.size) := Lib.hid hfi.size
      have HSy1 : Hid (Fx No y0 y1) := Lib.hid hfi
      have hS2 := hS.trans hfi
      refine hK.out _ _ (fun _ => hS2) (fun _ hC' => ?_)
      clear hK K hS hC hfi hr3
      have hS := hS2
      have hC := hC'
      clear hS2 hC'
      try simp only [Act.put, List.getElem_toArray, List.getElem_cons_zero, List.getElem_cons_succ, List.setIfInBounds_toArray, List.set_cons_zero, List.set_cons_succ]
      refine wpG_one (i := 21) (by kernel_rfl) rfl hC (fun K hK => ?_)
      obtain ⟨q0, p0⟩ := hS.cellF HO0.out.1 HO0.out.2 (fun h => h)
      obtain ⟨q1, p1⟩ := hS.cellF HO1.out.1 HO1.out.2 (fun h => h)
      go_simp
      refine hK.out _ _ (fun h => absurd h (by decide +kernel)) (fun _ _ => ?_)
      clear hK K hC
      refine wpG_done (by kernel_rfl) ?_ _
      have HA2 : Hid (StB w1 ((y1.setCell ⟨ob, 0, none⟩ (.int .i64 N)).setCell ⟨ob, 1, none⟩ (.slice ao3 acc2.length cap3)) ob N (.slice ao3 acc2.length cap3) acc2) := Lib.hid (by
        obtain ⟨h1, h2⟩ := HA.out.lo
        obtain ⟨k1, k2, k3, k4⟩ := put_two y1 (qb := ob) (.int .i64 N) (.slice ao3 acc2.length cap3) q0 q1
        have z0 := hS0.size
        have z1 := hS.size
        have zy1 := HZy1.out
        refine ⟨((HA.out.fx.trans hS).setCell (.inl h1) _).setCell (.inl h1) _, ⟨k1, by simpa using p0⟩, ⟨k2, by simpa using p1⟩, ?_, h1, by rw [k4]; omega⟩
        refine RowV.mono (HR3.out.keep k3 fun x hx e => by have e : x = ob := e; rcases hx.1 with h | h <;> omega) fun x hx => ?_
        rw [k4]
        have h5 := hx.2
        exact ⟨by rcases hx.1 with h | h <;> omega, h5⟩)
      clear q0 q1 p0 p1 g1 g2 g3 g4 g5 g6 hS hS0 CW
      go_wp2
      go_roundw
      case rel => exact ⟨k + 1, _, by go_num, by omega, by rw [HNx.out]; exact HA2.out⟩
      case measure => simp [intOf]; omega
    · obtain rfl : k = L.length := by omega
      rw [List.take_length] at HSt
      have HBk : Hid (backL L = acc) := Lib.hid (by rw [HSt.out]; rfl)
      obtain ⟨q0, f0⟩ := HA.out.fx.cellF HQ0.out HF0.out (fun h => h)
      obtain ⟨q1, f1⟩ := HA.out.fx.cellF HQ1.out HFf1.out (fun h => h)
      obtain ⟨o0, _⟩ := HA.out.o0
      obtain ⟨o1, _⟩ := HA.out.o1
      have HRow := Lib.hid HA.out.row
      obtain ⟨g1, g2, g3, g4⟩ := put_two wr (qb := qb) (.int .i64 N) (.slice so acc.length sc) q0 q1
      have HH1 := Lib.hid g1
      have HH2 := Lib.hid g2
      have HH3 := Lib.hid g3
      have HH4 := Lib.hid g4
      clear g1 g2 g3 g4
      go_wp2
      refine bodyPost_ret (v := .agg #[.int .i64 N, .slice so acc.length sc]) (by have g1 := HH1.out; have g2 := HH2.out; simp [results, Try.results15, go_sem, g1, g2]) rfl ⟨.slice so acc.length sc, rfl, ?_, ?_⟩
      · exact ((HF1.out.trans HA.out.fx).setCell (.inl hq0) _).setCell (.inl hq0) _
      · rw [HBk.out]
        refine RowV.mono (HRow.out.keep HH3.out fun x hx e => by have h1 := hx.1; have e : x = qb := e; omega) fun x hx => ?_
        have h1 := hx.1
        have h2 := hx.2
        have h4 := HH4.out
        exact ⟨by omega, by omega⟩
theorem refIn_any (h : IntsV w D v zs) (n : Int) : Calls Try.prog 44 #[v, .int .i64 n] w fun e w' => e = .returned (.bool (decide (n ∈ zs))) ∧ w = w' := by
  obtain ⟨ao, cap, rfl, hln, hc⟩ := IntsV.facts h
  have HC := Lib.hid hc
  obtain ⟨m, hm⟩ : ∃ m, m = zs.length := ⟨_, rfl⟩
  rw [← hm] at hln ⊢
  have HM := Lib.hid hm
  clear h hc hm
  go_enter Try.func44, Try.ntmps44
  go_wp2
  go_loopw [5] (fun i ws => ∃ k : Nat, i = .int .i64 k ∧ k ≤ m ∧ w = ws ∧ ∀ j, j < k → gi zs j ≠ n) (fun i _ => m - (intOf i).toNat)
  case atStart => exact ⟨0, rfl, Nat.zero_le _, rfl, fun j hj => by omega⟩
  case round =>
    obtain ⟨k, rfl, hk, hw, hq⟩ := hrel
    subst hw
    have HQ := Lib.hid hq
    clear hq
    by_cases hlt : k < m
    · obtain ⟨b, o, rfl, _, p⟩ := HC.out k (by rw [← HM.out]; exact hlt)
      have HMm : Hid (gi zs k ∈ zs) := Lib.hid (gi_mem (by rw [← HM.out]; exact hlt))
      obtain ⟨x, hx⟩ : ∃ x, x = gi zs k := ⟨_, rfl⟩
      rw [← hx] at p HMm
      have HX := Lib.hid hx
      have hk0 : (0 : Int) ≤ (k : Int) := by omega
      have hk1 : (k : Int) < (m : Int) := by omega
      clear hx
      by_cases he : x = n
      · subst he
        have HE : Hid (decide (x ∈ zs) = true) := Lib.hid (decide_eq_true HMm.out)
        have d1 : (x == x) = true := by simp
        go_wp2
        go_ret
        exact ⟨by rw [HE.out]; rfl, rfl⟩
      · have d1 : (x == n) = false := by simpa using he
        have HE := Lib.hid he
        clear he
        go_wp2
        go_roundw
        case rel => exact ⟨k + 1, by go_num, by omega, by first | rfl | trivial, fun j hj => by
          by_cases e : j = k
          · subst e; rw [← HX.out]; exact HE.out
          · exact HQ.out j (by omega)⟩
        case measure => simp [intOf]; omega
    · obtain rfl : k = m := by omega
      have HE : Hid (decide (n ∈ zs) = false) := Lib.hid (decide_eq_false fun hm => by
        obtain ⟨i, hi, e⟩ := List.getElem_of_mem hm
        exact HQ.out i (by rw [HM.out]; exact hi) (by rw [← e]; simp [gi, List.getD, hi]))
      go_wp2
      go_ret
      exact ⟨by rw [HE.out]; rfl, rfl⟩
theorem namedE_eq (zs : List Int) (f t l : Int) : namedE zs ⟨f, t, l⟩ = (decide (f ∈ zs) && decide (t ∈ zs)) := rfl
set_option maxRecDepth 100000 in
set_option maxHeartbeats 4000000 in
theorem refOnly_any (h : EdsV w D v L) (hz0 : IntsV w E u zs) (N : Int) (hl : L.length ≤ 1000000) : Calls Try.prog 16 #[.agg #[.int .i64 N, v], u] w fun e w' => ∃ v', e = .returned (.agg #[.int .i64 N, v']) ∧ Fx No w w' ∧ EdsV w' (fun k => w.heap.size ≤ k ∧ k < w'.heap.size) v' (L.filter (namedE zs)) := by
  obtain ⟨ii, hi, hz, hs, hb⟩ := info_parts info_edge13
  have H := Lib.hid h.bound
  obtain ⟨ao, cap, rfl, _, _, hc⟩ := h.facts
  have HC := Lib.hid hc
  have HZ0 := Lib.hid hz0
  clear h hc hz0
  go_enter Try.func16, Try.ntmps16
  go_wp2_with fail
  refine wp_hold (fun W => ∃ w1 : World, Fx No w w1 ∧ w1.heap.size = w.heap.size + 1 + 1 ∧ w1.cell? ⟨w.heap.size, 1, none⟩ = some (.slice ao L.length cap) ∧
    (w1.cell? ⟨w.heap.size + 1, 0, none⟩ = some (.int .i64 0) ∧ w1.frozen? ⟨w.heap.size + 1, 0, none⟩ = false) ∧ (w1.cell? ⟨w.heap.size + 1, 1, none⟩ = some (.slice none 0 0) ∧ w1.frozen? ⟨w.heap.size + 1, 1, none⟩ = false) ∧
    AccE w1 W (w.heap.size + 1 + 1) N (.slice none 0 0) [])
    ⟨(w.alloc (.cells #[.int .i64 N, .slice ao L.length cap] 30)).alloc (.cells #[.int .i64 0, .slice none 0 0] 30), ((Fx.refl No w).alloc _).alloc _, by simp, by go_simp, ⟨by go_simp, by go_simp⟩, ⟨by go_simp, by go_simp⟩, (Fx.refl No _).alloc _, by go_simp, ⟨by go_simp, by go_simp⟩, OwnT.nil _ _, by simp, by simp⟩ ?_
  rintro W0 ⟨w1, hF1, hz1, c1, ⟨q0, f0⟩, ⟨q1, f1⟩, hA⟩
  obtain ⟨cb, hcb⟩ : ∃ e, e = w.heap.size := ⟨_, rfl⟩
  rw [← hcb] at hz1 c1 q0 f0 q1 f1 hA ⊢
  obtain ⟨qb, hqb⟩ : ∃ e, e = cb + 1 := ⟨_, rfl⟩
  rw [← hqb] at hz1 q0 f0 q1 f1 hA ⊢
  obtain ⟨ob, hob⟩ : ∃ e, e = qb + 1 := ⟨_, rfl⟩
  rw [← hob] at hz1 hA ⊢
  have HF1 := Lib.hid hF1
  have HA := Lib.hid hA
  have HOb : Hid (ob = w1.heap.size) := Lib.hid hz1.symm
  have hqo : qb < ob := by omega
  have hcb1 : cb < w1.heap.size := by omega
  have hq0 : w.heap.size ≤ qb := by omega
  have hq1 : qb < w1.heap.size := by omega
  have hwob : w.heap.size ≤ ob := by omega
  have HQ0 := Lib.hid q0
  have HF0 := Lib.hid f0
  have HQ1 := Lib.hid q1
  have HFf1 := Lib.hid f1
  have HC1 := Lib.hid c1
  have hcq : ¬ cb = qb := by omega
  clear hF1 hA hcb hqb hob hz1 q0 f0 q1 f1 c1
  go_loopw [6] (fun i ws => ∃ (k : Nat) (vs : Value), i = .int .i64 k ∧ k ≤ L.length ∧ AccE w1 ws ob N vs ((L.take k).filter (namedE zs))) (fun i _ => L.length - (intOf i).toNat)
  case atStart => exact ⟨0, _, rfl, Nat.zero_le _, HA.out⟩
  case round =>
    obtain ⟨k, vs, rfl, hk, hA⟩ := hrel
    have hacl : ((L.take k).filter (namedE zs)).length ≤ k := Nat.le_trans (List.length_filter_le _ _) (by rw [List.length_take]; omega)
    obtain ⟨acc, hacc⟩ : ∃ a, a = (L.take k).filter (namedE zs) := ⟨_, rfl⟩
    rw [← hacc] at hA hacl
    have hacl2 : acc.length ≤ 1000001 := by omega
    have HSt := Lib.hid hacc
    obtain ⟨so, sc, rfl, _⟩ := SlV.ofOwns hA.own
    have HA := Lib.hid hA
    have c1 := hA.fx.cell' HC1.out (fun h => h)
    have hlo := hA.lo.2
    clear hA hacc hacl
    by_cases hlt : k < L.length
    · obtain ⟨b, o, rfl, hDb, p1, p2, p3⟩ := HC.out k hlt
      have hbw := World.block_lt_of_cell? w _ p1
      have hbw : b < w.heap.size := hbw
      have HW1 := Lib.hid (HF1.out.cell' p1 (fun h => h))
      have HW2 := Lib.hid (HF1.out.cell' p2 (fun h => h))
      have HW3 := Lib.hid (HF1.out.cell' p3 (fun h => h))
      have p1 := HA.out.fx.cell' HW1.out (fun h => h)
      have p2 := HA.out.fx.cell' HW2.out (fun h => h)
      have p3 := HA.out.fx.cell' HW3.out (fun h => h)
      have HNx0 : Hid ((L.take (k + 1)).filter (namedE zs) = acc ++ if namedE zs (gt L k) = true then [gt L k] else []) := Lib.hid (by rw [take_gt hlt, List.filter_append, ← HSt.out]; simp [List.filter_cons])
      obtain ⟨x, hx⟩ : ∃ x, x = gt L k := ⟨_, rfl⟩
      rw [← hx] at p1 p2 p3 HW1 HW2 HW3 HNx0
      obtain ⟨z, u', r⟩ := x
      simp only at p1 p2 p3 HW1 HW2 HW3
      have hkl : (k : Int) < (L.length : Int) := by omega
      have hk0 : (0 : Int) ≤ (k : Int) := by omega
      have hcbl : cb < w1.heap.size := hcb1
      have hob1 : w1.heap.size ≤ ob := Nat.le_of_eq HOb.out.symm
      have hw01 : w.heap.size ≤ w1.heap.size := HF1.out.size
      obtain ⟨t1, ht1⟩ : ∃ t, t = decide (z ∈ zs) := ⟨_, rfl⟩
      obtain ⟨t2, ht2⟩ : ∃ t, t = decide (u' ∈ zs) := ⟨_, rfl⟩
      rw [namedE_eq, ← ht1, ← ht2] at HNx0
      have CI1 : Hid (Calls Try.prog 44 #[u, .int .i64 z] wr fun e w' => e = .returned (.bool t1) ∧ wr = w') := Lib.hid (by rw [ht1]; exact refIn_any ((HZ0.out.keep HF1.out No.disj).keep HA.out.fx No.disj) z)
      have CI2 : Hid (Calls Try.prog 44 #[u, .int .i64 u'] wr fun e w' => e = .returned (.bool t2) ∧ wr = w') := Lib.hid (by rw [ht2]; exact refIn_any ((HZ0.out.keep HF1.out No.disj).keep HA.out.fx No.disj) u')
      clear hx ht1 ht2
      cases t1
      · have HNx : Hid ((L.take (k + 1)).filter (namedE zs) = acc) := Lib.hid (by rw [HNx0.out]; simp)
        go_wp2_with fail
        refine CI1.out.mono ?_
        rintro e w' ⟨rfl, rfl⟩
        go_wp2
        go_roundw
        case rel => exact ⟨k + 1, _, by go_num, by omega, by rw [HNx.out]; exact HA.out⟩
        case measure => simp [intOf]; omega
      · cases t2
        · have HNx : Hid ((L.take (k + 1)).filter (namedE zs) = acc) := Lib.hid (by rw [HNx0.out]; simp)
          go_wp2_with fail
          refine CI1.out.mono ?_
          rintro e w' ⟨rfl, rfl⟩
          go_wp2_with fail
          refine CI2.out.mono ?_
          rintro e w' ⟨rfl, rfl⟩
          go_wp2
          go_roundw
          case rel => exact ⟨k + 1, _, by go_num, by omega, by rw [HNx.out]; exact HA.out⟩
          case measure => simp [intOf]; omega
        · have HNx : Hid ((L.take (k + 1)).filter (namedE zs) = acc ++ [(⟨z, u', r⟩ : Ed)]) := Lib.hid (by rw [HNx0.out]; simp)
          go_wp2_with fail
          refine CI1.out.mono ?_
          rintro e w' ⟨rfl, rfl⟩
          go_wp2_with fail
          refine CI2.out.mono ?_
          rintro e w' ⟨rfl, rfl⟩
          clear c1 p1 p2 p3
          go_wp2_with fail
          refine wp_hold (fun W => AccE w1 W ob N (.slice so acc.length sc) acc) HA.out ?_
          rintro wx hX
          have HX := Lib.hid hX
          clear hX
          have c1 := HX.out.fx.cell' HC1.out (fun h => h)
          have p1 := HX.out.fx.cell' HW1.out (fun h => h)
          have p2 := HX.out.fx.cell' HW2.out (fun h => h)
          have p3 := HX.out.fx.cell' HW3.out (fun h => h)
          obtain ⟨o1, o2⟩ := HX.out.o1
          have hlo := HX.out.lo.2
          have hvs : ∀ g, (Value.slice so acc.length sc).ownBlock = some g → ob + 1 ≤ g := fun g e => (World.ownsRow.lt HX.out.own g e).1
          have HVs := Lib.hid hvs
          have s0 : Fx (fun g => (Value.slice so acc.length sc).ownBlock = some g ∨ g = ob) wx wx := Fx.refl _ _
          have ns : ∀ j, j < w1.heap.size → ¬ ((Value.slice so acc.length sc).ownBlock = some j ∨ j = ob) := fun j hj h => by
            rcases h with h | h
            · have := hvs j h; omega
            · omega
          have g0 : ∀ W, Fx (fun g => (Value.slice so acc.length sc).ownBlock = some g ∨ g = ob) wx W → W.cell? ⟨cb, 1, none⟩ = some (.slice (some ⟨b, o, none⟩) L.length cap) := fun W h => h.cell' c1 (ns _ hcbl)
          have g3 : ∀ W, Fx (fun g => (Value.slice so acc.length sc).ownBlock = some g ∨ g = ob) wx W → W.cell? ⟨b, o + k * 3, none⟩ = some (.int .i64 z) := fun W h => h.cell' p1 (ns _ (by show b < w1.heap.size; omega))
          have g4 : ∀ W, Fx (fun g => (Value.slice so acc.length sc).ownBlock = some g ∨ g = ob) wx W → W.cell? ⟨b, o + k * 3 + 1, none⟩ = some (.int .i64 u') := fun W h => h.cell' p2 (ns _ (by show b < w1.heap.size; omega))
          have g5 : ∀ W, Fx (fun g => (Value.slice so acc.length sc).ownBlock = some g ∨ g = ob) wx W → W.cell? ⟨b, o + k * 3 + 2, none⟩ = some (.int .i64 r) := fun W h => h.cell' p3 (ns _ (by show b < w1.heap.size; omega))
          have HOw : Hid (∀ W, Fx No wx W → W.ownsRow (ob + 1) 33 3 (.slice so acc.length sc) (acc.length) (icells e3 acc)) := Lib.hid fun W hf => by have := HX.out.own.no hf; unfold OwnT at this; simpa using this
          clear hvs c1 p1 p2 p3 ns
          refine wp_region_G 10 (fun b W => Fx (fun g => (Value.slice so acc.length sc).ownBlock = some g ∨ g = ob) wx W ∧ (b = false → W.cell? ⟨ob, 1, none⟩ = some (.slice so acc.length sc) ∧ W.frozen? ⟨ob, 1, none⟩ = false)) (by kernel_rfl) ⟨s0.drew, fun _ => ⟨o1, o2⟩⟩ ?_
          intro hS hC
          refine wpG_take (i := 0) (v := ?_) rfl (by kernel_rfl) (by kernel_rfl) (by kernel_rfl) (by kernel_rfl) (fun _ _ _ h => h) (by decide) (Or.inl ⟨by rfl, ?_⟩) hC hS ?_
          rotate_left
          · (intro W ⟨hf, hc⟩; have hc := hc rfl; go_simp; first | done | with_reducible rfl)
          clear hS hC
          intro hS hC
          try simp only [Act.put, List.setIfInBounds_toArray, List.set_cons_zero, List.set_cons_succ]
          refine wpG_take (i := 1) (v := ?_) rfl (by kernel_rfl) (by kernel_rfl) (by kernel_rfl) (by kernel_rfl) (fun _ _ _ h => h) (by decide) (Or.inl ⟨by rfl, ?_⟩) hC hS ?_
          rotate_left
          · (intro W ⟨hf, hc⟩; have hc := hc rfl; go_simp; first | done | with_reducible rfl)
          clear hS hC
          intro hS hC
          try simp only [Act.put, List.setIfInBounds_toArray, List.set_cons_zero, List.set_cons_succ]
          refine wpG_take (i := 2) (v := ?_) rfl (by kernel_rfl) (by kernel_rfl) (by kernel_rfl) (by kernel_rfl) (fun _ _ _ h => h) (by decide) (Or.inl ⟨by rfl, ?_⟩) hC hS ?_
          rotate_left
          · (intro W ⟨hf, hc⟩; have hc := hc rfl; go_simp; first | done | with_reducible rfl)
          clear hS hC
          intro hS hC
          try simp only [Act.put, List.setIfInBounds_toArray, List.set_cons_zero, List.set_cons_succ]
          refine wpG_take (i := 3) (v := ?_) rfl (by kernel_rfl) (by kernel_rfl) (by kernel_rfl) (by kernel_rfl) (fun _ _ _ h => h) (by decide) (Or.inl ⟨by rfl, ?_⟩) hC hS ?_
          rotate_left
          · (intro W ⟨hf, hc⟩; have hc := hc rfl; go_simp; first | done | with_reducible rfl)
          clear hS hC
          intro hS hC
          try simp only [Act.put, List.setIfInBounds_toArray, List.set_cons_zero, List.set_cons_succ]
          refine wpG_take (i := 4) (v := ?_) rfl (by kernel_rfl) (by kernel_rfl) (by kernel_rfl) (by kernel_rfl) (fun _ _ _ h => h) (by decide) (Or.inl ⟨by rfl, ?_⟩) hC hS ?_
          rotate_left
          · (intro W ⟨hf, hc⟩; have hc := hc rfl; go_simp; first | done | with_reducible rfl)
          clear hS hC
          intro hS hC
          try simp only [Act.put, List.setIfInBounds_toArray, List.set_cons_zero, List.set_cons_succ]
          refine wpG_take (i := 5) (v := ?_) rfl (by kernel_rfl) (by kernel_rfl) (by kernel_rfl) (by kernel_rfl) (fun _ _ _ h => h) (by decide) (Or.inl ⟨by rfl, ?_⟩) hC hS ?_
          rotate_left
          · (intro W ⟨hf, hc⟩; have hc := hc rfl; go_simp; first | done | with_reducible rfl)
          clear hS hC
          intro hS hC
          try simp only [Act.put, List.setIfInBounds_toArray, List.set_cons_zero, List.set_cons_succ]
          refine wpG_take (i := 6) (v := ?_) rfl (by kernel_rfl) (by kernel_rfl) (by kernel_rfl) (by kernel_rfl) (fun _ _ _ h => h) (by decide) (Or.inl ⟨by rfl, ?_⟩) hC hS ?_
          rotate_left
          · (intro W ⟨hf, hc⟩; have hc := hc rfl; go_simp; first | done | with_reducible rfl)
          clear hS hC
          intro hS hC
          try simp only [Act.put, List.setIfInBounds_toArray, List.set_cons_zero, List.set_cons_succ]
          refine wpG_one (i := 7) (by kernel_rfl) rfl hC (fun K hK => ?_)
          go_simp
          refine hK.out _ _ ⟨s0.drew.alloc _, fun _ => ((Fx.refl No _).drew.alloc _).cellF o1 o2 (fun h => h)⟩ (fun hS' hC' => ?_)
          clear hK K hS hC
          have hS := hS'
          have hC := hC'
          clear hS' hC'
          try simp only [Act.put, List.setIfInBounds_toArray, List.set_cons_zero, List.set_cons_succ]
          refine wpG_one (i := 8) (by kernel_rfl) rfl hC (fun K hK => ?_)
          refine step_append_kept rfl (.tmp 36) (.tmp 42) 28 rfl (ob + 1) 33 Try.underlying28 hi hz hs hb rfl (by decide) (.slice so acc.length sc) (acc.length) (icells e3 acc) (by simp [Act.eval]) (HOw.out _ ((Fx.refl No wx).drew.alloc _)) (fun _ => True) (.slice (some ⟨wx.heap.size, 0, none⟩) 1 1) 1 (ints [z, u', r]) (by simp [Act.eval]) (SlV.lit wx.drew 33 #[.int .i64 z, .int .i64 u', .int .i64 r] 3 1 rfl (by unfold maxLen; omega)) (ints_one _) (by omega) (by unfold maxLen; omega) (by omega) (by simp; omega) ?_
          intro v' w2 ho hfx hk3 hb2
          obtain ⟨g, gcap, rfl, hg1, hg2⟩ := ownsRow_pos ho (by omega)
          have hob : ¬ (Value.slice so acc.length sc).ownBlock = some ob := fun e => by have := HVs.out ob e; omega
          obtain ⟨t3, t4⟩ := ((Fx.refl No wx).drew.alloc (.cells #[.int .i64 z, .int .i64 u', .int .i64 r] 33)).cellF o1 o2 (fun h => h)
          obtain ⟨t3, t4⟩ := hfx.cellF t3 t4 hob
          have hS2 : Fx (fun b => (Value.slice so acc.length sc).ownBlock = some b ∨ b = ob) wx w2 := (s0.drew.alloc _).trans (hfx.mono fun _ _ e => .inl e)
          have HA5 := Lib.hid (HX.out.snoc (x := ⟨z, u', r⟩) ((Fx.refl No wx).drew.alloc _) hfx (by simpa [e3] using ho))
          refine hK.out _ _ ⟨hS2, fun _ => ⟨t3, t4⟩⟩ (fun hS' hC' => ?_)
          clear ho hfx hk3 hb2
          clear hK K hS hC
          have hS := hS'
          have hC := hC'
          clear hS' hC'
          try simp only [Act.put, List.setIfInBounds_toArray, List.set_cons_zero, List.set_cons_succ]
          refine wpG_take (i := 9) (v := ?_) rfl (by kernel_rfl) (by kernel_rfl) (by kernel_rfl) (by kernel_rfl) (fun _ _ _ h => h) (by decide) (Or.inl ⟨by rfl, ?_⟩) hC hS ?_
          rotate_left
          · (intro W ⟨hf, hc⟩; have hc := hc rfl; go_simp; first | done | with_reducible rfl)
          clear hS hC
          intro hS hC
          try simp only [Act.put, List.setIfInBounds_toArray, List.set_cons_zero, List.set_cons_succ]
          refine wpG_one (i := 10) (by kernel_rfl) rfl hC (fun K hK => ?_)
          go_simp
          refine hK.out _ _ ⟨Fx.setCell hS2 (a := ⟨ob, 1, none⟩) (.inr (.inr rfl)) _, fun h => absurd h (by decide +kernel)⟩ (fun _ _ => ?_)
          clear hK K hS hC
          refine wpG_done (by kernel_rfl) ?_ _
          clear o1 o2 t3 t4 hS2 s0 g0 g3 g4 g5
          go_wp2
          go_roundw
          case rel => exact ⟨k + 1, _, by go_num, by omega, by rw [HNx.out]; exact HA5.out⟩
          case measure => simp [intOf]; omega
    · obtain rfl : k = L.length := by omega
      rw [List.take_length] at HSt
      have HBk : Hid (L.filter (namedE zs) = acc) := Lib.hid (by rw [HSt.out])
      obtain ⟨q0, f0⟩ := HA.out.fx.cellF HQ0.out HF0.out (fun h => h)
      obtain ⟨q1, f1⟩ := HA.out.fx.cellF HQ1.out HFf1.out (fun h => h)
      have o0 := HA.out.o0
      obtain ⟨o1, _⟩ := HA.out.o1
      have HRow := Lib.hid HA.out.own.row
      obtain ⟨g1, g2, g3, g4⟩ := put_two wr (qb := qb) (.int .i64 N) (.slice so acc.length sc) q0 q1
      have HH1 := Lib.hid g1
      have HH2 := Lib.hid g2
      have HH3 := Lib.hid g3
      have HH4 := Lib.hid g4
      clear g1 g2 g3 g4
      go_wp2
      refine bodyPost_ret (v := .agg #[.int .i64 N, .slice so acc.length sc]) (by have g1 := HH1.out; have g2 := HH2.out; simp [results, Try.results16, go_sem, g1, g2]) rfl ⟨.slice so acc.length sc, rfl, ?_, ?_⟩
      · exact ((HF1.out.trans HA.out.fx).setCell (.inl hq0) _).setCell (.inl hq0) _
      · rw [HBk.out]
        refine RowV.mono (HRow.out.keep HH3.out fun x hx e => by have h1 := hx.1; have e : x = qb := e; omega) fun x hx => ?_
        have h1 := hx.1
        have h2 := hx.2
        have h4 := HH4.out
        exact ⟨by omega, by omega⟩
end
#print axioms refBack_any
#print axioms refIn_any
#print axioms refOnly_any
end Go.Proofs.Ytcfajeldkioomaa
