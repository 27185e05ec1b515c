/- A range over a function, where taking the round's value makes a box. For every seat. No program in sight. | The graph turned about: Back; the keys of the map of edges, one by one. | The graph turned about: Back. -/
import Derived.Test.YtfpggeiphbekoaaGreatDoorA3
import Derived.Test.YtfpggeiphbekoaaGreatDoorB5
import Derived.Sort.MapsRangeIn

namespace Go.Proofs.YtfpggeiphbekoaaGreatDoor.Gr
open Go.RowKit
set_option linter.unusedVariables false

theorem range_law3 {α : Type} {n : Nat} {P : Program} {g : Operand} {ps : Array Tmp} {assign body : Code} {Q : Exit → Act → World → Prop} {a : Act} {w : World}
    {gf : Nat} {lb : Array Value} (hg : a.eval g = .func (.func gf) #[] lb) (eg : ∀ args w, (callFunc gf args).run P w = .ok (.enter gf args) w)
    (encs : α → Array Value) (hps : ∀ x, (encs x).size = ps.size) (G : List α → α → Prop) (Pv Bd : Nat → Prop) (hB0 : ¬ Bd w.heap.size) (hB1 : ¬ Bd (w.heap.size + 1)) (hP0 : ¬ Pv w.heap.size) (hP1 : ¬ Pv (w.heap.size + 1))
    (S Sp : List α → Prop) (I : List α → World → Prop) (Ix : Code → List α → World → Prop) (hI : Kept (fun k => Pv k ∨ k = w.heap.size + 1) I) (hIx : ∀ c, Kept (fun k => Pv k ∨ k = w.heap.size + 1) (Ix c))
    (h0 : I [] w) (A : α → World → World) (hA : ∀ x W, Fx No W (A x W)) (a₁ : α → World → Act)
    (hassign : ∀ (x : α) (W : World) (K : Act → World → Prop), K (a₁ x W) (A x W) →
      assign.wpIn (Fence.wide.inRound (w.heap.size + 1)) (n - 1 - 1) P (Exit.then K (fun _ _ _ => False)) { tmps := (ps.zip (encs x)).foldl (fun t (p, v) => t.setIfInBounds p v) a.tmps, defers := [] } W)
    (hbody : ∀ (pre : List α) (x : α) (W0 W : World), G pre x → I pre W → w.heap.size + 2 ≤ W0.heap.size → Fx (fun k => k = w.heap.size + 1) (A x W0) W → body.wpIn (Fence.wide.inRound (w.heap.size + 1)) (n - 1 - 1) P (rangeOut Bd I Ix (pre ++ [x]) W) (a₁ x W0) W)
    (hit : ∀ (W : World) (J Jx : List α → World → Prop), Fx No w W → W.heap.size = w.heap.size + 2 → Kept Pv J → Kept Pv Jx → RoundAt (n - 1 - 1) P (w.heap.size + 1) encs G Bd J Jx → J [] W →
      CallsIn Fence.wide (n - 1) P gf (#[.func (.yield (w.heap.size + 1)) #[] #[]] ++ lb) W fun e W' => (∃ v, e = .returned v) ∧ ((∃ xs, S xs ∧ J xs W') ∨ (∃ pre, Sp pre ∧ Jx pre W')))
    (hdone : ∀ (xs : List α) (W : World), S xs → I xs W → W.heap[w.heap.size]? = some (.deferred (some [])) → Q .normal { a with defers := { target := .collected w.heap.size, args := #[] } :: a.defers } W)
    (hstop : ∀ (c : Code) (pre : List α) (W : World), Sp pre → Ix c pre W → W.heap[w.heap.size]? = some (.deferred (some [])) → c.wpIn Fence.wide n P Q { a with defers := { target := .collected w.heap.size, args := #[] } :: a.defers } W) :
    (Code.rangeFunc g ps assign body).wpIn Fence.wide n P Q a w := by
  refine wpIn_rangeFunc fun fn hfn => ?_
  obtain ⟨rec, hrec⟩ : ∃ rec : LoopState → Option Code → Loop, rec = fun st pe => { state := st, pending := pe, fn, tmps := a.tmps, params := ps, assign, body, defers := w.heap.size } := ⟨_, rfl⟩
  obtain ⟨W1, hW1⟩ : ∃ W1, (w.alloc (.deferred (some []))).alloc (.loop (rec .ready none)) = W1 := ⟨_, rfl⟩
  have f1 : Fx No w W1 := by rw [← hW1]; exact ((Fx.refl No w).alloc _).alloc _
  have s1 : W1.heap.size = w.heap.size + 2 := by rw [← hW1]; simp
  have hL1 : W1.heap[w.heap.size + 1]? = some (.loop (rec .ready none)) := by
    rw [← hW1]; have := World.alloc_heap_new (w.alloc (.deferred (some []))) (.loop (rec .ready none)); rwa [World.size_alloc] at this
  have hK1 : W1.heap[w.heap.size]? = some (.deferred (some [])) := by
    rw [← hW1]; exact (Below.heap_alloc _ _ _ (by simp)).trans (World.alloc_heap_new w _)
  have hI1 : I [] W1 := hI _ _ _ h0 f1.no
  refine ⟨w.heap.size + 1, [{ target := .collected w.heap.size, args := #[] }], W1, { target := .fn (.func gf) lb, args := #[.func (.yield (w.heap.size + 1)) #[] #[]] }, W1, gf,
    #[.func (.yield (w.heap.size + 1)) #[] #[]] ++ lb, W1, ?_, ?_, fun f' _ => trivial, ?_, (fun h => by cases h), ?_⟩
  · rw [← hW1, hrec]; exact run_enterLoop_outer _ _ _ _ _
  · simp only [resolve, hg]
    simp [go_sem]
  · simp [invoke, go_sem, eg]
  · -- the two facts of book-keeping ride beside the caller's own
    have keep : ∀ {W W' : World} {T : Nat → Prop} {st : LoopState} {pe : Option Code}, ¬ T w.heap.size → ¬ T (w.heap.size + 1) → Fx T W W' →
        W.heap[w.heap.size + 1]? = some (.loop (rec st pe)) ∧ W.heap[w.heap.size]? = some (.deferred (some [])) →
        W'.heap[w.heap.size + 1]? = some (.loop (rec st pe)) ∧ W'.heap[w.heap.size]? = some (.deferred (some [])) :=
      fun h1 h2 hf h => ⟨hf.at_ h.1 h2, hf.at_ h.2 h1⟩
    have turn : ∀ {W : World} {r : Loop} {r' : Loop}, W.heap[w.heap.size + 1]? = some (.loop r) ∧ W.heap[w.heap.size]? = some (.deferred (some [])) →
        (W.putObj (w.heap.size + 1) (.loop r')).heap[w.heap.size + 1]? = some (.loop r') ∧ (W.putObj (w.heap.size + 1) (.loop r')).heap[w.heap.size]? = some (.deferred (some [])) :=
      fun h => ⟨World.putObj_heap_same (Array.getElem?_eq_some_iff.1 h.1).1, (World.putObj_heap_other (by omega)).trans h.2⟩
    refine (hit W1
      (fun pre W => I pre W ∧ W.heap[w.heap.size + 1]? = some (.loop (rec .ready none)) ∧ W.heap[w.heap.size]? = some (.deferred (some [])))
      (fun pre W => ∃ c, Ix c pre W ∧ W.heap[w.heap.size + 1]? = some (.loop (rec .done (some c))) ∧ W.heap[w.heap.size]? = some (.deferred (some [])))
      f1 s1
      (fun s A B hs hf => ⟨hI s A B hs.1 (hf.mono fun _ _ h => .inl h), keep hP0 hP1 hf hs.2⟩)
      (fun s A B hs hf => let ⟨c, hc, hl⟩ := hs; ⟨c, hIx c s A B hc (hf.mono fun _ _ h => .inl h), keep hP0 hP1 hf hl⟩)
      ?_ ⟨hI1, hL1, hK1⟩).mono ?_
    · -- one round
      rintro pre x W hG ⟨hi, hl⟩
      have hlt : w.heap.size + 1 < W.heap.size := (Array.getElem?_eq_some_iff.1 hl.1).1
      have hy := run_yield (P := P) (args := encs x) hl.1 (by rw [hrec]; exact hps x)
      rw [hrec] at hy
      have hlA := keep (T := No) (fun h => h) (fun h => h) (hA x W) hl
      refine ⟨fn, _, assign, body, hy, roundIn_of_wpIn hfn (hassign x W _ ⟨_, run_beginRound hlA.1 (by rw [hrec]), ?_⟩)⟩
      have hl2 := turn (r' := { rec .ready none with state := .busy }) hlA
      have hf1 : Fx (fun k => k = w.heap.size + 1) (A x W) ((A x W).putObj (w.heap.size + 1) (.loop { rec .ready none with state := .busy })) := Fx.putObj _ _ _ rfl
      have hf2 : Fx (fun k => Bd k ∨ k = w.heap.size + 1) W ((A x W).putObj (w.heap.size + 1) (.loop { rec .ready none with state := .busy })) := (hA x W).no.trans (hf1.mono fun _ _ e => .inr e)
      refine wpIn_mono (hbody pre x W _ hG (hI _ _ _ (hI _ _ _ hi (hA x W).no) (hf1.mono fun _ _ e => .inr e)) (by omega) hf1) ?_
      have fin : ∀ (jump : Option Code) (W3 : World), Fx Bd ((A x W).putObj (w.heap.size + 1) (.loop { rec .ready none with state := .busy })) W3 →
          (Instr.endRound (w.heap.size + 1) jump).run P W3 = .ok (.bool jump.isNone) (W3.putObj (w.heap.size + 1) (.loop (rec (if jump.isNone then .ready else .done) jump))) ∧
          ((W3.putObj (w.heap.size + 1) (.loop (rec (if jump.isNone then .ready else .done) jump))).heap[w.heap.size + 1]? = some (.loop (rec (if jump.isNone then .ready else .done) jump)) ∧
          (W3.putObj (w.heap.size + 1) (.loop (rec (if jump.isNone then .ready else .done) jump))).heap[w.heap.size]? = some (.deferred (some []))) := fun jump W3 hk3 => by
        have hl3 := keep (st := .busy) (pe := none) hB0 hB1 hk3 (by rw [hrec] at hl2 ⊢; exact hl2)
        have := run_endRound (P := P) jump hl3.1
        refine ⟨?_, turn hl3⟩
        rw [hrec] at this ⊢
        exact this
      rintro e a3 W3 hp
      cases e with
      | normal =>
        obtain ⟨hk3, hi3⟩ := hp
        obtain ⟨hr, hl4⟩ := fin none W3 hk3
        exact ⟨_, _, hr, .inl ⟨rfl, ⟨hI _ _ _ hi3 (Fx.putObj _ _ _ (.inr rfl)), hl4⟩, (hf2.trans (hk3.mono fun _ _ h => .inl h)).trans (Fx.putObj _ _ _ (.inr rfl))⟩⟩
      | ret =>
        obtain ⟨hk3, hi3⟩ := hp
        obtain ⟨hr, hl4⟩ := fin (some .ret) W3 hk3
        exact ⟨_, _, hr, .inr ⟨rfl, .ret, hIx _ _ _ _ hi3 (Fx.putObj _ _ _ (.inr rfl)), hl4⟩⟩
      | exit id =>
        obtain ⟨hk3, hi3⟩ := hp
        obtain ⟨hr, hl4⟩ := fin (some (.exit id)) W3 hk3
        exact ⟨_, _, hr, .inr ⟨rfl, .exit id, hIx _ _ _ _ hi3 (Fx.putObj _ _ _ (.inr rfl)), hl4⟩⟩
      | goto t =>
        obtain ⟨hk3, hi3⟩ := hp
        obtain ⟨hr, hl4⟩ := fin (some (.goto t)) W3 hk3
        exact ⟨_, _, hr, .inr ⟨rfl, .goto t, hIx _ _ _ _ hi3 (Fx.putObj _ _ _ (.inr rfl)), hl4⟩⟩
      | panic ch => exact hp.elim
      | outgrown => exact hp.elim
    · -- behind the iterator
      rintro e W2 ⟨⟨v, rfl⟩, (⟨xs, hS, hi, hl⟩ | ⟨pre, hSp, c, hi, hl⟩)⟩
      · exact ⟨none, _, by have := run_endLoop (P := P) hl.1 (by rw [hrec]; simp); rw [hrec] at this; exact this, hdone xs _ hS (hI _ _ _ hi (Fx.putObj _ _ _ (.inr rfl))) (turn hl).2⟩
      · exact ⟨some c, _, by have := run_endLoop (P := P) hl.1 (by rw [hrec]; simp); rw [hrec] at this; exact this, hstop c pre _ hSp (hIx c _ _ _ hi (Fx.putObj _ _ _ (.inr rfl))) (turn hl).2⟩
#print axioms range_law3
end Go.Proofs.YtfpggeiphbekoaaGreatDoor.Gr

namespace Go.Proofs.YtfpggeiphbekoaaGreatDoor.Gr
open Go.RowKit Go.Shelf
set_option linter.unusedVariables false
attribute [local go_sem] Oper.semAt_some

theorem ranges_fx {w w' : World} {S : Nat → Prop} {k : TypeId} {R : Value → Option (DataW Unit × List MemPlace)} {b r n : Nat} {D : DataW Unit} {left : Lit → Bool} {cnt : Nat} (h : w.ranges Tryz.prog k R b r n D left cnt) (hf : Fx S w w') (hb : ¬ S b) (hr : ¬ S r) : w'.ranges Tryz.prog k R b r n D left cnt := by
  obtain ⟨es, clock, since, seen, c0, h1, h2, h3, h4, h5, rest⟩ := h
  exact ⟨es, clock, since, seen, c0, hf.at_ h1 hb, h2, h3, h4, hf.at_ h5 hr, rest⟩
def encE (x : Ed) : Array Value := #[.agg #[.int .i64 x.f, .int .i64 x.t, .int .i64 x.l]]
section
variable {w w' : World} {D S E : Nat → Prop} {b n : Nat} {L : List Ed}
theorem keys_any (mb : Nat) (w : World) : Calls Tryz.prog 95 #[.map (some mb)] w fun e w' => e = .returned (.func (.func 105) #[] #[.pointer (some ⟨w.heap.size, 0, none⟩)]) ∧
      w' = w.alloc (.cells #[.map (some mb)] 106) := by
  go_enter Tryz.func95, Tryz.ntmps95
  go_wp2
  go_ret
  exact ⟨rfl, rfl⟩
set_option maxRecDepth 100000 in
set_option maxHeartbeats 2000000 in
theorem keys1_iter {m l cb mb : Nat} {Bd : Nat → Prop} {J Jx : List Ed → World → Prop} {W : World} (hc : W.cell? ⟨cb, 0, none⟩ = some (.map (some mb))) (hm : MapE W mb L) (hbm : ¬ Bd mb ∧ mb ≠ l) (hbr : ¬ Bd W.heap.size ∧ W.heap.size ≠ l)
    (hJ : Kept (fun k => k = W.heap.size) J) (hY : RoundAt (m - 1) Tryz.prog l encE (fun _ x => x ∈ L) Bd J Jx) (h0 : J [] W) :
    CallsIn Fence.wide m Tryz.prog 105 #[.func (.yield l) #[] #[], .pointer (some ⟨cb, 0, none⟩)] W fun e W' => (∃ v, e = .returned v) ∧
      ((∃ xs, (∀ x, x ∈ xs ↔ x ∈ L) ∧ J xs W') ∨ (∃ pre, pre ≠ [] ∧ Jx pre W')) := by
  obtain ⟨hok, DD, hown, hhas, hsz, hinv⟩ := hm
  have HOwn := Lib.hid hown
  have HHas := Lib.hid hhas
  have HOk := Lib.hid hok
  have HJ := Lib.hid hJ
  have HY := Lib.hid hY
  have HJ0 := Lib.hid h0
  have Hbm := Lib.hid hbm
  have Hbr := Lib.hid hbr
  clear hown hhas hok hsz hinv hJ hY h0 hbm hbr
  refine callsIn_of_wp Tryz.func105 rfl trivial ?_ rfl
  simp only [Tryz.ntmps105, List.size_toArray, List.length_cons, List.length_nil, Nat.reduceAdd, Nat.reduceSub, Array.replicate_succ, Array.replicate_zero, List.push_toArray, List.append_toArray, List.nil_append, List.cons_append]
  gi_wp2_with (first | (gi_at_range; refine wpListIn_range_own _ rfl _ 106 rfl 27 128 law_edge Tryz.underlying106 unitR mb L.length DD rfl HOwn.out ?_; intro w0 hrg0 hg0 hs0) | gi_in)
  go_frame
  obtain ⟨r, hr⟩ : ∃ r, r = W.heap.size := ⟨_, rfl⟩
  rw [← hr] at hrg0 Hbr HJ ⊢
  have HF0 : Hid (Fx No W w0) := Lib.hid (Fx.ofGrown hg0 fun k h _ => by cases h)
  have HRg0 := Lib.hid hrg0
  clear hrg0 hg0 hs0 hr
  gi_loopw [3] (fun _ ws => ∃ (left : Lit → Bool) (cnt : Nat) (pre : List Ed), ws.ranges Tryz.prog 27 unitR mb r L.length DD left cnt ∧ (∀ kl, left kl = true → Maps.has DD kl = true) ∧ (∀ x ∈ L, left (keyE x) = false → x ∈ pre) ∧ (∀ x ∈ pre, x ∈ L) ∧ J pre ws) (fun _ ws => ws.rangeLeft mb r)
  case atStart => exact ⟨_, _, [], HRg0.out, fun _ h => h, fun x hx h => (by rw [HHas.out x (HOk.out x hx), decide_eq_true hx] at h; cases h), fun x hx => (by simp at hx), HJ.out _ _ _ HJ0.out HF0.out.no⟩
  case round =>
    obtain ⟨left, cnt, pre, hrg, hle, hsub, hpl, hJp⟩ := hrel
    have HRg := Lib.hid hrg
    have HLe := Lib.hid hle
    have HSub := Lib.hid hsub
    have HPl := Lib.hid hpl
    have HJp := Lib.hid hJp
    clear hrg hle hsub hpl hJp
    gi_wp2_with (first | (gi_at_next; refine wpListIn_next_ranges _ rfl _ rfl 27 law_edge unitR evE (fun _ : Unit => Value.agg #[]) (fun key kl h => by obtain ⟨x, h1, _⟩ := key_inv h; exact ⟨x, h1⟩) (fun v y h => ⟨(), (unitElem_inv h).1⟩) mb r L.length DD left cnt rfl HRg.out ?_ ?_) | gi_in)
    · intro hc0 hl0
      have HAll : Hid (∀ x, x ∈ pre ↔ x ∈ L) := Lib.hid fun x => ⟨HPl.out x, fun hx => HSub.out x hx (hl0 _)⟩
      clear hl0
      gi_wp2
      go_end0
      exact ⟨⟨_, rfl⟩, .inl ⟨pre, HAll.out, HJp.out⟩⟩
    · intro x kl y1 y2 w1 cnt1 hkx hlx hy hat hrg1 hlt hg1 hs1 hen
      obtain ⟨x', hx', hokx⟩ := key_inv hkx
      obtain rfl : x = x' := by simp [evE] at hx'; exact Ed.ext' hx'.1 hx'.2.1 hx'.2.2
      obtain rfl : kl = keyE x := Option.some.inj (hkx.symm.trans (key_edge hokx))
      have hxL : x ∈ L := by
        have h1 := HLe.out _ hlx
        rw [HHas.out x hokx] at h1
        exact of_decide_eq_true h1
      have HF1 : Hid (Fx (fun j => j = r) wr w1) := Lib.hid (Fx.ofGrown hg1 fun k hk _ => by simpa using hk.symm)
      have HRg1 := Lib.hid hrg1
      have hms : w1.rangeLeft mb r < wr.rangeLeft mb r := by rw [HRg.out.left_eq, hrg1.left_eq]; exact hlt
      have HMs := Lib.hid hms
      have HXL := Lib.hid hxL
      have HLe2 : Hid (∀ kl, (left kl && !kl.sameKey (keyE x)) = true → Maps.has DD kl = true) := Lib.hid fun kl h => HLe.out kl (by simp at h; exact h.1)
      have HSub2 : Hid (∀ z ∈ L, (left (keyE z) && !(keyE z).sameKey (keyE x)) = false → z ∈ pre ++ [x]) := Lib.hid fun z hz h => by
        cases hlz : left (keyE z) with
        | false => exact List.mem_append_left _ (HSub.out z hz hlz)
        | true =>
          rw [hlz] at h
          by_cases hzx : keyE z = keyE x
          · rw [keyE_inj (HOk.out z hz) (HOk.out _ HXL.out) hzx]; simp
          · rw [Maps.sameKey_ne hzx] at h; simp at h
      have HPl2 : Hid (∀ z ∈ pre ++ [x], z ∈ L) := Lib.hid fun z hz => by
        rcases List.mem_append.1 hz with h | h
        · exact HPl.out z h
        · rw [List.mem_singleton] at h; rw [h]; exact HXL.out
      obtain ⟨x1, x2, x3⟩ := x
      unfold evE at hen ⊢
      simp only at hen ⊢
      have HJ1 : Hid (J pre (w1.alloc (.cells #[.int .i64 x1, .int .i64 x2, .int .i64 x3] 27))) := Lib.hid (HJ.out _ _ _ (HJ.out _ _ _ HJp.out HF1.out) ((Fx.refl No _).alloc _).no)
      have HRg2 := Lib.hid (HRg1.out.alloc (.cells #[.int .i64 x1, .int .i64 x2, .int .i64 x3] 27))
      obtain ⟨fn, tmps, assign, body, hy, hRd⟩ := HY.out pre ⟨x1, x2, x3⟩ _ HXL.out HJ1.out
      unfold encE at hy
      have HRd := Lib.hid hRd
      clear hx' hkx hlx hat hrg1 hlt hg1 hs1 hms hxL hRd hokx
      gi_wp2_with fail
      refine ⟨(fun h => by cases h), HRd.out.mono ?_⟩
      rintro e W3 (⟨rfl, hJ3, hk3⟩ | ⟨rfl, hJx3⟩)
      · have HJ3 := Lib.hid hJ3
        have HRg3 := Lib.hid (ranges_fx HRg2.out hk3 (by rintro (h | h); exact Hbm.out.1 h; exact Hbm.out.2 h) (by rintro (h | h); exact Hbr.out.1 h; exact Hbr.out.2 h))
        clear hk3 hJ3
        gi_wp2
        go_roundw
        case rel => exact ⟨_, cnt1, pre ++ [⟨x1, x2, x3⟩], HRg3.out, HLe2.out, HSub2.out, HPl2.out, HJ3.out⟩
        case measure => rw [HRg3.out.left_eq, ← HRg1.out.left_eq]; exact HMs.out
      · have HJx3 := Lib.hid hJx3
        clear hJx3
        gi_wp2
        refine bodyPost_ret (results_none rfl _ _ _) rfl ⟨⟨_, rfl⟩, .inr ⟨_, ?_, HJx3.out⟩⟩
        simp
set_option maxRecDepth 100000 in
theorem turned_any (x : Ed) (w : World) : Calls Tryz.prog 96 #[.agg #[.int .i64 x.f, .int .i64 x.t, .int .i64 x.l]] w fun e w' => e = .returned (.agg #[.int .i64 x.t, .int .i64 x.f, .int .i64 x.l]) ∧ Fx No w w' := by
  go_enter Tryz.func96, Tryz.ntmps96
  go_wp2
  refine bodyPost_ret (v := .agg #[.int .i64 x.t, .int .i64 x.f, .int .i64 x.l]) (by simp [results, Tryz.results96, go_sem]) rfl ⟨rfl, ((Fx.refl No w).alloc _).alloc _⟩
end
#print axioms keys1_iter
#print axioms turned_any
end Go.Proofs.YtfpggeiphbekoaaGreatDoor.Gr

namespace Go.Proofs.YtfpggeiphbekoaaGreatDoor.Gr
open Go.RowKit Go.Shelf
set_option linter.unusedVariables false
attribute [local go_sem] Oper.semAt_some

/-- between two rounds: what has been added -/
structure BackI (w : World) (hs bb b' n : Nat) (L : List Ed) (pre : List Ed) (W : World) : Prop where
  fx : Fx No w W
  g : ∃ D, GraphV W D b' n (addL [] (pre.map turnE)) ∧ ∀ j, D j → w.heap.size ≤ j ∧ (j < hs ∨ hs + 3 ≤ j) ∧ j ≠ bb
  box : W.cell? ⟨bb, 0, none⟩ = some (.pointer (some ⟨b', 0, none⟩))
  sub : ∀ x ∈ pre, x ∈ L
theorem BackI.fx' {w : World} {hs bb b' n : Nat} {L pre : List Ed} {A B : World} (h : BackI w hs bb b' n L pre A) {S : Nat → Prop} (hf : Fx S A B) (hS : ∀ j, S j → hs ≤ j ∧ j < hs + 3) (hb : bb < hs) (hw : w.heap.size ≤ hs) : BackI w hs bb b' n L pre B := by
  obtain ⟨D, h1, h2⟩ := h.g
  exact ⟨h.fx.trans' hf fun j h3 h4 => by have := hS j h3; omega, ⟨D, h1.keep hf fun j h3 h4 => by have := (h2 j h3).2.1; have := hS j h4; omega, h2⟩, hf.cell' h.box fun h3 => by have := hS _ h3; have h3 : hs ≤ bb := this.1; omega, h.sub⟩
theorem addL_len_le {L pre : List Ed} (hp : pre.Nodup) (hs : ∀ x ∈ pre, x ∈ L) (ha : Asc L) : (addL [] (pre.map turnE)).length ≤ L.length := by
  refine Nat.le_trans ?_ (backL_len L)
  refine asc_len (backL_asc L) (addL_asc Asc.nil _) fun x hx => ?_
  rw [mem_addL] at hx
  rw [mem_backL]
  rcases hx with hx | hx
  · simp at hx
  · obtain ⟨y, hy, rfl⟩ := List.mem_map.1 hx
    exact hs y hy
theorem addL_len_sub {L pre : List Ed} (hs : ∀ x ∈ pre, x ∈ L) : (addL [] (pre.map turnE)).length ≤ L.length := by
  refine Nat.le_trans ?_ (backL_len L)
  refine asc_len (backL_asc L) (addL_asc Asc.nil _) fun x hx => ?_
  rw [mem_addL] at hx
  rw [mem_backL]
  rcases hx with hx | hx
  · simp at hx
  · obtain ⟨y, hy, rfl⟩ := List.mem_map.1 hx
    exact hs y hy
theorem backL_all {L xs : List Ed} (h : ∀ x, x ∈ xs ↔ x ∈ L) : addL [] (xs.map turnE) = backL L :=
  Asc.same (addL_asc Asc.nil _) (backL_asc L) fun x => by
    rw [mem_addL, mem_backL, List.mem_map]
    constructor
    · rintro (h1 | ⟨y, hy, rfl⟩)
      · simp at h1
      · exact (h y).1 hy
    · intro h1; exact .inr ⟨_, (h _).2 h1, rfl⟩
section
variable {w w' : World} {D : Nat → Prop} {b n : Nat} {L : List Ed}
set_option maxRecDepth 100000 in
set_option maxHeartbeats 4000000 in
theorem gBack_any (h : GraphV w D b n L) (hl : L.length ≤ 999999) : Calls Tryz.prog 79 #[.pointer (some ⟨b, 0, none⟩)] w fun e w' => ∃ b', e = .returned (.pointer (some ⟨b', 0, none⟩)) ∧ Fx No w w' ∧ ∃ D', GraphV w' D' b' n (backL L) ∧ ∀ x, D' x → w.heap.size ≤ x := by
  have H := Lib.hid h
  obtain ⟨ob, ib, mb, DO, DI, hp⟩ := h.ex
  have HP := Lib.hid hp
  have HAs := Lib.hid h.asc
  have HNd := Lib.hid h.nodes
  have HOkL := Lib.hid hp.map.ok
  have hnn := h.nn
  have hmix : Tryz.prog.follows .mixedOrders = true := by kernel_rfl
  clear h hp
  refine (callsIn_wide (n := 6)).1 ?_
  refine callsIn_of_wp_marks Tryz.func79 rfl trivial ?_ rfl
  simp only [Tryz.ntmps79, List.size_toArray, List.length_cons, List.length_nil, Nat.reduceAdd, Nat.reduceSub, Array.replicate_succ, Array.replicate_zero, List.push_toArray, List.append_toArray, List.nil_append, List.cons_append]
  gi_wp2_with fail
  refine ⟨trivial, (callsIn_wide.2 (gLen_any H.out)).mono ?_⟩
  rintro e w' ⟨rfl, rfl⟩
  gi_wp2_with fail
  refine ⟨trivial, (callsIn_wide.2 (gMade_any n _ hnn)).mono ?_⟩
  rintro e w1 ⟨b', rfl, hf, hg⟩
  have c2 := hf.cell' HP.out.c2 (fun h => h)
  have hlt2 := World.block_lt_of_cell? w1 _ c2
  have hlt2 : b < w1.heap.size := hlt2
  have HF1 := Lib.hid hf
  have HG1 := Lib.hid hg
  clear hf hg
  gi_wp2_with fail
  refine ⟨trivial, (callsIn_wide.2 (keys_any mb _)).mono ?_⟩
  rintro e w' ⟨rfl, rfl⟩
  simp only [World.size_alloc]
  obtain ⟨wq, hwq⟩ : ∃ wq, (w1.alloc (.cells #[.pointer (some ⟨b', 0, none⟩)] 51)).alloc (.cells #[.map (some mb)] 106) = wq := ⟨_, rfl⟩
  have hsq : wq.heap.size = w1.heap.size + 2 := by rw [← hwq]; simp
  have hfq : Fx No w1 wq := by rw [← hwq]; exact ((Fx.refl No w1).alloc _).alloc _
  have q0 : wq.cell? ⟨w1.heap.size, 0, none⟩ = some (.pointer (some ⟨b', 0, none⟩)) := by rw [← hwq]; clear hwq hfq hsq; go_simp
  have q1 : wq.cell? ⟨w1.heap.size + 1, 0, none⟩ = some (.map (some mb)) := by rw [← hwq]; clear hwq hfq hsq; go_simp
  rw [hwq]
  clear hwq
  have HFq := Lib.hid hfq
  have HQ1 := Lib.hid q1
  have hw1 := HF1.out.size
  have HMb : Hid (MapE wq mb L) := Lib.hid ((HP.out.map.no HF1.out).no hfq)
  have hmlt : mb < w.heap.size := HP.out.map.lt
  have hI0 : BackI w wq.heap.size w1.heap.size b' n L [] wq := by
    refine ⟨HF1.out.trans hfq, ⟨_, HG1.out.no hfq, fun j hj => ⟨hj.1, .inl (by have := hj.2; omega), by have := hj.2; omega⟩⟩, q0, by simp⟩
  have HI0 := Lib.hid hI0
  obtain ⟨hs, hhs⟩ : ∃ s, s = wq.heap.size := ⟨_, rfl⟩
  clear hfq hI0 c2 hlt2 q1
  gi_wp2_with fail
  refine range_law3 (gf := 105) (lb := #[.pointer (some ⟨w1.heap.size + 1, 0, none⟩)]) rfl (enters_of Tryz.func105 (by kernel_rfl) rfl)
    encE (fun _ => rfl) (fun _ x => x ∈ L) (fun k => k = hs + 2) (fun k => w.heap.size ≤ k ∧ (k < hs ∨ hs + 3 ≤ k) ∧ k ≠ w1.heap.size) (by omega) (by omega) (by omega) (by omega)
    (fun xs => ∀ x, x ∈ xs ↔ x ∈ L) (fun pre => pre ≠ [])
    (fun pre W => BackI w hs w1.heap.size b' n L pre W) (fun _ _ _ => False) ?kI ?kX (by rw [hhs]; exact HI0.out)
    (fun x W => W.alloc (.cells #[.int .i64 x.f, .int .i64 x.t, .int .i64 x.l] 27)) (fun x W => (Fx.refl No W).alloc _) ?a1 ?assign ?body ?hit ?done ?stop
  case assign =>
    intro x W K hK
    unfold encE
    gi_wp2
    exact hK
  case kI =>
    intro s A B h1 hf
    exact h1.fx' hf (fun j h2 => by rcases h2 with h2 | h2 <;> omega) (by omega) (by omega)
  case kX => intro c s A B h1 _; exact h1
  case stop => intro c pre W _ h1; exact h1.elim
  case hit =>
    intro W J Jx hf hsz hJ hJx hR hJ0
    refine (keys1_iter (hf.cell' HQ1.out (fun h => h)) (HMb.out.no hf) ⟨by omega, by omega⟩ ⟨by omega, by omega⟩ (fun s A B h1 h2 => hJ s A B h1 (h2.mono fun k _ e => by have e : k = W.heap.size := e; show k = hs + 2; omega)) hR hJ0)
  case done =>
    intro xs W hx hI hK
    have HX := Lib.hid (backL_all hx)
    have HI := Lib.hid hI
    have HK := Lib.hid hK
    have c0 := hI.box
    clear hx hI hK
    gi_wp2
    refine ⟨by simp, .inl ⟨_, _, rfl, run_takeDeferred HK.out, ?_⟩⟩
    have hp := Fx.putObj (S := fun k => k = wq.heap.size) W wq.heap.size (.deferred none) rfl
    refine ⟨.pointer (some ⟨b', 0, none⟩), by simp [results, Tryz.results79, go_sem], ?_⟩
    have hI2 := HI.out.fx' hp (fun j h2 => by have h2 : j = wq.heap.size := h2; omega) (by omega) (by omega)
    obtain ⟨D', h1, h2⟩ := hI2.g
    exact ⟨b', rfl, hI2.fx, D', by rw [← HX.out]; exact h1, fun x hx => (h2 x hx).1⟩
  case body =>
    intro pre x W0 W hxL hI hsz0 hfA
    have hzW := hfA.size
    rw [World.size_alloc] at hzW
    have e0 := hfA.cell' (a := ⟨W0.heap.size, 0, none⟩) (v := .int .i64 x.f) (by simp) (by simp; omega)
    have e1 := hfA.cell' (a := ⟨W0.heap.size, 1, none⟩) (v := .int .i64 x.t) (by simp) (by simp; omega)
    have e2 := hfA.cell' (a := ⟨W0.heap.size, 2, none⟩) (v := .int .i64 x.l) (by simp) (by simp; omega)
    have c0 := hI.box
    have HI := Lib.hid hI
    have HXL := Lib.hid hxL
    obtain ⟨D1, hg1, hD1⟩ := hI.g
    have HG := Lib.hid hg1
    have HD1 := Lib.hid hD1
    have HSb : Hid (∀ y ∈ pre ++ [x], y ∈ L) := Lib.hid fun y hy => by
      rcases List.mem_append.1 hy with h | h
      · exact HI.out.sub y h
      · rw [List.mem_singleton] at h; rw [h]; exact HXL.out
    have CG : Hid (∀ W2, Fx No W W2 → Calls Tryz.prog 48 #[.pointer (some ⟨b', 0, none⟩), .slice (some ⟨W2.heap.size, 0, none⟩) 1 1] (W2.alloc (.cells #[.int .i64 x.t, .int .i64 x.f, .int .i64 x.l] 27)) fun r w' => (∃ v, r = .returned v) ∧
        Hid (Fx (fun k => w.heap.size ≤ k ∧ (k < hs ∨ hs + 3 ≤ k) ∧ k ≠ w1.heap.size) W w' ∧ BackI w hs w1.heap.size b' n L (pre ++ [x]) w')) := Lib.hid fun W2 hf2 => by
      have hz2 := hf2.size
      have hA : Fx No W2 (W2.alloc (.cells #[.int .i64 x.t, .int .i64 x.f, .int .i64 x.l] 27)) := (Fx.refl No W2).alloc _
      have hlit : EdsV (W2.alloc (.cells #[.int .i64 x.t, .int .i64 x.f, .int .i64 x.l] 27)) (Iv W2.heap.size (W2.heap.size + 1)) (.slice (some ⟨W2.heap.size, 0, none⟩) 1 1) [turnE x] := EdsV.lit [turnE x] (by simp)
      have hnd := HNd.out x HXL.out
      have hokx := HOkL.out x HXL.out
      have hlen := addL_len_sub HI.out.sub
      refine (gAdd_any ((HG.out.no hf2).no hA) hlit (fun k h1 h2 => by have h3 := HG.out.lt k h2; have := h1.1; omega) (fun y hy => by rw [List.mem_singleton] at hy; rw [hy]; exact ⟨hokx.t, hokx.f, hokx.l⟩) (good_mk fun y hy => by rw [List.mem_singleton] at hy; rw [hy]; exact ⟨hnd.2, hnd.1⟩) (by simp; omega)).mono ?_
      rintro e w' ⟨rfl, hfD, hgD⟩
      refine ⟨⟨_, rfl⟩, Lib.hid ⟨?_, ?_⟩⟩
      · refine ((hf2.trans hA).no.trans (hfD.mono fun k _ hk => ?_))
        have := HD1.out k hk
        exact this
      · have hgD' : GraphV w' (DU D1 (W2.alloc (.cells #[.int .i64 x.t, .int .i64 x.f, .int .i64 x.l] 27)) w') b' n (addL [] ((pre ++ [x]).map turnE)) := by
          rw [List.map_append, List.map_singleton, addL_snoc]
          exact hgD
        refine ⟨?_, ⟨_, hgD', ?_⟩, ?_, HSb.out⟩
        · exact ((HI.out.fx.trans hf2).trans hA).trans' hfD fun j h1 h2 => by have := (HD1.out j h1).1; omega
        · rintro j (h1 | h1)
          · exact HD1.out j h1
          · have h2 := h1.1
            rw [World.size_alloc] at h2
            exact ⟨by omega, .inr (by omega), by omega⟩
        · refine hfD.cell' (hA.cell' (hf2.cell' HI.out.box (fun h => h)) (fun h => h)) fun h1 => (HD1.out _ h1).2.2 rfl
    obtain ⟨xf, xt, xl⟩ := x
    simp only at e0 e1 e2 CG
    clear hI hg1 hD1 hxL hfA
    gi_wp2_with fail
    refine wpIn_region_any (by assumption) ?_
    change wpAnyIn _ _ _ _ _ _ _ _ _ (World.drew _)
    refine wpAnyIn_ready (rs := [0, 1]) (by kernel_rfl) (by simp) ?_
    refine AllReadyIn.cons rfl (fun K hK => ?_) ?_
    · go_simp
      refine hK _ _ ?_
      clear hK K
      refine wpAnyIn_ready (rs := [1]) (by kernel_rfl) (by simp) ?_
      refine AllReadyIn.cons rfl (fun K hK => ?_) ?_
      · go_simp
        refine hK _ _ ?_
        clear hK K
        refine wpAnyIn_ready (rs := [2]) (by kernel_rfl) (by simp) ?_
        refine AllReadyIn.cons rfl (fun K hK => ?_) ?_
        · go_simp
          refine ⟨trivial, CallsIn.inRound _ ((callsIn_wide.2 (turned_any ⟨xf, xt, xl⟩ _)).mono ?_)⟩
          rintro e w' ⟨rfl, hfi⟩
          have c0 := ((Fx.refl No W).drew.trans hfi).cell' c0 (fun h => h)
          have hlt : w1.heap.size < w'.heap.size := World.block_lt_of_cell? _ _ c0
          refine hK _ _ ?_
          clear hK K
          refine wpAnyIn_ready (rs := [3]) (by kernel_rfl) (by simp) ?_
          refine AllReadyIn.cons rfl (fun K hK => ?_) ?_
          · go_simp
            refine hK _ _ ?_
            clear hK K
            refine wpAnyIn_ready (rs := [4]) (by kernel_rfl) (by simp) ?_
            refine AllReadyIn.cons rfl (fun K hK => ?_) ?_
            · go_simp
              refine ⟨trivial, CallsIn.inRound _ ((callsIn_wide.2 (CG.out _ ((Fx.refl No W).drew.trans hfi))).mono ?_)⟩
              rintro e w'' ⟨⟨v, rfl⟩, HR⟩
              refine hK _ _ ?_
              clear hK K
              refine wpAnyIn_done (by kernel_rfl) ?_ _
              exact HR.out
            exact AllReadyIn.nil
          exact AllReadyIn.nil
        exact AllReadyIn.nil
      exact AllReadyIn.nil
    refine AllReadyIn.cons rfl (fun K hK => ?_) ?_
    · go_simp
      refine hK _ _ ?_
      clear hK K
      refine wpAnyIn_ready (rs := [0, 2]) (by kernel_rfl) (by simp) ?_
      refine AllReadyIn.cons rfl (fun K hK => ?_) ?_
      · go_simp
        refine hK _ _ ?_
        clear hK K
        refine wpAnyIn_ready (rs := [2]) (by kernel_rfl) (by simp) ?_
        refine AllReadyIn.cons rfl (fun K hK => ?_) ?_
        · go_simp
          refine ⟨trivial, CallsIn.inRound _ ((callsIn_wide.2 (turned_any ⟨xf, xt, xl⟩ _)).mono ?_)⟩
          rintro e w' ⟨rfl, hfi⟩
          have c0 := ((Fx.refl No W).drew.trans hfi).cell' c0 (fun h => h)
          have hlt : w1.heap.size < w'.heap.size := World.block_lt_of_cell? _ _ c0
          refine hK _ _ ?_
          clear hK K
          refine wpAnyIn_ready (rs := [3]) (by kernel_rfl) (by simp) ?_
          refine AllReadyIn.cons rfl (fun K hK => ?_) ?_
          · go_simp
            refine hK _ _ ?_
            clear hK K
            refine wpAnyIn_ready (rs := [4]) (by kernel_rfl) (by simp) ?_
            refine AllReadyIn.cons rfl (fun K hK => ?_) ?_
            · go_simp
              refine ⟨trivial, CallsIn.inRound _ ((callsIn_wide.2 (CG.out _ ((Fx.refl No W).drew.trans hfi))).mono ?_)⟩
              rintro e w'' ⟨⟨v, rfl⟩, HR⟩
              refine hK _ _ ?_
              clear hK K
              refine wpAnyIn_done (by kernel_rfl) ?_ _
              exact HR.out
            exact AllReadyIn.nil
          exact AllReadyIn.nil
        exact AllReadyIn.nil
      refine AllReadyIn.cons rfl (fun K hK => ?_) ?_
      · go_simp
        refine ⟨trivial, CallsIn.inRound _ ((callsIn_wide.2 (turned_any ⟨xf, xt, xl⟩ _)).mono ?_)⟩
        rintro e w' ⟨rfl, hfi⟩
        have c0 := ((Fx.refl No W).drew.trans hfi).cell' c0 (fun h => h)
        have hlt : w1.heap.size < w'.heap.size := World.block_lt_of_cell? _ _ c0
        refine hK _ _ ?_
        clear hK K
        refine wpAnyIn_ready (rs := [0, 3]) (by kernel_rfl) (by simp) ?_
        refine AllReadyIn.cons rfl (fun K hK => ?_) ?_
        · go_simp
          refine hK _ _ ?_
          clear hK K
          refine wpAnyIn_ready (rs := [3]) (by kernel_rfl) (by simp) ?_
          refine AllReadyIn.cons rfl (fun K hK => ?_) ?_
          · go_simp
            refine hK _ _ ?_
            clear hK K
            refine wpAnyIn_ready (rs := [4]) (by kernel_rfl) (by simp) ?_
            refine AllReadyIn.cons rfl (fun K hK => ?_) ?_
            · go_simp
              refine ⟨trivial, CallsIn.inRound _ ((callsIn_wide.2 (CG.out _ ((Fx.refl No W).drew.trans hfi))).mono ?_)⟩
              rintro e w'' ⟨⟨v, rfl⟩, HR⟩
              refine hK _ _ ?_
              clear hK K
              refine wpAnyIn_done (by kernel_rfl) ?_ _
              exact HR.out
            exact AllReadyIn.nil
          exact AllReadyIn.nil
        refine AllReadyIn.cons rfl (fun K hK => ?_) ?_
        · go_simp
          refine hK _ _ ?_
          clear hK K
          refine wpAnyIn_ready (rs := [0]) (by kernel_rfl) (by simp) ?_
          refine AllReadyIn.cons rfl (fun K hK => ?_) ?_
          · go_simp
            refine hK _ _ ?_
            clear hK K
            refine wpAnyIn_ready (rs := [4]) (by kernel_rfl) (by simp) ?_
            refine AllReadyIn.cons rfl (fun K hK => ?_) ?_
            · go_simp
              refine ⟨trivial, CallsIn.inRound _ ((callsIn_wide.2 (CG.out _ ((Fx.refl No W).drew.trans hfi))).mono ?_)⟩
              rintro e w'' ⟨⟨v, rfl⟩, HR⟩
              refine hK _ _ ?_
              clear hK K
              refine wpAnyIn_done (by kernel_rfl) ?_ _
              exact HR.out
            exact AllReadyIn.nil
          exact AllReadyIn.nil
        exact AllReadyIn.nil
      exact AllReadyIn.nil
    exact AllReadyIn.nil
end
#print axioms gBack_any
end Go.Proofs.YtfpggeiphbekoaaGreatDoor.Gr
