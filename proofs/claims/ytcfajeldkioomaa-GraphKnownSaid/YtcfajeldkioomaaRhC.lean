/- The graph turned about: Back; the keys of the map of edges, one by one. -/
import Derived.Test.YtcfajeldkioomaaRhA
import Derived.Test.YtcfajeldkioomaaRange3
import Derived.Sort.MapsRangeIn
namespace Go.Proofs.Ytcfajeldkioomaa
open Go.RowKit Go.Shelf
set_option linter.unusedVariables false
attribute [local go_sem] Oper.semAt_some

theorem ranges_fx {w w' : World} {S : Nat → Prop} {k : TypeId} {R : Value → Option (DataW Unit × List MemPlace)} {b r n : Nat} {D : DataW Unit} {left : Lit → Bool} {cnt : Nat} (h : w.ranges Try.prog k R b r n D left cnt) (hf : Fx S w w') (hb : ¬ S b) (hr : ¬ S r) : w'.ranges Try.prog k R b r n D left cnt := by
  obtain ⟨es, clock, since, seen, c0, h1, h2, h3, h4, h5, rest⟩ := h
  exact ⟨es, clock, since, seen, c0, hf.at_ h1 hb, h2, h3, h4, hf.at_ h5 hr, rest⟩
def encE (x : Ed) : Array Value := #[.agg #[.int .i64 x.f, .int .i64 x.t, .int .i64 x.l]]
section
variable {w w' : World} {D S E : Nat → Prop} {b n : Nat} {L : List Ed}
theorem keys_any (mb : Nat) (w : World) : Calls Try.prog 40 #[.map (some mb)] w fun e w' => e = .returned (.func (.func 59) #[] #[.pointer (some ⟨w.heap.size, 0, none⟩)]) ∧
      w' = w.alloc (.cells #[.map (some mb)] 76) := by
  go_enter Try.func40, Try.ntmps40
  go_wp2
  go_ret
  exact ⟨rfl, rfl⟩
set_option maxRecDepth 100000 in
set_option maxHeartbeats 2000000 in
theorem keys1_iter {m l cb mb : Nat} {Bd : Nat → Prop} {J Jx : List Ed → World → Prop} {W : World} (hc : W.cell? ⟨cb, 0, none⟩ = some (.map (some mb))) (hm : MapE W mb L) (hbm : ¬ Bd mb ∧ mb ≠ l) (hbr : ¬ Bd W.heap.size ∧ W.heap.size ≠ l)
    (hJ : Kept (fun k => k = W.heap.size) J) (hY : RoundAt (m - 1) Try.prog l encE (fun _ x => x ∈ L) Bd J Jx) (h0 : J [] W) :
    CallsIn Fence.wide m Try.prog 59 #[.func (.yield l) #[] #[], .pointer (some ⟨cb, 0, none⟩)] W fun e W' => (∃ v, e = .returned v) ∧
      ((∃ xs, (∀ x, x ∈ xs ↔ x ∈ L) ∧ J xs W') ∨ (∃ pre, pre ≠ [] ∧ Jx pre W')) := by
  obtain ⟨hok, DD, hown, hhas, hsz, hinv⟩ := hm
  have HOwn := Lib.hid hown
  have HHas := Lib.hid hhas
  have HOk := Lib.hid hok
  have HJ := Lib.hid hJ
  have HY := Lib.hid hY
  have HJ0 := Lib.hid h0
  have Hbm := Lib.hid hbm
  have Hbr := Lib.hid hbr
  clear hown hhas hok hsz hinv hJ hY h0 hbm hbr
  refine callsIn_of_wp Try.func59 rfl trivial ?_ rfl
  simp only [Try.ntmps59, List.size_toArray, List.length_cons, List.length_nil, Nat.reduceAdd, Nat.reduceSub, Array.replicate_succ, Array.replicate_zero, List.push_toArray, List.append_toArray, List.nil_append, List.cons_append]
  gi_wp2_with (first | (gi_at_range; refine wpListIn_range_own _ rfl _ 76 rfl 25 77 law_edge Try.underlying76 unitR mb L.length DD rfl HOwn.out ?_; intro w0 hrg0 hg0 hs0) | gi_in)
  go_frame
  obtain ⟨r, hr⟩ : ∃ r, r = W.heap.size := ⟨_, rfl⟩
  rw [← hr] at hrg0 Hbr HJ ⊢
  have HF0 : Hid (Fx No W w0) := Lib.hid (Fx.ofGrown hg0 fun k h _ => by cases h)
  have HRg0 := Lib.hid hrg0
  clear hrg0 hg0 hs0 hr
  gi_loopw [3] (fun _ ws => ∃ (left : Lit → Bool) (cnt : Nat) (pre : List Ed), ws.ranges Try.prog 25 unitR mb r L.length DD left cnt ∧ (∀ kl, left kl = true → Maps.has DD kl = true) ∧ (∀ x ∈ L, left (keyE x) = false → x ∈ pre) ∧ (∀ x ∈ pre, x ∈ L) ∧ J pre ws) (fun _ ws => ws.rangeLeft mb r)
  case atStart => exact ⟨_, _, [], HRg0.out, fun _ h => h, fun x hx h => (by rw [HHas.out x (HOk.out x hx), decide_eq_true hx] at h; cases h), fun x hx => (by simp at hx), HJ.out _ _ _ HJ0.out HF0.out.no⟩
  case round =>
    obtain ⟨left, cnt, pre, hrg, hle, hsub, hpl, hJp⟩ := hrel
    have HRg := Lib.hid hrg
    have HLe := Lib.hid hle
    have HSub := Lib.hid hsub
    have HPl := Lib.hid hpl
    have HJp := Lib.hid hJp
    clear hrg hle hsub hpl hJp
    gi_wp2_with (first | (gi_at_next; refine wpListIn_next_ranges _ rfl _ rfl 25 law_edge unitR evE (fun _ : Unit => Value.agg #[]) (fun key kl h => by obtain ⟨x, h1, _⟩ := key_inv h; exact ⟨x, h1⟩) (fun v y h => ⟨(), (unitElem_inv h).1⟩) mb r L.length DD left cnt rfl HRg.out ?_ ?_) | gi_in)
    · intro hc0 hl0
      have HAll : Hid (∀ x, x ∈ pre ↔ x ∈ L) := Lib.hid fun x => ⟨HPl.out x, fun hx => HSub.out x hx (hl0 _)⟩
      clear hl0
      gi_wp2
      go_end0
      exact ⟨⟨_, rfl⟩, .inl ⟨pre, HAll.out, HJp.out⟩⟩
    · intro x kl y1 y2 w1 cnt1 hkx hlx hy hat hrg1 hlt hg1 hs1 hen
      obtain ⟨x', hx', hokx⟩ := key_inv hkx
      obtain rfl : x = x' := by simp [evE] at hx'; exact Ed.ext' hx'.1 hx'.2.1 hx'.2.2
      obtain rfl : kl = keyE x := Option.some.inj (hkx.symm.trans (key_edge hokx))
      have hxL : x ∈ L := by
        have h1 := HLe.out _ hlx
        rw [HHas.out x hokx] at h1
        exact of_decide_eq_true h1
      have HF1 : Hid (Fx (fun j => j = r) wr w1) := Lib.hid (Fx.ofGrown hg1 fun k hk _ => by simpa using hk.symm)
      have HRg1 := Lib.hid hrg1
      have hms : w1.rangeLeft mb r < wr.rangeLeft mb r := by rw [HRg.out.left_eq, hrg1.left_eq]; exact hlt
      have HMs := Lib.hid hms
      have HXL := Lib.hid hxL
      have HLe2 : Hid (∀ kl, (left kl && !kl.sameKey (keyE x)) = true → Maps.has DD kl = true) := Lib.hid fun kl h => HLe.out kl (by simp at h; exact h.1)
      have HSub2 : Hid (∀ z ∈ L, (left (keyE z) && !(keyE z).sameKey (keyE x)) = false → z ∈ pre ++ [x]) := Lib.hid fun z hz h => by
        cases hlz : left (keyE z) with
        | false => exact List.mem_append_left _ (HSub.out z hz hlz)
        | true =>
          rw [hlz] at h
          by_cases hzx : keyE z = keyE x
          · rw [keyE_inj (HOk.out z hz) (HOk.out _ HXL.out) hzx]; simp
          · rw [Maps.sameKey_ne hzx] at h; simp at h
      have HPl2 : Hid (∀ z ∈ pre ++ [x], z ∈ L) := Lib.hid fun z hz => by
        rcases List.mem_append.1 hz with h | h
        · exact HPl.out z h
        · rw [List.mem_singleton] at h; rw [h]; exact HXL.out
      obtain ⟨x1, x2, x3⟩ := x
      unfold evE at hen ⊢
      simp only at hen ⊢
      have HJ1 : Hid (J pre (w1.alloc (.cells #[.int .i64 x1, .int .i64 x2, .int .i64 x3] 25))) := Lib.hid (HJ.out _ _ _ (HJ.out _ _ _ HJp.out HF1.out) ((Fx.refl No _).alloc _).no)
      have HRg2 := Lib.hid (HRg1.out.alloc (.cells #[.int .i64 x1, .int .i64 x2, .int .i64 x3] 25))
      obtain ⟨fn, tmps, assign, body, hy, hRd⟩ := HY.out pre ⟨x1, x2, x3⟩ _ HXL.out HJ1.out
      unfold encE at hy
      have HRd := Lib.hid hRd
      clear hx' hkx hlx hat hrg1 hlt hg1 hs1 hms hxL hRd hokx
      gi_wp2_with fail
      refine ⟨(fun h => by cases h), HRd.out.mono ?_⟩
      rintro e W3 (⟨rfl, hJ3, hk3⟩ | ⟨rfl, hJx3⟩)
      · have HJ3 := Lib.hid hJ3
        have HRg3 := Lib.hid (ranges_fx HRg2.out hk3 (by rintro (h | h); exact Hbm.out.1 h; exact Hbm.out.2 h) (by rintro (h | h); exact Hbr.out.1 h; exact Hbr.out.2 h))
        clear hk3 hJ3
        gi_wp2
        go_roundw
        case rel => exact ⟨_, cnt1, pre ++ [⟨x1, x2, x3⟩], HRg3.out, HLe2.out, HSub2.out, HPl2.out, HJ3.out⟩
        case measure => rw [HRg3.out.left_eq, ← HRg1.out.left_eq]; exact HMs.out
      · have HJx3 := Lib.hid hJx3
        clear hJx3
        gi_wp2
        refine bodyPost_ret (results_none rfl _ _ _) rfl ⟨⟨_, rfl⟩, .inr ⟨_, ?_, HJx3.out⟩⟩
        simp
set_option maxRecDepth 100000 in
theorem turned_any (x : Ed) (w : World) : Calls Try.prog 41 #[.agg #[.int .i64 x.f, .int .i64 x.t, .int .i64 x.l]] w fun e w' => e = .returned (.agg #[.int .i64 x.t, .int .i64 x.f, .int .i64 x.l]) ∧ Fx No w w' := by
  go_enter Try.func41, Try.ntmps41
  go_wp2
  refine bodyPost_ret (v := .agg #[.int .i64 x.t, .int .i64 x.f, .int .i64 x.l]) (by simp [results, Try.results41, go_sem]) rfl ⟨rfl, ((Fx.refl No w).alloc _).alloc _⟩
end
#print axioms keys1_iter
#print axioms turned_any
end Go.Proofs.Ytcfajeldkioomaa
