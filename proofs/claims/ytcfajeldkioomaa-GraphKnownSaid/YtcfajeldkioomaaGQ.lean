/- graph: maps.Equal, Same. -/
import Derived.Test.YtcfajeldkioomaaGP
namespace Go.Proofs.Ytcfajeldkioomaa
open Go.RowKit
open Go.Maps (Keyed)
set_option linter.unusedVariables false

theorem ok_wf {x : Int} (h : (Lit.int .i64 x).wf = true) : Ok64 x := by
  unfold Ok64
  simp [Lit.wf, IntKind.min, IntKind.max, IntKind.signed, IntKind.bits] at h
  omega
set_option maxRecDepth 100000 in
theorem key_inv {v : Value} {kl : Lit} (h : keyOf Try.prog 25 v = some kl) : ∃ x : Ed, v = evE x ∧ x.ok := by
  obtain ⟨m, hm⟩ := typesPos
  obtain ⟨j, hj, _, hjs, _⟩ := info_parts info_int'
  have hc : Try.prog.cellsOf 3 = 1 := by simp [Program.cellsOf, hj, hjs]
  obtain ⟨ii, hi, _, hs, _⟩ := info_edge'
  have hce : Try.prog.cellsOf 25 = 3 := by simp [Program.cellsOf, hi, hs]
  have hk : Try.prog.keyType 25 = true := by kernel_rfl
  unfold keyOf at h
  rw [Try.underlying25, hm] at h
  have h2 : (if (Try.prog.keyType 25 && v.formed Try.prog 25) = true then (Try.prog.keyLits (m + 1 + 1) 25 v.cells.toList).map fun ls => Lit.string (keyBytes ls) else none) = some kl := h
  clear h
  rw [hk, Bool.true_and] at h2
  by_cases hf : v.formed Try.prog 25 = true
  · rw [if_pos hf] at h2
    cases v <;> simp [Value.formed, Try.underlying25] at hf
    rename_i cs
    obtain ⟨l⟩ := cs
    rw [hce] at hf
    match l, hf with
    | [c0, c1, c2], hsz =>
      clear hsz
      simp only [Value.cells] at h2
      simp [Program.keyLits, Try.underlying25, Try.underlying3, hc, hce] at h2
      cases c0 <;> simp at h2
      rename_i q0 a0
      by_cases w0 : q0 = .i64 ∧ (Lit.int .i64 a0).wf = true
      · rw [if_pos w0] at h2
        simp at h2
        cases c1 <;> simp at h2
        rename_i q1 a1
        by_cases w1 : q1 = .i64 ∧ (Lit.int .i64 a1).wf = true
        · rw [if_pos w1] at h2
          simp at h2
          cases c2 <;> simp at h2
          rename_i q2 a2
          by_cases w2 : q2 = .i64 ∧ (Lit.int .i64 a2).wf = true
          · obtain ⟨rfl, v0⟩ := w0
            obtain ⟨rfl, v1⟩ := w1
            obtain ⟨rfl, v2⟩ := w2
            exact ⟨⟨a0, a1, a2⟩, rfl, ok_wf v0, ok_wf v1, ok_wf v2⟩
          · rw [if_neg w2] at h2
            simp at h2
        · rw [if_neg w1] at h2
          simp at h2
      · rw [if_neg w0] at h2
        simp at h2
  · rw [if_neg hf] at h2
    cases h2
theorem asc_len {b : List Ed} (hb : Asc b) : ∀ {a : List Ed}, Asc a → (∀ x ∈ a, x ∈ b) → a.length ≤ b.length := by
  intro a
  induction a generalizing b with
  | nil => simp
  | cons x a ih =>
    intro ha hs
    obtain ⟨h1, h2⟩ := Asc.cons.1 ha
    have hx := hs x (by simp)
    have h3 := ih hb.del h2 (fun y hy => mem_delE.2 ⟨hs y (by simp [hy]), fun q => Ed.lt_irrefl x (by have h5 := h1 y hy; rw [q] at h5; exact h5)⟩)
    have h4 := length_delE hb hx
    rw [List.length_cons]; omega
theorem asc_eq : ∀ {a b : List Ed}, Asc a → Asc b → (∀ x ∈ a, x ∈ b) → a.length = b.length → a = b := by
  intro a b ha hb hs hl
  refine Asc.same ha hb fun x => ⟨hs x, fun hx => Classical.byContradiction fun hn => ?_⟩
  have h1 := asc_len (hb.del (e := x)) ha (fun y hy => mem_delE.2 ⟨hs y hy, fun q => hn (by rw [← q]; exact hy)⟩)
  have h2 := length_delE hb hx
  omega
theorem own_fx {w w' : World} {S : Nat → Prop} {k : TypeId} {R : Value → Option (DataW Unit × List MemPlace)} {b n : Nat} {D : DataW Unit} (h : w.ownsMap Try.prog k R b n D) (hf : Fx S w w') (hb : ¬ S b) : w'.ownsMap Try.prog k R b n D := by
  obtain ⟨es, clock, h1, h2⟩ := h
  exact ⟨es, clock, hf.at_ h1 hb, h2⟩
section
variable {w w' : World} {D S T E D2 : Nat → Prop} {b n b2 n2 : Nat} {L L2 : List Ed} {m1 m2 : Nat}
set_option maxRecDepth 100000 in
set_option maxHeartbeats 2000000 in
theorem equal_any (h1 : MapE w m1 L) (h2 : MapE w m2 L2) (ha : Asc L) (hb : Asc L2) (hl : L.length ≤ 1000000) : Calls Try.prog 55 #[.map (some m1), .map (some m2)] w fun e w' => e = .returned (.bool (decide (L = L2))) ∧ Fx No w w' := by
  have H1 := Lib.hid h1
  have H2 := Lib.hid h2
  have e1 : ∀ ty, (Builtin.len_ #[76] ty #[.map (some m1)]).run Try.prog w = .ok (.int .i64 (L.length : Nat)) w := h1.len
  have e2 : ∀ ty, (Builtin.len_ #[76] ty #[.map (some m2)]).run Try.prog w = .ok (.int .i64 (L2.length : Nat)) w := h2.len
  by_cases hlen : L.length = L2.length
  · have hm1 := h1.lt
    obtain ⟨hok, D, hown, hhas, hsz, hinv⟩ := h1
    have HOwn := Lib.hid hown
    have HHas := Lib.hid hhas
    have HInv := Lib.hid hinv
    have HOk := Lib.hid hok
    have d1 : ((L.length : Int) == (L2.length : Int)) = true := by simp [hlen]
    have d2 : ((L.length : Int) != (L2.length : Int)) = false := by simp [hlen]
    have hm2 := h2.lt
    have HAl := Lib.hid ha
    have HBl := Lib.hid hb
    have HLen := Lib.hid hlen
    clear hown hhas hinv hok h2 hsz ha hb hlen
    go_enter Try.func55, Try.ntmps55
    go_wp2_with (first | (at_range; refine wpList_range_own _ rfl _ 76 rfl 25 77 law_edge Try.underlying76 unitR m1 L.length D rfl HOwn.out ?_; intro w0 hrg0 hg0 hs0) | fail)
    go_frame
    obtain ⟨r, hr⟩ : ∃ r, r = w.heap.size := ⟨_, rfl⟩
    rw [← hr] at hrg0 ⊢
    have HF0 : Hid (Fx No w w0) := Lib.hid (Fx.ofGrown hg0 fun k h _ => by cases h)
    have HRg0 := Lib.hid hrg0
    have hrm2 : m2 ≠ r := by omega
    have HRw := Lib.hid hr
    have hl1 : L.length ≤ L2.length := by have := HLen.out; omega
    have hneq : ∀ W, (binOp .neq 77 (.agg #[]) (.agg #[])).run Try.prog W = .ok (.bool false) W := fun W => by kernel_rfl
    obtain ⟨hok2, D2, hown2, hhas2, _, _⟩ := H2.out
    have HOwn2 := Lib.hid hown2
    have HHas2 := Lib.hid hhas2
    clear hrg0 hg0 hs0 hm1 e1 e2 hr hok2 hown2 hhas2
    go_loopw [5] (fun _ ws => ∃ (left : Lit → Bool) (cnt : Nat), ws.ranges Try.prog 25 unitR m1 r L.length D left cnt ∧ Fx (fun j => j = r) w0 ws ∧ (∀ kl, left kl = true → Maps.has D kl = true) ∧ ∀ x ∈ L, left (keyE x) = false → x ∈ L2) (fun _ ws => ws.rangeLeft m1 r)
    case atStart => exact ⟨_, _, HRg0.out, Fx.refl _ _, fun _ h => h, fun x hx h => by rw [HHas.out x (HOk.out x hx), decide_eq_true hx] at h; cases h⟩
    case round =>
      obtain ⟨left, cnt, hrg, hf, hle, hsub⟩ := hrel
      have HRg := Lib.hid hrg
      have HF := Lib.hid hf
      have HLe := Lib.hid hle
      have HSub := Lib.hid hsub
      clear hrg hf hle hsub
      go_wp2_with (at_next; refine wpList_next_ranges _ rfl _ rfl 25 law_edge unitR evE (fun _ : Unit => Value.agg #[]) (fun key kl h => by obtain ⟨x, h1, _⟩ := key_inv h; exact ⟨x, h1⟩) (fun v y h => ⟨(), (unitElem_inv h).1⟩) m1 r L.length D left cnt rfl HRg.out ?_ ?_)
      · intro hc0 hl0
        have HT : Hid (decide (L = L2) = true) := Lib.hid (decide_eq_true (asc_eq HAl.out HBl.out (fun x hx => HSub.out x hx (hl0 _)) HLen.out))
        have HFw : Hid (Fx No w wr) := Lib.hid (HF0.out.trans' HF.out fun j h1 h2 => by have h1 : j = r := h1; have := HRw.out; omega)
        clear hl0
        go_wp2
        go_ret
        exact ⟨by rw [HT.out]; rfl, HFw.out⟩
      · intro x kl y1 y2 w1 cnt1 hkx hlx hy hat hrg1 hlt hg1 hs1 hen
        obtain ⟨x', hx', hok⟩ := key_inv hkx
        obtain rfl : x = x' := by simp [evE] at hx'; exact Ed.ext' hx'.1 hx'.2.1 hx'.2.2
        obtain rfl : kl = keyE x := Option.some.inj (hkx.symm.trans (key_edge hok))
        have hxL : x ∈ L := by
          have h1 := HLe.out _ hlx
          rw [HHas.out x hok] at h1
          exact of_decide_eq_true h1
        have HF1 : Hid (Fx (fun j => j = r) w0 w1) := Lib.hid (HF.out.trans (Fx.ofGrown hg1 fun k hk _ => by simpa using hk.symm))
        have HRg1 := Lib.hid hrg1
        have hms : w1.rangeLeft m1 r < wr.rangeLeft m1 r := by rw [HRg.out.left_eq, hrg1.left_eq]; exact hlt
        have HMs := Lib.hid hms
        have HKx := Lib.hid (key_edge hok)
        obtain ⟨t, ht⟩ : ∃ t, t = Maps.has D2 (keyE x) := ⟨_, rfl⟩
        have HT : Hid (t = decide (x ∈ L2)) := Lib.hid (by rw [ht]; exact HHas2.out x hok)
        have HTt := Lib.hid ht
        have HXL := Lib.hid hxL
        unfold evE at hen HKx ⊢
        obtain ⟨x1, x2, x3⟩ := x
        simp only at hen HKx ⊢
        clear hx' hkx hlx hy hat hrg1 hlt hg1 hs1 hms ht hxL
        have HAll : ∀ (A B C : Obj), Fx No w1 (((w1.alloc A).alloc B).alloc C) := fun A B C => (((Fx.refl No w1).alloc _).alloc _).alloc _
        have HAll := Lib.hid HAll
        cases t
        · have hnot : (⟨x1, x2, x3⟩ : Ed) ∉ L2 := of_decide_eq_false HT.out.symm
          have HRes : Hid (decide (L = L2) = false) := Lib.hid (decide_eq_false fun h => hnot (by rw [← h]; exact HXL.out))
          have HFw : Hid (Fx No w w1) := Lib.hid (HF0.out.trans' HF1.out fun j h1 h2 => by have h1 : j = r := h1; have := HRw.out; omega)
          clear hnot
          go_wp2_with (at_lookup; refine wpList_lookup_own_unit _ rfl _ _ 76 rfl 25 77 law_edge Try.underlying76 (zero_unit _) m2 L2.length D2 rfl (own_fx HOwn2.out (S := fun j => j = r) ((HF0.out.no.trans HF1.out).trans (by repeat (first | exact Fx.refl _ _ | apply Fx.alloc))) hrm2) _ _ rfl HKx.out ?_; rw [← HTt.out])
          go_ret
          exact ⟨by rw [HRes.out]; rfl, HFw.out.trans (HAll.out _ _ _)⟩
        · have hin : (⟨x1, x2, x3⟩ : Ed) ∈ L2 := of_decide_eq_true HT.out.symm
          have HLe2 : Hid (∀ kl, (left kl && !kl.sameKey (keyE ⟨x1, x2, x3⟩)) = true → Maps.has D kl = true) := Lib.hid fun kl h => HLe.out kl (by simp at h; exact h.1)
          have HSub2 : Hid (∀ z ∈ L, (left (keyE z) && !(keyE z).sameKey (keyE ⟨x1, x2, x3⟩)) = false → z ∈ L2) := Lib.hid fun z hz h => by
            cases hlz : left (keyE z) with
            | false => exact HSub.out z hz hlz
            | true =>
              rw [hlz] at h
              by_cases hzx : keyE z = keyE ⟨x1, x2, x3⟩
              · rw [keyE_inj (HOk.out z hz) (HOk.out _ HXL.out) hzx]; exact hin
              · rw [Maps.sameKey_ne hzx] at h; simp at h
          clear hin
          go_wp2_with (at_lookup; refine wpList_lookup_own_unit _ rfl _ _ 76 rfl 25 77 law_edge Try.underlying76 (zero_unit _) m2 L2.length D2 rfl (own_fx HOwn2.out (S := fun j => j = r) ((HF0.out.no.trans HF1.out).trans (by repeat (first | exact Fx.refl _ _ | apply Fx.alloc))) hrm2) _ _ rfl HKx.out ?_; rw [← HTt.out])
          go_roundw
          case rel => first | exact ⟨_, cnt1, ((HRg1.out.alloc _).alloc _).alloc _, HF1.out.transNo (HAll.out _ _ _), HLe2.out, HSub2.out⟩ | ((repeat apply Exists.intro); exact ⟨⟨_, cnt1, ((HRg1.out.alloc _).alloc _).alloc _, HF1.out.transNo (HAll.out _ _ _), HLe2.out, HSub2.out⟩, rfl⟩)
          case measure => rw [(((HRg1.out.alloc _).alloc _).alloc _).left_eq, ← HRg1.out.left_eq]; exact HMs.out
  · have hne : ¬ L = L2 := fun h => hlen (by rw [h])
    have d1 : ((L.length : Int) == (L2.length : Int)) = false := by simpa using fun h => hlen (by omega)
    rw [decide_eq_false hne]
    clear h1 h2
    go_enter Try.func55, Try.ntmps55
    go_wp2
    go_ret
    exact ⟨rfl, Fx.refl _ _⟩
set_option maxRecDepth 100000 in
set_option maxHeartbeats 1000000 in
theorem gSame_any (h : GraphV w D b n L) (h2 : GraphV w D2 b2 n2 L2) : Calls Try.prog 29 #[.pointer (some ⟨b, 0, none⟩), .pointer (some ⟨b2, 0, none⟩)] w fun e w' => e = .returned (.bool (decide (n = n2 ∧ L = L2))) ∧ Fx No w w' := by
  have H := Lib.hid h
  have H2 := Lib.hid h2
  obtain ⟨_, _, m1, _, _, hp1⟩ := h.ex
  obtain ⟨_, _, m2, _, _, hp2⟩ := h2.ex
  have s0 : Fx No w w := Fx.refl _ _
  have g1 : ∀ W, Fx No w W → W.cell? ⟨b, 2, none⟩ = some (.map (some m1)) := fun W hf => hf.cell' hp1.c2 (fun h => h)
  have g2 : ∀ W, Fx No w W → W.cell? ⟨b2, 2, none⟩ = some (.map (some m2)) := fun W hf => hf.cell' hp2.c2 (fun h => h)
  obtain ⟨t, ht⟩ : ∃ t, t = decide (L = L2) := ⟨_, rfl⟩
  have CE : Hid (∀ W, Fx No w W → Calls Try.prog 55 #[.map (some m1), .map (some m2)] W fun e w' => e = .returned (.bool t) ∧ Fx No W w') := Lib.hid fun W hf => by rw [ht]; exact equal_any (hp1.map.no hf) (hp2.map.no hf) H.out.asc H2.out.asc H.out.small
  have C1 : Hid (∀ W, Fx No w W → Calls Try.prog 30 #[.pointer (some ⟨b, 0, none⟩)] W fun e w' => e = .returned (.int .i64 (n : Nat)) ∧ W = w') := Lib.hid fun W hf => gLen_any (H.out.no hf)
  have C2 : Hid (∀ W, Fx No w W → Calls Try.prog 30 #[.pointer (some ⟨b2, 0, none⟩)] W fun e w' => e = .returned (.int .i64 (n2 : Nat)) ∧ W = w') := Lib.hid fun W hf => gLen_any (H2.out.no hf)
  have HT := Lib.hid ht
  clear h h2 hp1 hp2 ht
  by_cases hn : n = n2
  · subst hn
    have d1 : ((n : Int) == (n : Int)) = true := by simp
    have HR : Hid (decide (n = n ∧ L = L2) = t) := Lib.hid (by rw [HT.out]; simp)
    go_enter Try.func29, Try.ntmps29
    go_wp2_with fail
    refine wp_region_H (fun W => Fx No w W) (by kernel_rfl) s0.drew ?_
    intro hS
    refine wpAnyH_take (i := 0) (v := ?_) rfl (by kernel_rfl) (by kernel_rfl) (by kernel_rfl) (fun _ _ _ h => h) (Or.inl ⟨by rfl, ?_⟩) hS ?_
    rotate_left
    · (intro W hs; go_simp; first | done | with_reducible rfl)
    try simp only [Act.put, List.getElem_toArray, List.getElem_cons_zero, List.getElem_cons_succ, List.setIfInBounds_toArray, List.set_cons_zero, List.set_cons_succ]
    refine wpAnyH_take (i := 2) (v := ?_) rfl (by kernel_rfl) (by kernel_rfl) (by kernel_rfl) (fun _ _ _ h => h) (Or.inl ⟨by rfl, ?_⟩) hS ?_
    rotate_left
    · (intro W hs; go_simp; first | done | with_reducible rfl)
    try simp only [Act.put, List.getElem_toArray, List.getElem_cons_zero, List.getElem_cons_succ, List.setIfInBounds_toArray, List.set_cons_zero, List.set_cons_succ]
    refine wpH_one (i := 1) (by kernel_rfl) rfl (fun K hK => ?_)
    go_simp
    refine (C1.out _ hS).mono ?_
    rintro e w' ⟨rfl, rfl⟩
    refine hK.out _ _ (hS) (fun hS' => ?_)
    clear hK K hS
    have hS := hS'
    clear hS'
    try simp only [Act.put, List.getElem_toArray, List.getElem_cons_zero, List.getElem_cons_succ, List.setIfInBounds_toArray, List.set_cons_zero, List.set_cons_succ]
    refine wpH_one (i := 3) (by kernel_rfl) rfl (fun K hK => ?_)
    go_simp
    refine (C2.out _ hS).mono ?_
    rintro e w' ⟨rfl, rfl⟩
    refine hK.out _ _ (hS) (fun hS' => ?_)
    clear hK K hS
    have hS := hS'
    clear hS'
    try simp only [Act.put, List.getElem_toArray, List.getElem_cons_zero, List.getElem_cons_succ, List.setIfInBounds_toArray, List.set_cons_zero, List.set_cons_succ]
    refine wpAnyH_take (i := 4) (v := ?_) rfl (by kernel_rfl) (by kernel_rfl) (by kernel_rfl) (fun _ _ _ h => h) (Or.inl ⟨by rfl, ?_⟩) hS ?_
    rotate_left
    · (intro W hs; go_simp; first | done | with_reducible rfl)
    try simp only [Act.put, List.getElem_toArray, List.getElem_cons_zero, List.getElem_cons_succ, List.setIfInBounds_toArray, List.set_cons_zero, List.set_cons_succ]
    refine wpAnyH_take (i := 5) (v := ?_) rfl (by kernel_rfl) (by kernel_rfl) (by kernel_rfl) (fun _ _ _ h => h) (Or.inl ⟨by rfl, ?_⟩) hS ?_
    rotate_left
    · (intro W hs; go_simp; first | done | with_reducible rfl)
    try simp only [Act.put, List.getElem_toArray, List.getElem_cons_zero, List.getElem_cons_succ, List.setIfInBounds_toArray, List.set_cons_zero, List.set_cons_succ]
    refine wpAnyH_take (i := 6) (v := ?_) rfl (by kernel_rfl) (by kernel_rfl) (by kernel_rfl) (fun _ _ _ h => h) (Or.inl ⟨by rfl, ?_⟩) hS ?_
    rotate_left
    · (intro W hs; go_simp; first | done | with_reducible rfl)
    try simp only [Act.put, List.getElem_toArray, List.getElem_cons_zero, List.getElem_cons_succ, List.setIfInBounds_toArray, List.set_cons_zero, List.set_cons_succ]
    refine wpAnyH_take (i := 7) (v := ?_) rfl (by kernel_rfl) (by kernel_rfl) (by kernel_rfl) (fun _ _ _ h => h) (Or.inl ⟨by rfl, ?_⟩) hS ?_
    rotate_left
    · (intro W hs; go_simp; first | done | with_reducible rfl)
    try simp only [Act.put, List.getElem_toArray, List.getElem_cons_zero, List.getElem_cons_succ, List.setIfInBounds_toArray, List.set_cons_zero, List.set_cons_succ]
    refine wpAnyH_take (i := 8) (v := ?_) rfl (by kernel_rfl) (by kernel_rfl) (by kernel_rfl) (fun _ _ _ h => h) (Or.inl ⟨by rfl, ?_⟩) hS ?_
    rotate_left
    · (intro W hs; go_simp; first | done | with_reducible rfl)
    try simp only [Act.put, List.getElem_toArray, List.getElem_cons_zero, List.getElem_cons_succ, List.setIfInBounds_toArray, List.set_cons_zero, List.set_cons_succ]
    refine wpAnyH_take (i := 9) (v := ?_) rfl (by kernel_rfl) (by kernel_rfl) (by kernel_rfl) (fun _ _ _ h => h) (Or.inl ⟨by rfl, ?_⟩) hS ?_
    rotate_left
    · (intro W hs; go_simp; first | done | with_reducible rfl)
    try simp only [Act.put, List.getElem_toArray, List.getElem_cons_zero, List.getElem_cons_succ, List.setIfInBounds_toArray, List.set_cons_zero, List.set_cons_succ]
    refine wpAnyH_take (i := 10) (v := ?_) rfl (by kernel_rfl) (by kernel_rfl) (by kernel_rfl) (fun _ _ _ h => h) (Or.inl ⟨by rfl, ?_⟩) hS ?_
    rotate_left
    · (intro W hs; go_simp; first | done | with_reducible rfl)
    try simp only [Act.put, List.getElem_toArray, List.getElem_cons_zero, List.getElem_cons_succ, List.setIfInBounds_toArray, List.set_cons_zero, List.set_cons_succ]
    refine wpAnyH_take (i := 11) (v := ?_) rfl (by kernel_rfl) (by kernel_rfl) (by kernel_rfl) (fun _ _ _ h => h) (Or.inl ⟨by rfl, ?_⟩) hS ?_
    rotate_left
    · (intro W hs; go_simp; first | done | with_reducible rfl)
    try simp only [Act.put, List.getElem_toArray, List.getElem_cons_zero, List.getElem_cons_succ, List.setIfInBounds_toArray, List.set_cons_zero, List.set_cons_succ]
    refine wpAnyH_take (i := 12) (v := ?_) rfl (by kernel_rfl) (by kernel_rfl) (by kernel_rfl) (fun _ _ _ h => h) (Or.inl ⟨by rfl, ?_⟩) hS ?_
    rotate_left
    · (intro W hs; go_simp; first | done | with_reducible rfl)
    try simp only [Act.put, List.getElem_toArray, List.getElem_cons_zero, List.getElem_cons_succ, List.setIfInBounds_toArray, List.set_cons_zero, List.set_cons_succ]
    refine wpAnyH_take (i := 13) (v := ?_) rfl (by kernel_rfl) (by kernel_rfl) (by kernel_rfl) (fun _ _ _ h => h) (Or.inl ⟨by rfl, ?_⟩) hS ?_
    rotate_left
    · (intro W hs; go_simp; first | done | with_reducible rfl)
    try simp only [Act.put, List.getElem_toArray, List.getElem_cons_zero, List.getElem_cons_succ, List.setIfInBounds_toArray, List.set_cons_zero, List.set_cons_succ]
    refine wpH_one (i := 14) (by kernel_rfl) rfl (fun K hK => ?_)
    go_simp
    refine (CE.out _ hS).mono ?_
    rintro e w1 ⟨rfl, hfi⟩
    refine hK.out _ _ (hS.trans hfi) (fun hS' => ?_)
    clear hK K hS hfi
    have hS := hS'
    clear hS'
    try simp only [Act.put, List.getElem_toArray, List.getElem_cons_zero, List.getElem_cons_succ, List.setIfInBounds_toArray, List.set_cons_zero, List.set_cons_succ]
    refine wpAnyH_take (i := 15) (v := ?_) rfl (by kernel_rfl) (by kernel_rfl) (by kernel_rfl) (fun _ _ _ h => h) (Or.inl ⟨by rfl, ?_⟩) hS ?_
    rotate_left
    · (intro W hs; go_simp; first | done | with_reducible rfl)
    try simp only [Act.put, List.getElem_toArray, List.getElem_cons_zero, List.getElem_cons_succ, List.setIfInBounds_toArray, List.set_cons_zero, List.set_cons_succ]
    refine wpAnyH_take (i := 16) (v := ?_) rfl (by kernel_rfl) (by kernel_rfl) (by kernel_rfl) (fun _ _ _ h => h) (Or.inl ⟨by rfl, ?_⟩) hS ?_
    rotate_left
    · (intro W hs; go_simp; first | done | with_reducible rfl)
    try simp only [Act.put, List.getElem_toArray, List.getElem_cons_zero, List.getElem_cons_succ, List.setIfInBounds_toArray, List.set_cons_zero, List.set_cons_succ]
    refine wpAnyH_done (by kernel_rfl) ?_ _
    have HF := Lib.hid hS
    clear hS s0 g1 g2
    go_wp2
    go_ret
    exact ⟨by rw [HR.out]; rfl, HF.out⟩
  · have d1 : ((n : Int) == (n2 : Int)) = false := by simpa using fun h => hn (by omega)
    have HR : Hid (decide (n = n2 ∧ L = L2) = false) := Lib.hid (by simp [hn])
    go_enter Try.func29, Try.ntmps29
    go_wp2_with fail
    refine wp_region_H (fun W => Fx No w W) (by kernel_rfl) s0.drew ?_
    intro hS
    refine wpAnyH_take (i := 0) (v := ?_) rfl (by kernel_rfl) (by kernel_rfl) (by kernel_rfl) (fun _ _ _ h => h) (Or.inl ⟨by rfl, ?_⟩) hS ?_
    rotate_left
    · (intro W hs; go_simp; first | done | with_reducible rfl)
    try simp only [Act.put, List.getElem_toArray, List.getElem_cons_zero, List.getElem_cons_succ, List.setIfInBounds_toArray, List.set_cons_zero, List.set_cons_succ]
    refine wpAnyH_take (i := 2) (v := ?_) rfl (by kernel_rfl) (by kernel_rfl) (by kernel_rfl) (fun _ _ _ h => h) (Or.inl ⟨by rfl, ?_⟩) hS ?_
    rotate_left
    · (intro W hs; go_simp; first | done | with_reducible rfl)
    try simp only [Act.put, List.getElem_toArray, List.getElem_cons_zero, List.getElem_cons_succ, List.setIfInBounds_toArray, List.set_cons_zero, List.set_cons_succ]
    refine wpH_one (i := 1) (by kernel_rfl) rfl (fun K hK => ?_)
    go_simp
    refine (C1.out _ hS).mono ?_
    rintro e w' ⟨rfl, rfl⟩
    refine hK.out _ _ (hS) (fun hS' => ?_)
    clear hK K hS
    have hS := hS'
    clear hS'
    try simp only [Act.put, List.getElem_toArray, List.getElem_cons_zero, List.getElem_cons_succ, List.setIfInBounds_toArray, List.set_cons_zero, List.set_cons_succ]
    refine wpH_one (i := 3) (by kernel_rfl) rfl (fun K hK => ?_)
    go_simp
    refine (C2.out _ hS).mono ?_
    rintro e w' ⟨rfl, rfl⟩
    refine hK.out _ _ (hS) (fun hS' => ?_)
    clear hK K hS
    have hS := hS'
    clear hS'
    try simp only [Act.put, List.getElem_toArray, List.getElem_cons_zero, List.getElem_cons_succ, List.setIfInBounds_toArray, List.set_cons_zero, List.set_cons_succ]
    refine wpAnyH_take (i := 4) (v := ?_) rfl (by kernel_rfl) (by kernel_rfl) (by kernel_rfl) (fun _ _ _ h => h) (Or.inl ⟨by rfl, ?_⟩) hS ?_
    rotate_left
    · (intro W hs; go_simp; first | done | with_reducible rfl)
    try simp only [Act.put, List.getElem_toArray, List.getElem_cons_zero, List.getElem_cons_succ, List.setIfInBounds_toArray, List.set_cons_zero, List.set_cons_succ]
    refine wpAnyH_take (i := 5) (v := ?_) rfl (by kernel_rfl) (by kernel_rfl) (by kernel_rfl) (fun _ _ _ h => h) (Or.inl ⟨by rfl, ?_⟩) hS ?_
    rotate_left
    · (intro W hs; go_simp; first | done | with_reducible rfl)
    try simp only [Act.put, List.getElem_toArray, List.getElem_cons_zero, List.getElem_cons_succ, List.setIfInBounds_toArray, List.set_cons_zero, List.set_cons_succ]
    refine wpAnyH_take (i := 6) (v := undef) rfl (by kernel_rfl) (by kernel_rfl) (by kernel_rfl) (fun _ _ _ h => h) (Or.inr ⟨by rfl, rfl⟩) hS ?_
    try simp only [Act.put, List.getElem_toArray, List.getElem_cons_zero, List.getElem_cons_succ, List.setIfInBounds_toArray, List.set_cons_zero, List.set_cons_succ]
    refine wpAnyH_take (i := 7) (v := undef) rfl (by kernel_rfl) (by kernel_rfl) (by kernel_rfl) (fun _ _ _ h => h) (Or.inr ⟨by rfl, rfl⟩) hS ?_
    try simp only [Act.put, List.getElem_toArray, List.getElem_cons_zero, List.getElem_cons_succ, List.setIfInBounds_toArray, List.set_cons_zero, List.set_cons_succ]
    refine wpAnyH_take (i := 8) (v := undef) rfl (by kernel_rfl) (by kernel_rfl) (by kernel_rfl) (fun _ _ _ h => h) (Or.inr ⟨by rfl, rfl⟩) hS ?_
    try simp only [Act.put, List.getElem_toArray, List.getElem_cons_zero, List.getElem_cons_succ, List.setIfInBounds_toArray, List.set_cons_zero, List.set_cons_succ]
    refine wpAnyH_take (i := 9) (v := undef) rfl (by kernel_rfl) (by kernel_rfl) (by kernel_rfl) (fun _ _ _ h => h) (Or.inr ⟨by rfl, rfl⟩) hS ?_
    try simp only [Act.put, List.getElem_toArray, List.getElem_cons_zero, List.getElem_cons_succ, List.setIfInBounds_toArray, List.set_cons_zero, List.set_cons_succ]
    refine wpAnyH_take (i := 10) (v := undef) rfl (by kernel_rfl) (by kernel_rfl) (by kernel_rfl) (fun _ _ _ h => h) (Or.inr ⟨by rfl, rfl⟩) hS ?_
    try simp only [Act.put, List.getElem_toArray, List.getElem_cons_zero, List.getElem_cons_succ, List.setIfInBounds_toArray, List.set_cons_zero, List.set_cons_succ]
    refine wpAnyH_take (i := 11) (v := undef) rfl (by kernel_rfl) (by kernel_rfl) (by kernel_rfl) (fun _ _ _ h => h) (Or.inr ⟨by rfl, rfl⟩) hS ?_
    try simp only [Act.put, List.getElem_toArray, List.getElem_cons_zero, List.getElem_cons_succ, List.setIfInBounds_toArray, List.set_cons_zero, List.set_cons_succ]
    refine wpAnyH_take (i := 12) (v := undef) rfl (by kernel_rfl) (by kernel_rfl) (by kernel_rfl) (fun _ _ _ h => h) (Or.inr ⟨by rfl, rfl⟩) hS ?_
    try simp only [Act.put, List.getElem_toArray, List.getElem_cons_zero, List.getElem_cons_succ, List.setIfInBounds_toArray, List.set_cons_zero, List.set_cons_succ]
    refine wpAnyH_take (i := 13) (v := undef) rfl (by kernel_rfl) (by kernel_rfl) (by kernel_rfl) (fun _ _ _ h => h) (Or.inr ⟨by rfl, rfl⟩) hS ?_
    try simp only [Act.put, List.getElem_toArray, List.getElem_cons_zero, List.getElem_cons_succ, List.setIfInBounds_toArray, List.set_cons_zero, List.set_cons_succ]
    refine wpAnyH_take (i := 14) (v := undef) rfl (by kernel_rfl) (by kernel_rfl) (by kernel_rfl) (fun _ _ _ h => h) (Or.inr ⟨by rfl, rfl⟩) hS ?_
    try simp only [Act.put, List.getElem_toArray, List.getElem_cons_zero, List.getElem_cons_succ, List.setIfInBounds_toArray, List.set_cons_zero, List.set_cons_succ]
    refine wpAnyH_take (i := 15) (v := ?_) rfl (by kernel_rfl) (by kernel_rfl) (by kernel_rfl) (fun _ _ _ h => h) (Or.inl ⟨by rfl, ?_⟩) hS ?_
    rotate_left
    · (intro W hs; go_simp; first | done | with_reducible rfl)
    try simp only [Act.put, List.getElem_toArray, List.getElem_cons_zero, List.getElem_cons_succ, List.setIfInBounds_toArray, List.set_cons_zero, List.set_cons_succ]
    refine wpAnyH_take (i := 16) (v := ?_) rfl (by kernel_rfl) (by kernel_rfl) (by kernel_rfl) (fun _ _ _ h => h) (Or.inl ⟨by rfl, ?_⟩) hS ?_
    rotate_left
    · (intro W hs; go_simp; first | done | with_reducible rfl)
    try simp only [Act.put, List.getElem_toArray, List.getElem_cons_zero, List.getElem_cons_succ, List.setIfInBounds_toArray, List.set_cons_zero, List.set_cons_succ]
    refine wpAnyH_done (by kernel_rfl) ?_ _
    have HF := Lib.hid hS
    clear hS s0 g1 g2
    go_wp2
    go_ret
    exact ⟨by rw [HR.out]; rfl, HF.out⟩
end
#print axioms equal_any
#print axioms gSame_any
#print axioms asc_eq
end Go.Proofs.Ytcfajeldkioomaa
