/- What taken needs: rows of numbers, slices.Clone, max; what a line is. | Plain: the taking's numbers at each look. | Plain: the order, the rounds and the rest, as the document tells them; what taken has is these. | topo.taken: nodes taken away, one by one, by any line. -/
import Derived.Test.YteafkafkbipcmaaS1
import Derived.Test.YteafkafkbipcmaaM3
import Derived.Test.YteafkafkbipcmaaM5
import Derived.Lib.SliceRun
import Derived.Deep.OwnRows
import Derived.Deep.DeepCutAuto
import Derived.Deep.CutBlock

namespace Go.Proofs.Yteafkafkbipcmaa
open Go.RowKit
set_option linter.unusedVariables false

theorem new_cells {W : World} {cs : Array Value} {t : TypeId} {b i : Nat} {v : Value} (hb : b = W.heap.size) (hi : cs[i]? = some v) : (W.alloc (.cells cs t)).cell? ⟨b, i, none⟩ = some v ∧ (W.alloc (.cells cs t)).frozen? ⟨b, i, none⟩ = false := by
  subst hb
  exact ⟨by rw [cell_of_row _ _ _ _ _ _ (heap_alloc_new W _)]; exact hi, frozen_of_row _ _ _ _ _ (heap_alloc_new W _)⟩
/-- a row of numbers that may be written -/
def IntB (w : World) (b N : Nat) (f : Nat → Int) : Prop := ∀ i, i < N → w.cell? ⟨b, i, none⟩ = some (.int .i64 (f i)) ∧ w.frozen? ⟨b, i, none⟩ = false
theorem IntB.keep {w w' : World} {S : Nat → Prop} {b N : Nat} {f : Nat → Int} (h : IntB w b N f) (hf : Fx S w w') (hn : ¬ S b) : IntB w' b N f := fun i hi => hf.cellF (h i hi).1 (h i hi).2 hn
theorem IntB.no {w w' : World} {b N : Nat} {f : Nat → Int} (h : IntB w b N f) (hf : Fx No w w') : IntB w' b N f := h.keep hf (fun q => q)
theorem IntB.congr {w : World} {b N : Nat} {f g : Nat → Int} (h : IntB w b N f) (e : ∀ i, i < N → f i = g i) : IntB w b N g := fun i hi => by rw [← e i hi]; exact h i hi
theorem IntB.put {w : World} {b N i : Nat} {f : Nat → Int} (h : IntB w b N f) (hi : i < N) (x : Int) : IntB (w.setCell ⟨b, i, none⟩ (.int .i64 x)) b N (fun j => if j = i then x else f j) := fun j hj => by
  obtain ⟨h1, h2⟩ := h j hj
  by_cases e : j = i
  · subst e
    simp only [if_true]
    exact ⟨World.cell?_setCell_same _ _ _ h1, by simpa using h2⟩
  · simp only [if_neg e]
    exact ⟨by rw [World.cell?_setCell_other _ _ _ _ (by intro e2; injection e2 with e3 e4; exact e e4.symm)]; exact h1, by simpa using h2⟩
def rowF (N : Nat) (f : Nat → Int) : List Int := (List.range N).map f
theorem rowF_len (N : Nat) (f : Nat → Int) : (rowF N f).length = N := by simp [rowF]
theorem rowF_at {N i : Nat} {f : Nat → Int} (h : i < N) : gi (rowF N f) i = f i := by simp [gi, rowF, h]
theorem IntB.ints {w : World} {b N c : Nat} {f : Nat → Int} (h : IntB w b N f) (hN : N ≤ c) (hc : c ≤ maxLen) : IntsV w (fun k => k = b) (.slice (some ⟨b, 0, none⟩) N c) (rowF N f) := by
  refine ⟨some ⟨b, 0, none⟩, c, by rw [rowF_len], by rw [rowF_len]; exact hN, hc, by simp [Go.Proofs.Yteafkafkbipcmaa.ints], by simp, .inr ⟨b, 0, rfl, rfl, fun i hi => ?_⟩⟩
  have hi' : i < N := by simpa [Go.Proofs.Yteafkafkbipcmaa.ints, rowF] using hi
  rw [Nat.zero_add, (h i hi').1]
  simp [Go.Proofs.Yteafkafkbipcmaa.ints, rowF, hi']
theorem IntB.ofOwns {w : World} {base N g c : Nat} {f : Nat → Int} (h : w.ownsRow base 3 1 (.slice (some ⟨g, 0, none⟩) N c) N (Go.Proofs.Yteafkafkbipcmaa.ints (rowF N f))) : IntB w g N f := fun i hi => by
  refine ⟨?_, World.ownsRow.frozenAt h i⟩
  rw [World.ownsRow.cellAt h i (by omega)]
  simp [Go.Proofs.Yteafkafkbipcmaa.ints, rowF, hi]
section
variable {w w' : World} {D : Nat → Prop} {l : List Int}
theorem cloneA_any {a : Addr} {n cap : Nat} (h : IntsV w D (.slice (some a) n cap) l) (hn : n = l.length) (hl : l.length ≤ 1000000) :
    Calls Try.prog 48 #[.slice (some a) n cap] w fun e w' => ∃ g c', e = .returned (.slice (some ⟨g, 0, none⟩) l.length c') ∧ Fx No w w' ∧ w'.ownsRow w.heap.size 3 1 (.slice (some ⟨g, 0, none⟩) l.length c') l.length (ints l) ∧ w.heap.size ≤ g ∧ g < w'.heap.size := by
  obtain ⟨ii, hi, hz, hs, hb⟩ := info_parts info_int'
  subst hn
  have H := Lib.hid h
  clear h
  have hq : ∀ W, (binOp .eql 32 (.slice (some a) l.length cap) (.slice none 0 0)).run Try.prog W = .ok (.bool false) W := fun W => Lib.run_eql_slice_nil W _ _ (some a) _ cap 0 0 Try.underlying32
  have HO : Hid ((w.alloc (.cells #[] 3)).ownsRow w.heap.size 3 1 (.slice (some ⟨w.heap.size, 0, none⟩) 0 0) 0 []) := Lib.hid ⟨rfl, .inr ⟨_, 0, #[], rfl, Nat.le_refl _, by show (w.heap.push _)[w.heap.size]? = _; simp, Nat.le_refl _, Nat.zero_le _, rfl, rfl⟩⟩
  have HS : Hid (SlV (w.alloc (.cells #[] 3)) D (.slice (some a) l.length cap) 1 l.length (ints l)) := Lib.hid (SlV.keep H.out ((Fx.refl No w).alloc _) No.disj)
  go_enter Try.func48, Try.ntmps48
  go_wp2_with (at_builtin; refine wpList_append_sl rfl _ _ 32 rfl w.heap.size 3 Try.underlying32 hi hz hs hb rfl (by decide) rfl HO.out rfl HS.out (ints_one _) (by unfold maxLen; omega) (by omega) (by simp) ?_)
  intro v' w1 ho hf hnl
  have ho2 : w1.ownsRow w.heap.size 3 1 v' l.length (ints l) := by simpa using ho
  have hsh : ∃ g c', v' = .slice (some ⟨g, 0, none⟩) l.length c' ∧ w.heap.size ≤ g ∧ g < w1.heap.size := by
    rcases ho2.2 with ⟨q, _⟩ | ⟨g, c', cur, q1, q2, q3, _⟩
    · exact absurd q (by simpa using hnl)
    · exact ⟨g, c', q1, q2, (Array.getElem?_eq_some_iff.1 q3).1⟩
  obtain ⟨g, c', rfl, hg1, hg2⟩ := hsh
  have HO2 := Lib.hid ho2
  clear ho2 hnl
  have HF : Hid (Fx No w w1) := Lib.hid (((Fx.refl No w).alloc _).trans' hf fun j h1 h2 => by
    have h3 : w.heap.size = j := by simpa [Value.ownBlock] using h1
    omega)
  clear ho hf
  go_wp2
  go_ret
  exact ⟨_, _, rfl, HF.out, HO2.out, hg1, hg2⟩
end
theorem max_ints (ats : Array TypeId) (ty : TypeId) (x y : Int) : Builtin.max_ ats ty #[.int .i64 x, .int .i64 y] = pure (.int .i64 (max x y)) := by
  have e : (if x < y then y else x) = max x y := by split <;> omega
  show (pure (Value.int .i64 (if x < y then y else x)) : Sem Value) = _
  rw [e]
/-- what a line is -/
structure LineC (LV : World → (Nat → Prop) → List Nat → Prop) (ty : TypeId) (ptr : Value) (kpush kpop ksome : FuncId) (ins : Nat → List Nat → List Nat) : Prop where
  keep : ∀ w w' F Q S, LV w F Q → Fx S w w' → (∀ x, F x → ¬ S x) → LV w' F Q
  lt : ∀ w F Q, LV w F Q → ∀ x, F x → x < w.heap.size
  mpush : ∀ w, (method 244 ty ptr "alibi/topo.push").run Try.prog w = .ok (kpush, ptr) w
  mpop : ∀ w, (method 244 ty ptr "alibi/topo.pop").run Try.prog w = .ok (kpop, ptr) w
  msome : ∀ w, (method 244 ty ptr "alibi/topo.some").run Try.prog w = .ok (ksome, ptr) w
  push : ∀ w F Q n, LV w F Q → Q.length ≤ 100000 → n ≤ 1000000 → n ∉ Q → Calls Try.prog kpush #[ptr, .int .i64 (n : Nat)] w fun e w' => e = .returned (.tuple #[]) ∧ Fx F w w' ∧ ∃ F', LV w' F' (ins n Q) ∧ ∀ x, F' x → F x ∨ w.heap.size ≤ x
  pop : ∀ w F Q n, LV w F (n :: Q) → Q.length ≤ 100000 → Calls Try.prog kpop #[ptr] w fun e w' => e = .returned (.int .i64 (n : Nat)) ∧ Fx F w w' ∧ ∃ F', LV w' F' Q ∧ ∀ x, F' x → F x ∨ w.heap.size ≤ x
  some : ∀ w F Q, LV w F Q → Calls Try.prog ksome #[ptr] w fun e w' => e = .returned (.bool (decide (0 < Q.length))) ∧ w = w'
  mem : ∀ n Q y, y ∈ ins n Q ↔ y = n ∨ y ∈ Q
  nd : ∀ n Q, Q.Nodup → n ∉ Q → (ins n Q).Nodup
theorem insS_nd {n : Nat} {Q : List Nat} (h : Q.Nodup) (hn : n ∉ Q) : (insS n Q).Nodup := (insS_perm n Q).nodup_iff.2 (List.nodup_cons.2 ⟨hn, h⟩)
theorem least_line (hb lo : Nat) : LineC (LeastV hb lo) 71 (.pointer (some ⟨hb, 0, none⟩)) 88 87 89 insS :=
  { keep := fun w w' F Q S h hf hd => h.keep hf hd
    lt := fun w F Q h x hx => (h.lt x hx).2
    mpush := fun _ => by kernel_rfl
    mpop := fun _ => by kernel_rfl
    msome := fun _ => by kernel_rfl
    push := fun w F Q n h hl _ hn => lPush_any h hl n hn
    pop := fun w F Q n h hl => lPop_any h hl
    some := fun w F Q h => lSome_any h
    mem := fun n Q y => mem_insS
    nd := fun n Q h hn => insS_nd h hn }
theorem first_line (hb lo : Nat) : LineC (FirstV hb lo) 66 (.pointer (some ⟨hb, 0, none⟩)) 84 83 85 (fun n Q => Q ++ [n]) :=
  { keep := fun w w' F Q S h hf hd => h.keep hf hd
    lt := fun w F Q h x hx => (h.lt x hx).2
    mpush := fun _ => by kernel_rfl
    mpop := fun _ => by kernel_rfl
    msome := fun _ => by kernel_rfl
    push := fun w F Q n h hl hn _ => fPush_any h hl n hn
    pop := fun w F Q n h hl => fPop_any h hl
    some := fun w F Q h => fSome_any h
    mem := fun n Q y => by rw [List.mem_append, List.mem_singleton]; exact or_comm
    nd := fun n Q h hn => List.nodup_append.2 ⟨h, by simp, fun a ha b hb e => by rw [List.mem_singleton] at hb; rw [e, hb] at ha; exact hn ha⟩ }
#print axioms least_line
#print axioms first_line
#print axioms cloneA_any
end Go.Proofs.Yteafkafkbipcmaa

namespace Go.Proofs.Yteafkafkbipcmaa
set_option linter.unusedVariables false

/-- the taking, with the numbers of the rows -/
structure KL (L : List Ed) (N : Nat) (ord Q : List Nat) (dn : List Ed) (fW fF fR : Nat → Int) : Prop where
  ki : KI L N ord Q dn fF fR
  nd : dn.Nodup
  w : ∀ j, j < N → fW j = (wtD L dn j : Nat)
  bd : ∀ j, j < N → fF j ≤ dn.length
section
variable {L : List Ed} {N : Nat} {ord Q : List Nat} {dn : List Ed} {fW fF fR : Nat → Int}
theorem KL.len (h : KL L N ord Q dn fW fF fR) : dn.length ≤ L.length := by
  have hs : ∀ x ∈ dn, x ∈ L := fun x hx => (h.ki.dnS x hx).1
  have := h.nd
  clear h
  revert hs this L
  induction dn with
  | nil => intros; simp
  | cons a t ih =>
    intro L hs hn
    obtain ⟨h1, h2⟩ := List.nodup_cons.1 hn
    have := ih (L := L.erase a) (fun x hx => by
      have : x ≠ a := fun e => h1 (e ▸ hx)
      exact (List.mem_erase_of_ne this).2 (hs x (List.mem_cons_of_mem _ hx))) h2
    have ha := hs a (by simp)
    rw [List.length_erase_of_mem ha] at this
    have : 0 < L.length := List.length_pos_of_mem ha
    simp; omega
theorem KL.start (hQ : ∀ v, v ∈ Q ↔ v < N ∧ ∀ x ∈ L, x.t ≠ (v : Int)) (hn : Q.Nodup) : KL L N [] Q [] (fun j => (wtD L [] j : Nat)) (fun v => if ∃ x ∈ L, x.t = (v : Int) then -1 else 0) (fun v => if ∃ x ∈ L, x.t = (v : Int) then -1 else 0) :=
  ⟨KI.start hQ hn, List.nodup_nil, fun _ _ => rfl, fun j _ => by split <;> simp⟩
theorem KL.pop {n : Nat} (h : KL L N ord (n :: Q) dn fW fF fR) : KL L N (ord ++ [n]) Q dn fW fF fR := ⟨h.ki.pop, h.nd, h.w, h.bd⟩
/-- what stands in the rows, at the nodes of an edge -/
theorem KL.at_ {x : Ed} {n t : Nat} (h : KL L N ord Q dn fW fF fR) (hL : NdE L N) (hx : x ∈ L) (hd : x ∉ dn) (hn : x.f = (n : Int)) (ht : x.t = (t : Int)) (hno : n ∈ ord) :
    n < N ∧ t < N ∧ n ≠ t ∧ (t ∉ ord ∧ t ∉ Q) ∧ (∃ k, fW t = (k + 1 : Nat) ∧ wtD L dn t = k + 1 ∧ k ≤ L.length) ∧ 0 ≤ fF n ∧ fF n ≤ dn.length ∧ -1 ≤ fF t ∧ fF t ≤ dn.length := by
  obtain ⟨⟨_, _⟩, h3, h4⟩ := hL x hx
  obtain ⟨ho, hw⟩ := h.ki.out hL hx hd
  have htt : x.t.toNat = t := by omega
  rw [htt] at ho hw
  have htN : t < N := by omega
  have hwl : wtD L dn t ≤ L.length := List.length_filter_le _ _
  have hT : -1 ≤ fF t := by
    rcases h.ki.frA t htN with ⟨q, _⟩ | ⟨q, _⟩ | ⟨y, q1, _, q3⟩
    · omega
    · omega
    · have := h.ki.fr0 y.f.toNat (.inl (h.ki.dnS y q1).2); omega
  refine ⟨by omega, htN, fun e => ho (.inl (e ▸ hno)), ⟨fun e => ho (.inl e), fun e => ho (.inr e)⟩, ⟨wtD L dn t - 1, by rw [h.w t htN]; congr 1; omega, by omega, by omega⟩, h.ki.fr0 n (.inl hno), h.bd n (by omega), hT, h.bd t htN⟩
theorem KL.look1 {x : Ed} {n t : Nat} {Q' : List Nat} (h : KL L N ord Q dn fW fF fR) (hnd : L.Nodup) (hL : NdE L N) (hx : x ∈ L) (hd : x ∉ dn) (hn : x.f = (n : Int)) (ht : x.t = (t : Int)) (hno : n ∈ ord)
    (gR : Nat → Int) (hr : gR = fun v => if v = t ∧ wtD L dn t = 1 then max (fF t) (fF n + 1) else fR v)
    (hQ : ∀ v, v ∈ Q' ↔ v ∈ Q ∨ (v = t ∧ wtD L dn t = 1)) (hQn : Q'.Nodup) : KL L N ord Q' (dn ++ [x]) (fun j => if j = t then fW t - 1 else fW j) (fun j => if j = t then max (fF t) (fF n + 1) else fF j) gR := by
  obtain ⟨hnN, htN, hnt, _, _, _, hb1, _, hb2⟩ := h.at_ hL hx hd hn ht hno
  refine ⟨h.ki.look hnd hL hx hd hn ht hno rfl hr hQ hQn, List.nodup_append.2 ⟨h.nd, by simp, fun a ha b hb e => by rw [List.mem_singleton] at hb; rw [e, hb] at ha; exact hd ha⟩, fun j hj => ?_, fun j hj => ?_⟩
  · by_cases e : j = t
    · subst e
      have := wtD_less hnd hx hd ht
      rw [if_pos rfl, h.w _ hj, ← this]
      omega
    · rw [if_neg e, h.w j hj, wtD_same (by rw [ht]; omega)]
  · rw [List.length_append, List.length_singleton]
    by_cases e : j = t
    · rw [if_pos e]; omega
    · rw [if_neg e]; have := h.bd j hj; omega
/-- it may be taken now -/
theorem KL.yes {x : Ed} {n t : Nat} {Q' : List Nat} (h : KL L N ord Q dn fW fF fR) (hnd : L.Nodup) (hL : NdE L N) (hx : x ∈ L) (hd : x ∉ dn) (hn : x.f = (n : Int)) (ht : x.t = (t : Int)) (hno : n ∈ ord) (h1 : wtD L dn t = 1)
    (hQ : ∀ v, v ∈ Q' ↔ v = t ∨ v ∈ Q) (hQn : Q'.Nodup) : KL L N ord Q' (dn ++ [x]) (fun j => if j = t then fW t - 1 else fW j) (fun j => if j = t then max (fF t) (fF n + 1) else fF j) (fun j => if j = t then max (fF t) (fF n + 1) else fR j) :=
  h.look1 hnd hL hx hd hn ht hno _ (by funext v; simp [h1]) (fun v => by rw [hQ]; simp [h1]; exact or_comm) hQn
/-- it waits -/
theorem KL.not {x : Ed} {n t : Nat} (h : KL L N ord Q dn fW fF fR) (hnd : L.Nodup) (hL : NdE L N) (hx : x ∈ L) (hd : x ∉ dn) (hn : x.f = (n : Int)) (ht : x.t = (t : Int)) (hno : n ∈ ord) (h1 : wtD L dn t ≠ 1) : KL L N ord Q (dn ++ [x]) (fun j => if j = t then fW t - 1 else fW j) (fun j => if j = t then max (fF t) (fF n + 1) else fF j) fR :=
  h.look1 hnd hL hx hd hn ht hno _ (by funext v; simp [h1]) (fun v => by simp [h1]) h.ki.ndQ
/-- which may be taken -/
theorem KL.free (h : KL L N ord Q dn fW fF fR) (hfull : ∀ x ∈ L, x.f.toNat ∈ ord → x ∈ dn) : ∀ v, v ∈ Q ↔ v < N ∧ v ∉ ord ∧ ∀ x ∈ L, x.t = (v : Int) → x.f.toNat ∈ ord := fun v => by
  constructor
  · intro hv
    have hvN := h.ki.lt v (.inr hv)
    exact ⟨hvN, fun e => h.ki.dj v e hv, fun x hx ht => (h.ki.dnS x (wtD_zero.1 ((h.ki.mem v hvN).2 (.inr hv)) x hx ht)).2⟩
  · rintro ⟨h1, h2, h3⟩
    rcases (h.ki.mem v h1).1 (wtD_zero.2 fun x hx ht => hfull x hx (h3 x hx ht)) with e | e
    · exact absurd e h2
    · exact e
end
/-- an edge of the row is not looked at before its turn -/
theorem fresh_at {L l dn : List Ed} {ord : List Nat} {n q : Nat} {x : Ed} (hl : l.Nodup) (hf : ∀ y ∈ l, y ∈ L ∧ y.f = (n : Int)) (hd : ∀ y ∈ dn, y.f.toNat ∈ ord) (hn : n ∉ ord) (hq : q < l.length) (hx : l[q]? = some x) : x ∉ dn ++ l.take q := by
  intro h
  have hx2 : x = l[q] := by rw [List.getElem?_eq_getElem hq] at hx; exact (Option.some.inj hx).symm
  rcases List.mem_append.1 h with e | e
  · have h1 := hd x e
    have h2 := (hf x (by rw [hx2]; exact List.getElem_mem _)).2
    rw [h2] at h1
    exact hn (by simpa using h1)
  · obtain ⟨i, hi, e2⟩ := List.mem_take_iff_getElem.1 e
    have hi2 : i < q := by omega
    have := (List.nodup_iff_pairwise_ne.1 hl)
    rw [List.pairwise_iff_getElem] at this
    exact this i q (by omega) hq hi2 (by rw [e2, hx2])
#print axioms KL.yes
#print axioms KL.not
#print axioms KL.free
#print axioms fresh_at
#print axioms KL.len
end Go.Proofs.Yteafkafkbipcmaa

namespace Go.Proofs.Yteafkafkbipcmaa
set_option linter.unusedVariables false

/-- may it stand next, where those of S are taken? -/
def freeB (L : List Ed) (S : List Nat) (v : Nat) : Bool := !decide (v ∈ S) && L.all fun x => !decide (x.t = (v : Int)) || decide (x.f.toNat ∈ S)
def free (L : List Ed) (N : Nat) (S : List Nat) : List Nat := (List.range N).filter (freeB L S)
theorem freeB_iff {L : List Ed} {S : List Nat} {v : Nat} : freeB L S v = true ↔ v ∉ S ∧ ∀ x ∈ L, x.t = (v : Int) → x.f.toNat ∈ S := by
  unfold freeB
  rw [Bool.and_eq_true, List.all_eq_true]
  constructor
  · rintro ⟨h1, h2⟩
    refine ⟨by simpa using h1, fun x hx ht => ?_⟩
    have := h2 x hx
    simpa [ht] using this
  · rintro ⟨h1, h2⟩
    refine ⟨by simpa using h1, fun x hx => ?_⟩
    by_cases ht : x.t = (v : Int)
    · simp [ht, h2 x hx ht]
    · simp [ht]
theorem mem_free {L : List Ed} {N : Nat} {S : List Nat} {v : Nat} : v ∈ free L N S ↔ v < N ∧ v ∉ S ∧ ∀ x ∈ L, x.t = (v : Int) → x.f.toNat ∈ S := by
  unfold free; rw [List.mem_filter, List.mem_range, freeB_iff]
theorem free_asc (L : List Ed) (N : Nat) (S : List Nat) : (free L N S).Pairwise (· < ·) := List.Pairwise.filter _ List.pairwise_lt_range
theorem free_congr {L : List Ed} {N : Nat} {S T : List Nat} (h : ∀ v, v ∈ S ↔ v ∈ T) : free L N S = free L N T := by
  unfold free freeB
  refine List.filter_congr fun v hv => ?_
  simp only [h]
/-- two rising rows of the same numbers are one -/
theorem asc_ext : ∀ {a b : List Nat}, a.Pairwise (· < ·) → b.Pairwise (· < ·) → (∀ v, v ∈ a ↔ v ∈ b) → a = b
  | [], [], _, _, _ => rfl
  | [], y :: b, _, _, h => by have := (h y).2 (by simp); simp at this
  | x :: a, [], _, _, h => by have := (h x).1 (by simp); simp at this
  | x :: a, y :: b, ha, hb, h => by
    obtain ⟨a1, a2⟩ := List.pairwise_cons.1 ha
    obtain ⟨b1, b2⟩ := List.pairwise_cons.1 hb
    have e : x = y := by
      rcases List.mem_cons.1 ((h x).1 (by simp)) with q | q
      · exact q
      · rcases List.mem_cons.1 ((h y).2 (by simp)) with q2 | q2
        · exact q2.symm
        · have := a1 _ q2; have := b1 _ q; omega
    subst e
    rw [asc_ext a2 b2 fun v => ?_]
    constructor
    · intro hv
      rcases List.mem_cons.1 ((h v).1 (List.mem_cons_of_mem _ hv)) with q | q
      · have := a1 _ hv; omega
      · exact q
    · intro hv
      rcases List.mem_cons.1 ((h v).2 (List.mem_cons_of_mem _ hv)) with q | q
      · have := b1 _ hv; omega
      · exact q
/-- each is the first that may stand next -/
def SortP (L : List Ed) (N : Nat) (ord : List Nat) : Prop := ∀ (a : List Nat) (v : Nat) (b : List Nat), ord = a ++ v :: b → ∃ r, free L N a = v :: r
theorem SortP.nil (L : List Ed) (N : Nat) : SortP L N [] := fun a v b h => by cases a <;> simp at h
theorem SortP.snoc {L : List Ed} {N : Nat} {ord : List Nat} {n : Nat} {r : List Nat} (h : SortP L N ord) (hf : free L N ord = n :: r) : SortP L N (ord ++ [n]) := fun a v b e => by
  rcases List.eq_nil_or_concat b with hb | ⟨b', z, hb⟩
  · rw [hb] at e
    obtain ⟨rfl, e2⟩ := List.append_inj' e rfl
    obtain rfl : n = v := by simpa using e2
    exact ⟨r, hf⟩
  · rw [hb, List.concat_eq_append, ← List.cons_append, ← List.append_assoc] at e
    obtain ⟨e1, _⟩ := List.append_inj' e rfl
    exact h a v b' e1
theorem SortP.uniq {L : List Ed} {N : Nat} : ∀ {b c a : List Nat}, SortP L N (a ++ b) → SortP L N (a ++ c) → free L N (a ++ b) = [] → free L N (a ++ c) = [] → b = c
  | [], [], _, _, _, _, _ => rfl
  | [], y :: c, a, _, h2, h3, _ => by obtain ⟨r, e⟩ := h2 a y c rfl; rw [List.append_nil] at h3; rw [h3] at e; simp at e
  | x :: b, [], a, h1, _, _, h4 => by obtain ⟨r, e⟩ := h1 a x b rfl; rw [List.append_nil] at h4; rw [h4] at e; simp at e
  | x :: b, y :: c, a, h1, h2, h3, h4 => by
    obtain ⟨r, e1⟩ := h1 a x b rfl
    obtain ⟨s, e2⟩ := h2 a y c rfl
    rw [e1] at e2
    obtain ⟨rfl, _⟩ : x = y ∧ r = s := by simpa using e2
    have k : ∀ t : List Nat, a ++ x :: t = (a ++ [x]) ++ t := fun t => by simp
    rw [k] at h1 h2 h3 h4
    rw [SortP.uniq h1 h2 h3 h4]
def srtF (L : List Ed) (N : Nat) : Nat → List Nat → List Nat
  | 0, S => S
  | k + 1, S => match free L N S with
    | [] => S
    | v :: _ => srtF L N k (S ++ [v])
/-- the document's order -/
def srt (L : List Ed) (N : Nat) : List Nat := srtF L N N []
theorem all_taken {N : Nat} {S : List Nat} (hn : S.Nodup) (hl : ∀ v ∈ S, v < N) (hN : N ≤ S.length) : ∀ v, v < N → v ∈ S := by
  intro v hv
  apply Classical.byContradiction
  intro hs
  have h1 : (v :: S).Nodup := List.nodup_cons.2 ⟨hs, hn⟩
  have h2 : ∀ x ∈ v :: S, x < N := fun x hx => by
    rcases List.mem_cons.1 hx with e | e
    · omega
    · exact hl x e
  have h3 := nd_len h1 h2
  simp at h3; omega
theorem srtF_ok {L : List Ed} {N : Nat} : ∀ {k : Nat} {S : List Nat}, SortP L N S → S.Nodup → (∀ v ∈ S, v < N) → N ≤ k + S.length → SortP L N (srtF L N k S) ∧ (srtF L N k S).Nodup ∧ (∀ v ∈ srtF L N k S, v < N) ∧ free L N (srtF L N k S) = []
  | 0, S, h, hn, hl, hk => by
    refine ⟨h, hn, hl, ?_⟩
    show free L N S = []
    rw [List.eq_nil_iff_forall_not_mem]
    intro v hv
    have := mem_free.1 hv
    exact this.2.1 (all_taken hn hl (by omega) v this.1)
  | k + 1, S, h, hn, hl, hk => by
    unfold srtF
    split
    · rename_i e; exact ⟨h, hn, hl, e⟩
    · rename_i v r e
      have hv := mem_free.1 (show v ∈ free L N S by rw [e]; simp)
      refine srtF_ok (h.snoc e) (List.nodup_append.2 ⟨hn, by simp, fun a ha b hb e => by rw [List.mem_singleton] at hb; rw [e, hb] at ha; exact hv.2.1 ha⟩) (fun x hx => ?_) (by simp; omega)
      rcases List.mem_append.1 hx with q | q
      · exact hl x q
      · rw [List.mem_singleton] at q; rw [q]; exact hv.1
theorem srt_ok (L : List Ed) (N : Nat) : SortP L N (srt L N) ∧ (srt L N).Nodup ∧ (∀ v ∈ srt L N, v < N) ∧ free L N (srt L N) = [] := srtF_ok (SortP.nil L N) List.nodup_nil (fun v h => by simp at h) (by simp)
theorem SortP.eq {L : List Ed} {N : Nat} {ord : List Nat} (h : SortP L N ord) (hf : free L N ord = []) : ord = srt L N := by
  have h2 := srt_ok L N
  exact SortP.uniq (a := []) h h2.1 hf h2.2.2.2
/-- what is not taken is stuck, as soon as the rest is taken -/
theorem KF.stuck {L : List Ed} {N : Nat} {ord : List Nat} {rd : Nat → Int} (h : KF L N ord rd) : free L N ord = [] := by
  rw [List.eq_nil_iff_forall_not_mem]
  intro v hv
  have := mem_free.1 hv
  exact this.2.1 (h.cl v this.1 this.2.2)
/-- of any two ways to take nodes away the same are left -/
theorem closed_sub {L : List Ed} {N : Nat} {a b : List Nat} (ha : ∀ (p : List Nat) (v : Nat) (q : List Nat), a = p ++ v :: q → v < N ∧ ∀ x ∈ L, x.t = (v : Int) → x.f.toNat ∈ p) (hb : ∀ v, v < N → (∀ x ∈ L, x.t = (v : Int) → x.f.toNat ∈ b) → v ∈ b) : ∀ v ∈ a, v ∈ b := by
  have key : ∀ (n : Nat) (p q : List Nat), p.length = n → a = p ++ q → ∀ v ∈ p, v ∈ b := by
    intro n
    induction n with
    | zero => intro p q h _ v hv; obtain rfl := List.eq_nil_of_length_eq_zero h; simp at hv
    | succ n ih =>
      intro p q h he v hv
      rcases List.eq_nil_or_concat p with hp | ⟨p', z, hp⟩
      · rw [hp] at h; simp at h
      · rw [List.concat_eq_append] at hp
        have hl : p'.length = n := by rw [hp] at h; simpa using h
        have he2 : a = p' ++ z :: q := by rw [he, hp]; simp
        have ih2 := ih p' (z :: q) hl he2
        rw [hp] at hv
        rcases List.mem_append.1 hv with e | e
        · exact ih2 v e
        · rw [List.mem_singleton] at e
          obtain ⟨z1, z2⟩ := ha p' z q he2
          rw [e]
          exact hb z z1 fun x hx ht => ih2 _ (z2 x hx ht)
  exact key a.length a [] rfl (by simp)
theorem KF.same {L : List Ed} {N : Nat} {ord : List Nat} {rd : Nat → Int} (h : KF L N ord rd) (v : Nat) : v ∈ ord ↔ v ∈ srt L N := by
  obtain ⟨h1, h2, h3, h4⟩ := srt_ok L N
  constructor
  · refine closed_sub (fun p v q e => ⟨h.lt v (by rw [e]; simp), h.tp p v q e⟩) (fun v hv hs => ?_) v
    apply Classical.byContradiction
    intro hn
    have := mem_free.2 ⟨hv, hn, hs⟩
    rw [h4] at this; simp at this
  · refine closed_sub (fun p v q e => ?_) (fun v hv hs => h.cl v hv hs) v
    obtain ⟨r, hr⟩ := h1 p v q e
    have := mem_free.1 (show v ∈ free L N p by rw [hr]; simp)
    exact ⟨this.1, this.2.2⟩
theorem KF.len {L : List Ed} {N : Nat} {ord : List Nat} {rd : Nat → Int} (h : KF L N ord rd) : ord.length = (srt L N).length := by
  have p : ord.Perm (srt L N) := (List.perm_ext_iff_of_nodup h.nd (srt_ok L N).2.1).2 h.same
  exact p.length_eq
/-- the rounds -/
def rndF (L : List Ed) (N : Nat) : Nat → List Nat → List (List Nat)
  | 0, _ => []
  | k + 1, S => match free L N S with
    | [] => []
    | v :: r => (v :: r) :: rndF L N k (S ++ (v :: r))
def rnds (L : List Ed) (N : Nat) : List (List Nat) := rndF L N N []
def rowR (N : Nat) (rd : Nat → Int) (r : Nat) : List Nat := (List.range N).filter fun v => decide (rd v = (r : Int))
theorem mem_rowR {N r v : Nat} {rd : Nat → Int} : v ∈ rowR N rd r ↔ v < N ∧ rd v = (r : Int) := by simp [rowR]
theorem KF.pos {L : List Ed} {N : Nat} {ord : List Nat} {rd : Nat → Int} (h : KF L N ord rd) {v : Nat} (hv : v < N) : 0 ≤ rd v ↔ v ∈ ord := by
  constructor
  · intro h0
    apply Classical.byContradiction
    intro hn
    have := h.rdN v hv hn; omega
  · exact h.rd0 v
theorem KF.free_at {L : List Ed} {N : Nat} {ord : List Nat} {rd : Nat → Int} (h : KF L N ord rd) (hL : NdE L N) {r : Nat} {S : List Nat} (hS : ∀ v, v ∈ S ↔ v < N ∧ 0 ≤ rd v ∧ rd v < (r : Int)) : free L N S = rowR N rd r := by
  refine asc_ext (free_asc L N S) (List.Pairwise.filter _ List.pairwise_lt_range) fun v => ?_
  rw [mem_free, mem_rowR]
  constructor
  · rintro ⟨h1, h2, h3⟩
    refine ⟨h1, ?_⟩
    have hv : v ∈ ord := h.cl v h1 fun x hx ht => (h.pos (by have := hL x hx; omega)).1 ((hS _).1 (h3 x hx ht)).2.1
    have h0 := h.rd0 v hv
    have hr : (r : Int) ≤ rd v := by
      apply Classical.byContradiction
      intro hn
      exact h2 ((hS v).2 ⟨h1, h0, by omega⟩)
    rcases h.rdA v hv with ⟨q, _⟩ | ⟨x, q1, q2, q3⟩
    · omega
    · have := ((hS _).1 (h3 x q1 q2)).2.2; omega
  · rintro ⟨h1, h2⟩
    have hv : v ∈ ord := (h.pos h1).1 (by omega)
    refine ⟨h1, fun e => by have := ((hS v).1 e).2.2; omega, fun x hx ht => ?_⟩
    obtain ⟨⟨q1, q2⟩, q3, q4⟩ := hL x hx
    have ho : x.t.toNat ∈ ord := by rw [ht]; simpa using hv
    have hs := h.rdS x hx ho
    have htn : x.t.toNat = v := by omega
    rw [htn] at hs
    exact (hS _).2 ⟨by omega, h.rd0 _ (h.pre hx q3 ho), by omega⟩
theorem KF.rndF_eq {L : List Ed} {N : Nat} {ord : List Nat} {rd : Nat → Int} (h : KF L N ord rd) (hL : NdE L N) : ∀ (k : Nat) (r : Nat) (S : List Nat), S.Nodup → N ≤ k + S.length → (∀ v, v ∈ S ↔ v < N ∧ 0 ≤ rd v ∧ rd v < (r : Int)) →
    ∃ K, rndF L N k S = (List.range K).map (fun i => rowR N rd (r + i)) ∧ (∀ i, i < K → rowR N rd (r + i) ≠ []) ∧ rowR N rd (r + K) = []
  | 0, r, S, hn, hk, hS => by
    refine ⟨0, rfl, fun i hi => by omega, ?_⟩
    rw [Nat.add_zero, ← h.free_at hL hS, List.eq_nil_iff_forall_not_mem]
    intro v hv
    have := mem_free.1 hv
    exact this.2.1 (all_taken hn (fun v hv => ((hS v).1 hv).1) (by omega) v this.1)
  | k + 1, r, S, hn, hk, hS => by
    have hf := h.free_at hL hS
    unfold rndF
    split
    · rename_i e
      exact ⟨0, rfl, fun i hi => by omega, by rw [Nat.add_zero, ← hf, e]⟩
    · rename_i v t e
      rw [← e, hf]
      have hm : ∀ u, u ∈ S ++ rowR N rd r ↔ u < N ∧ 0 ≤ rd u ∧ rd u < ((r + 1 : Nat) : Int) := fun u => by
        rw [List.mem_append, hS, mem_rowR]
        constructor
        · rintro (q | q)
          · exact ⟨q.1, q.2.1, by omega⟩
          · exact ⟨q.1, by omega, by omega⟩
        · rintro ⟨q1, q2, q3⟩
          by_cases q4 : rd u = (r : Int)
          · exact .inr ⟨q1, q4⟩
          · exact .inl ⟨q1, q2, by omega⟩
      have hnd : (S ++ rowR N rd r).Nodup := List.nodup_append.2 ⟨hn, (List.nodup_range (n := N)).filter _, fun a ha b hb e => by
        have h1 := (hS a).1 ha
        have h2 := mem_rowR.1 hb
        rw [← e] at h2
        omega⟩
      have hlen : 1 ≤ (rowR N rd r).length := by rw [← hf, e]; simp
      obtain ⟨K, k1, k2, k3⟩ := KF.rndF_eq h hL k (r + 1) (S ++ rowR N rd r) hnd (by rw [List.length_append]; omega) hm
      refine ⟨K + 1, ?_, fun i hi => ?_, ?_⟩
      · rw [k1, List.range_succ_eq_map, List.map_cons, List.map_map, Nat.add_zero]
        congr 1
        exact List.map_congr_left fun i _ => by simp only [Function.comp, Nat.succ_eq_add_one]; congr 1; omega
      · cases i with
        | zero => rw [Nat.add_zero, ← hf, e]; simp
        | succ i => have := k2 i (by omega); rw [show r + (i + 1) = r + 1 + i by omega]; exact this
      · rw [show r + (K + 1) = r + 1 + K by omega]; exact k3
/-- the rounds, by each node's round -/
theorem KF.rounds {L : List Ed} {N : Nat} {ord : List Nat} {rd : Nat → Int} (h : KF L N ord rd) (hL : NdE L N) : rnds L N = (List.range (rnds L N).length).map (rowR N rd) ∧ ∀ v, v < N → rd v < ((rnds L N).length : Int) := by
  obtain ⟨K, k1, k2, k3⟩ := h.rndF_eq hL N 0 [] List.nodup_nil (by simp) (fun v => by simp <;> omega)
  have e : rnds L N = (List.range K).map (rowR N rd) := by
    show rndF L N N [] = _
    rw [k1]
    exact List.map_congr_left fun i _ => by rw [Nat.zero_add]
  have hl : (rnds L N).length = K := by rw [e]; simp
  rw [hl]
  refine ⟨e, fun v hv => ?_⟩
  rw [Nat.zero_add] at k3
  have hno : ∀ u, u < N → rd u ≠ (K : Int) := fun u hu q => by
    have := mem_rowR.2 ⟨hu, q⟩
    rw [k3] at this; simp at this
  have key : ∀ (d : Nat) (u : Nat), u < N → rd u ≠ ((K + d : Nat) : Int) := by
    intro d
    induction d with
    | zero => exact hno
    | succ d ih =>
      intro u hu q
      have ho : u ∈ ord := (h.pos hu).1 (by omega)
      rcases h.rdA u ho with ⟨q1, _⟩ | ⟨x, q1, q2, q3⟩
      · omega
      · exact ih x.f.toNat (by have := hL x q1; omega) (by omega)
  apply Classical.byContradiction
  intro hn
  exact key (rd v - K).toNat v hv (by omega)
/-- the rest -/
def rstL (L : List Ed) (N : Nat) : List Nat := (List.range N).filter fun v => !decide (v ∈ srt L N)
theorem KF.rest {L : List Ed} {N : Nat} {ord : List Nat} {rd : Nat → Int} (h : KF L N ord rd) : rstL L N = (List.range N).filter fun v => decide (rd v < 0) := by
  unfold rstL
  refine List.filter_congr fun v hv => ?_
  have hv := List.mem_range.1 hv
  have h1 := h.pos hv
  rw [h.same] at h1
  by_cases e : v ∈ srt L N
  · have := h1.2 e
    simp [e]; omega
  · have : ¬ 0 ≤ rd v := fun q => e (h1.1 q)
    simp [e]; omega
#print axioms KF.rounds
#print axioms KF.rest
#print axioms KF.len
#print axioms SortP.eq
end Go.Proofs.Yteafkafkbipcmaa

namespace Go.Proofs.Yteafkafkbipcmaa
open Go.RowKit
set_option linter.unusedVariables false
attribute [go_sem] max_ints

/-- what taken has under way: the line, the rows of waits and rounds -/
structure TK (LV : World → (Nat → Prop) → List Nat → Prop) (w0 ws : World) (D F0 F : Nat → Prop) (gb N : Nat) (L : List Ed) (Q : List Nat) (wb rb : Nat) (fW fR : Nat → Int) : Prop where
  fx : Fx F0 w0 ws
  g : GraphV ws D gb N L
  lv : LV ws F Q
  fF : ∀ x, F x → F0 x ∨ w0.heap.size ≤ x
  wB : IntB ws wb N fW
  rB : IntB ws rb N fR
  nw : ¬ F wb
  nr : ¬ F rb
  wr : wb ≠ rb
  lo : w0.heap.size ≤ wb ∧ w0.heap.size ≤ rb ∧ wb < ws.heap.size ∧ rb < ws.heap.size
section
variable {LV : World → (Nat → Prop) → List Nat → Prop} {ty : TypeId} {ptr : Value} {kpush kpop ksome : FuncId} {ins : Nat → List Nat → List Nat}
variable {w0 ws w' : World} {D F0 F : Nat → Prop} {gb N : Nat} {L : List Ed} {Q : List Nat} {wb rb : Nat} {fW fR : Nat → Int}
theorem TK.no (hC : LineC LV ty ptr kpush kpop ksome ins) (h : TK LV w0 ws D F0 F gb N L Q wb rb fW fR) (hf : Fx No ws w') : TK LV w0 w' D F0 F gb N L Q wb rb fW fR :=
  ⟨h.fx.transNo hf, h.g.no hf, hC.keep _ _ _ _ _ h.lv hf (fun _ _ q => q), h.fF, h.wB.no hf, h.rB.no hf, h.nw, h.nr, h.wr, ⟨h.lo.1, h.lo.2.1, Nat.lt_of_lt_of_le h.lo.2.2.1 hf.size, Nat.lt_of_lt_of_le h.lo.2.2.2 hf.size⟩⟩
/-- a store into a row of the call's own -/
theorem TK.setW (hC : LineC LV ty ptr kpush kpop ksome ins) (h : TK LV w0 ws D F0 F gb N L Q wb rb fW fR) (hD : ∀ x, D x → x < w0.heap.size) {i : Nat} (hi : i < N) (x : Int) : TK LV w0 (ws.setCell ⟨wb, i, none⟩ (.int .i64 x)) D F0 F gb N L Q wb rb (fun j => if j = i then x else fW j) fR := by
  have hp : Fx (fun y => y = wb) ws (ws.setCell ⟨wb, i, none⟩ (.int .i64 x)) := Fx.put _ _ _ _
  refine ⟨h.fx.trans' hp fun j e hl => ?_, h.g.keep hp fun y hy e => ?_, hC.keep _ _ _ _ _ h.lv hp fun y hy e => ?_, h.fF, h.wB.put hi x, h.rB.keep hp fun e => h.wr e.symm, h.nw, h.nr, h.wr, ⟨h.lo.1, h.lo.2.1, by have := hp.size; have := h.lo.2.2.1; omega, by have := hp.size; have := h.lo.2.2.2; omega⟩⟩
  · have e : j = wb := e
    have := h.lo.1; omega
  · have e : y = wb := e
    have := hD y hy; have := h.lo.1; omega
  · have e : y = wb := e
    exact h.nw (e ▸ hy)
theorem TK.setR (hC : LineC LV ty ptr kpush kpop ksome ins) (h : TK LV w0 ws D F0 F gb N L Q wb rb fW fR) (hD : ∀ x, D x → x < w0.heap.size) {i : Nat} (hi : i < N) (x : Int) : TK LV w0 (ws.setCell ⟨rb, i, none⟩ (.int .i64 x)) D F0 F gb N L Q wb rb fW (fun j => if j = i then x else fR j) := by
  have hp : Fx (fun y => y = rb) ws (ws.setCell ⟨rb, i, none⟩ (.int .i64 x)) := Fx.put _ _ _ _
  refine ⟨h.fx.trans' hp fun j e hl => ?_, h.g.keep hp fun y hy e => ?_, hC.keep _ _ _ _ _ h.lv hp fun y hy e => ?_, h.fF, h.wB.keep hp fun e => h.wr e, h.rB.put hi x, h.nw, h.nr, h.wr, ⟨h.lo.1, h.lo.2.1, by have := hp.size; have := h.lo.2.2.1; omega, by have := hp.size; have := h.lo.2.2.2; omega⟩⟩
  · have e : j = rb := e
    have := h.lo.2.1; omega
  · have e : y = rb := e
    have := hD y hy; have := h.lo.2.1; omega
  · have e : y = rb := e
    exact h.nr (e ▸ hy)
/-- behind a push, or a pop -/
theorem TK.line {F' : Nat → Prop} {Q' : List Nat} (h : TK LV w0 ws D F0 F gb N L Q wb rb fW fR) (hFD : ∀ x, F x → ¬ D x) (hf : Fx F ws w') (hl : LV w' F' Q') (hF : ∀ x, F' x → F x ∨ ws.heap.size ≤ x) : TK LV w0 w' D F0 F' gb N L Q' wb rb fW fR := by
  have hz := hf.size
  have hw := h.lo.2.2.1
  have hr := h.lo.2.2.2
  have hs := h.fx.size
  refine ⟨h.fx.trans' hf fun j e hl => ?_, h.g.keep hf fun y hy e => hFD y e hy, hl, fun x hx => ?_, h.wB.keep hf h.nw, h.rB.keep hf h.nr, fun e => ?_, fun e => ?_, h.wr, ⟨h.lo.1, h.lo.2.1, by omega, by omega⟩⟩
  · rcases h.fF j e with q | q
    · exact q
    · omega
  · rcases hF x hx with q | q
    · exact h.fF x q
    · exact .inr (by omega)
  · rcases hF wb e with q | q
    · exact h.nw q
    · omega
  · rcases hF rb e with q | q
    · exact h.nr q
    · omega
theorem TK.FD (hC : LineC LV ty ptr kpush kpop ksome ins) (h : TK LV w0 ws D F0 F gb N L Q wb rb fW fR) (hD : ∀ x, D x → x < w0.heap.size) (hFD : ∀ x, F0 x → ¬ D x) : ∀ x, F x → ¬ D x := fun x hx hd => by
  rcases h.fF x hx with q | q
  · exact hFD x q hd
  · have := hD x hd; omega
end
/-- what the taking has: the rows of waits, rounds, far; the order; the edges looked at -/
structure LK (LV : World → (Nat → Prop) → List Nat → Prop) (w0 ws : World) (D F0 F : Nat → Prop) (gb N : Nat) (L : List Ed) (Q : List Nat) (wb rb fb : Nat) (fW fR fF : Nat → Int) (ov : Value) (ord : List Nat) (E : Nat → Prop) (ev : Value) (l : List Ed) : Prop where
  fx : Fx F0 w0 ws
  g : GraphV ws D gb N L
  lv : LV ws F Q
  fF0 : ∀ x, F x → F0 x ∨ w0.heap.size ≤ x
  wB : IntB ws wb N fW
  rB : IntB ws rb N fR
  fB : IntB ws fb N fF
  nF : ¬ F wb ∧ ¬ F rb ∧ ¬ F fb
  ne : wb ≠ rb ∧ wb ≠ fb ∧ rb ≠ fb
  lo : w0.heap.size ≤ wb ∧ w0.heap.size ≤ rb ∧ w0.heap.size ≤ fb
  hi : wb < ws.heap.size ∧ rb < ws.heap.size ∧ fb < ws.heap.size
  own : ws.ownsRow w0.heap.size 3 1 ov ord.length (ints (nI ord))
  od : ∀ y, ov.ownBlock = some y → (¬ F y ∧ y ≠ wb ∧ y ≠ rb ∧ y ≠ fb ∧ ¬ E y) ∧ w0.heap.size ≤ y ∧ y < ws.heap.size
  ev : EdsV ws E ev l
  ed : ∀ y, E y → (¬ F y ∧ y ≠ wb ∧ y ≠ rb ∧ y ≠ fb) ∧ w0.heap.size ≤ y ∧ y < ws.heap.size
section
variable {LV : World → (Nat → Prop) → List Nat → Prop} {ty : TypeId} {ptr : Value} {kpush kpop ksome : FuncId} {ins : Nat → List Nat → List Nat}
variable {w0 ws w' : World} {D F0 F E S : Nat → Prop} {gb N : Nat} {L l : List Ed} {Q ord : List Nat} {wb rb fb : Nat} {fW fR fF gW gR gF : Nat → Int} {ov ev : Value}
/-- a step on blocks of the call's own -/
theorem LK.step (hC : LineC LV ty ptr kpush kpop ksome ins) (hD : ∀ x, D x → x < w0.heap.size) (h : LK LV w0 ws D F0 F gb N L Q wb rb fb fW fR fF ov ord E ev l) (hf : Fx S ws w') (hS : ∀ y, S y → w0.heap.size ≤ y ∧ ¬ F y ∧ ¬ E y ∧ ¬ ov.ownBlock = some y) (h1 : IntB w' wb N gW) (h2 : IntB w' rb N gR) (h3 : IntB w' fb N gF) : LK LV w0 w' D F0 F gb N L Q wb rb fb gW gR gF ov ord E ev l := by
  have hz := hf.size
  refine ⟨h.fx.trans' hf fun j e hl => ?_, h.g.keep hf fun y hy e => ?_, hC.keep _ _ _ _ _ h.lv hf fun y hy e => (hS y e).2.1 hy, h.fF0, h1, h2, h3, h.nF, h.ne, h.lo, ⟨by have := h.hi.1; omega, by have := h.hi.2.1; omega, by have := h.hi.2.2; omega⟩, ownsRow_fx h.own hf fun k hk e => (hS k e).2.2.2 hk, fun y hy => ⟨(h.od y hy).1, (h.od y hy).2.1, by have := (h.od y hy).2.2; omega⟩, h.ev.keep hf fun y hy e => (hS y e).2.2.1 hy, fun y hy => ⟨(h.ed y hy).1, (h.ed y hy).2.1, by have := (h.ed y hy).2.2; omega⟩⟩
  · have := (hS j e).1; omega
  · have := (hS y e).1; have := hD y hy; omega
theorem LK.no (hC : LineC LV ty ptr kpush kpop ksome ins) (hD : ∀ x, D x → x < w0.heap.size) (h : LK LV w0 ws D F0 F gb N L Q wb rb fb fW fR fF ov ord E ev l) (hf : Fx No ws w') : LK LV w0 w' D F0 F gb N L Q wb rb fb fW fR fF ov ord E ev l := h.step hC hD hf (fun _ e => e.elim) (h.wB.no hf) (h.rB.no hf) (h.fB.no hf)
theorem LK.setW (hC : LineC LV ty ptr kpush kpop ksome ins) (hD : ∀ x, D x → x < w0.heap.size) (h : LK LV w0 ws D F0 F gb N L Q wb rb fb fW fR fF ov ord E ev l) {i : Nat} (hi : i < N) (x : Int) : LK LV w0 (ws.setCell ⟨wb, i, none⟩ (.int .i64 x)) D F0 F gb N L Q wb rb fb (fun j => if j = i then x else fW j) fR fF ov ord E ev l := by
  have hp : Fx (fun y => y = wb) ws (ws.setCell ⟨wb, i, none⟩ (.int .i64 x)) := Fx.put _ _ _ _
  refine h.step hC hD hp (fun y e => ?_) (h.wB.put hi x) (h.rB.keep hp fun e => h.ne.1 e.symm) (h.fB.keep hp fun e => h.ne.2.1 e.symm)
  have e : y = wb := e
  subst e
  exact ⟨h.lo.1, h.nF.1, fun e => (h.ed _ e).1.2.1 rfl, fun e => (h.od _ e).1.2.1 rfl⟩
theorem LK.setR (hC : LineC LV ty ptr kpush kpop ksome ins) (hD : ∀ x, D x → x < w0.heap.size) (h : LK LV w0 ws D F0 F gb N L Q wb rb fb fW fR fF ov ord E ev l) {i : Nat} (hi : i < N) (x : Int) : LK LV w0 (ws.setCell ⟨rb, i, none⟩ (.int .i64 x)) D F0 F gb N L Q wb rb fb fW (fun j => if j = i then x else fR j) fF ov ord E ev l := by
  have hp : Fx (fun y => y = rb) ws (ws.setCell ⟨rb, i, none⟩ (.int .i64 x)) := Fx.put _ _ _ _
  refine h.step hC hD hp (fun y e => ?_) (h.wB.keep hp fun e => h.ne.1 e) (h.rB.put hi x) (h.fB.keep hp fun e => h.ne.2.2 e.symm)
  have e : y = rb := e
  subst e
  exact ⟨h.lo.2.1, h.nF.2.1, fun e => (h.ed _ e).1.2.2.1 rfl, fun e => (h.od _ e).1.2.2.1 rfl⟩
theorem LK.setF (hC : LineC LV ty ptr kpush kpop ksome ins) (hD : ∀ x, D x → x < w0.heap.size) (h : LK LV w0 ws D F0 F gb N L Q wb rb fb fW fR fF ov ord E ev l) {i : Nat} (hi : i < N) (x : Int) : LK LV w0 (ws.setCell ⟨fb, i, none⟩ (.int .i64 x)) D F0 F gb N L Q wb rb fb fW fR (fun j => if j = i then x else fF j) ov ord E ev l := by
  have hp : Fx (fun y => y = fb) ws (ws.setCell ⟨fb, i, none⟩ (.int .i64 x)) := Fx.put _ _ _ _
  refine h.step hC hD hp (fun y e => ?_) (h.wB.keep hp fun e => h.ne.2.1 e) (h.rB.keep hp fun e => h.ne.2.2 e) (h.fB.put hi x)
  have e : y = fb := e
  subst e
  exact ⟨h.lo.2.2, h.nF.2.2, fun e => (h.ed _ e).1.2.2.2 rfl, fun e => (h.od _ e).1.2.2.2.1 rfl⟩
theorem LK.FD (h : LK LV w0 ws D F0 F gb N L Q wb rb fb fW fR fF ov ord E ev l) (hD : ∀ x, D x → x < w0.heap.size) (hFD : ∀ x, F0 x → ¬ D x) : ∀ x, F x → ¬ D x := fun x hx hd => by
  rcases h.fF0 x hx with q | q
  · exact hFD x q hd
  · have := hD x hd; omega
/-- behind a push, or a pop -/
theorem LK.line {F' : Nat → Prop} {Q' : List Nat} (h : LK LV w0 ws D F0 F gb N L Q wb rb fb fW fR fF ov ord E ev l) (hFD : ∀ x, F x → ¬ D x) (hf : Fx F ws w') (hl : LV w' F' Q') (hF : ∀ x, F' x → F x ∨ ws.heap.size ≤ x) : LK LV w0 w' D F0 F' gb N L Q' wb rb fb fW fR fF ov ord E ev l := by
  have hz := hf.size
  have hs := h.fx.size
  have hn : ∀ y, ¬ F y → y < ws.heap.size → ¬ F' y := fun y h1 h2 e => by
    rcases hF y e with q | q
    · exact h1 q
    · omega
  refine ⟨h.fx.trans' hf fun j e hl => ?_, h.g.keep hf fun y hy e => hFD y e hy, hl, fun x hx => ?_, h.wB.keep hf h.nF.1, h.rB.keep hf h.nF.2.1, h.fB.keep hf h.nF.2.2, ⟨hn _ h.nF.1 h.hi.1, hn _ h.nF.2.1 h.hi.2.1, hn _ h.nF.2.2 h.hi.2.2⟩, h.ne, h.lo, ⟨by have := h.hi.1; omega, by have := h.hi.2.1; omega, by have := h.hi.2.2; omega⟩, ownsRow_fx h.own hf fun k hk e => (h.od k hk).1.1 e, fun y hy => ?_, h.ev.keep hf fun y hy e => (h.ed y hy).1.1 e, fun y hy => ?_⟩
  · rcases h.fF0 j e with q | q
    · exact q
    · omega
  · rcases hF x hx with q | q
    · exact h.fF0 x q
    · exact .inr (by omega)
  · obtain ⟨q1, q2, q3⟩ := h.od y hy
    exact ⟨⟨hn _ q1.1 q3, q1.2⟩, q2, by omega⟩
  · obtain ⟨q1, q2, q3⟩ := h.ed y hy
    exact ⟨⟨hn _ q1.1 q3, q1.2⟩, q2, by omega⟩
/-- behind the append to the order -/
theorem LK.app (hC : LineC LV ty ptr kpush kpop ksome ins) (hD : ∀ x, D x → x < w0.heap.size) (h : LK LV w0 ws D F0 F gb N L Q wb rb fb fW fR fF ov ord E ev l) {ov' : Value} {ord' : List Nat} (hf : Fx (fun k => ov.ownBlock = some k) ws w') (ho : w'.ownsRow w0.heap.size 3 1 ov' ord'.length (ints (nI ord'))) (hb : ∀ g, ov'.ownBlock = some g → ov.ownBlock = some g ∨ ws.heap.size ≤ g) : LK LV w0 w' D F0 F gb N L Q wb rb fb fW fR fF ov' ord' E ev l := by
  have hz := hf.size
  have hs := h.fx.size
  refine ⟨h.fx.trans' hf fun j e hl => ?_, h.g.keep hf fun y hy e => ?_, hC.keep _ _ _ _ _ h.lv hf fun y hy e => (h.od y e).1.1 hy, h.fF0, h.wB.keep hf fun e => (h.od _ e).1.2.1 rfl, h.rB.keep hf fun e => (h.od _ e).1.2.2.1 rfl, h.fB.keep hf fun e => (h.od _ e).1.2.2.2.1 rfl, h.nF, h.ne, h.lo, ⟨by have := h.hi.1; omega, by have := h.hi.2.1; omega, by have := h.hi.2.2; omega⟩, ho, fun y hy => ?_, h.ev.keep hf fun y hy e => (h.od y e).1.2.2.2.2 hy, fun y hy => ?_⟩
  · have := (h.od j e).2.1; omega
  · have := (h.od y e).2.1; have := hD y hy; omega
  · rcases hb y hy with q | q
    · obtain ⟨q1, q2, q3⟩ := h.od y q
      exact ⟨q1, q2, by omega⟩
    · have hy2 : y < w'.heap.size := by
        rcases ho.2 with ⟨q1, _⟩ | ⟨g, c', cur, q1, q2, q3, _⟩
        · rw [q1] at hy; simp [Value.ownBlock] at hy
        · rw [q1] at hy
          have e : g = y := by simpa [Value.ownBlock] using hy
          rw [← e]
          exact (Array.getElem?_eq_some_iff.1 q3).1
      have := h.hi
      refine ⟨⟨fun e => by have := hC.lt _ _ _ h.lv y e; omega, by omega, by omega, by omega, fun e => by have := (h.ed y e).2.2; omega⟩, by omega, hy2⟩
  · obtain ⟨q1, q2, q3⟩ := h.ed y hy
    exact ⟨q1, q2, by omega⟩
/-- other edges are looked at -/
theorem LK.row (hC : LineC LV ty ptr kpush kpop ksome ins) (hD : ∀ x, D x → x < w0.heap.size) (h : LK LV w0 ws D F0 F gb N L Q wb rb fb fW fR fF ov ord E ev l) {ev' : Value} {l' : List Ed} (hf : Fx No ws w') (he : EdsV w' (Iv ws.heap.size w'.heap.size) ev' l') : LK LV w0 w' D F0 F gb N L Q wb rb fb fW fR fF ov ord (Iv ws.heap.size w'.heap.size) ev' l' := by
  have h' := h.no hC hD hf
  have hs := h.fx.size
  have := h.hi
  refine { h' with od := fun y hy => ?_, ev := he, ed := fun y hy => ?_ }
  · obtain ⟨q1, q2, q3⟩ := h.od y hy
    exact ⟨⟨q1.1, q1.2.1, q1.2.2.1, q1.2.2.2.1, fun e => by have := e.1; omega⟩, (h'.od y hy).2⟩
  · have := hy.1
    exact ⟨⟨fun e => by have := hC.lt _ _ _ h.lv y e; omega, by omega, by omega, by omega⟩, by omega, hy.2⟩
def slLen : Value → Nat
  | .slice _ n _ => n
  | _ => 0
theorem slLen_own {w : World} {base n : Nat} {e : TypeId} {v : Value} {xs : List Value} (h : w.ownsRow base e 1 v n xs) : slLen v = n := by
  rcases h.2 with ⟨q, q2⟩ | ⟨g, c', cur, q, _⟩
  · rw [q, q2]; rfl
  · rw [q]; rfl
end
#print axioms LK.step
#print axioms LK.line
#print axioms LK.app
#print axioms LK.row
end Go.Proofs.Yteafkafkbipcmaa
