/- Plain: all orders that respect a graph (the document's All); the first of all. | Plain: the document's word on orders and the plain word; which orders All tells. | Plain: the first of all orders; when there is just one. | Plain: how many orders there are; closed walks. | Plain: the longest row of edges, and the rounds. | Plain: the rounds, one behind the other, are an order. -/
import Derived.Test.YteafkafkbipcmaaS10
import Derived.Test.YteafkafkbipcmaaS5
import Derived.Test.YteafkafkbipcmaaS8

namespace Go.Proofs.Yteafkafkbipcmaa
set_option linter.unusedVariables false

/-- all orders that begin with a row, m numbers wanting -/
def allG (N : Nat) (L : List Ed) : Nat → List Int → List (List Int)
  | 0, row => if respB N L row = true then [row] else []
  | m + 1, row => ((List.range N).filter fun i : Nat => decide (placeI row ((i : Nat) : Int) < 0)).flatMap fun i : Nat => allG N L m (row ++ [((i : Nat) : Int)])
theorem mem_allG {N : Nat} {L : List Ed} : ∀ {m : Nat} {row o : List Int}, o ∈ allG N L m row ↔ ∃ t : List Nat, t.length = m ∧ o = row ++ nI t ∧ (∀ x ∈ t, x < N) ∧ (∀ (a : List Nat) (v : Nat) (b : List Nat), t = a ++ v :: b → ((v : Nat) : Int) ∉ row ++ nI a) ∧ respB N L o = true
  | 0, row, o => by
    unfold allG
    constructor
    · intro h
      by_cases hr : respB N L row = true
      · rw [if_pos hr, List.mem_singleton] at h
        exact ⟨[], rfl, by rw [h]; simp [nI], by simp, fun a v b e => by cases a <;> simp at e, by rw [h]; exact hr⟩
      · rw [if_neg hr] at h; simp at h
    · rintro ⟨t, ht, e, _, _, hr⟩
      obtain rfl := List.eq_nil_of_length_eq_zero ht
      have e : o = row := by rw [e]; simp [nI]
      rw [e] at hr
      rw [if_pos hr, e]; simp
  | m + 1, row, o => by
    unfold allG
    rw [List.mem_flatMap]
    constructor
    · rintro ⟨i, hi, ho⟩
      obtain ⟨h1, h2⟩ := List.mem_filter.1 hi
      have hiN := List.mem_range.1 h1
      have hni : ((i : Nat) : Int) ∉ row := fun e => by have := placeI_pos.2 e; have := of_decide_eq_true h2; omega
      obtain ⟨t, t1, t2, t3, t4, t5⟩ := mem_allG.1 ho
      refine ⟨i :: t, by simp [t1], by rw [t2]; simp [nI], fun x hx => ?_, fun a v b e => ?_, t5⟩
      · rcases List.mem_cons.1 hx with q | q
        · omega
        · exact t3 x q
      · cases a with
        | nil =>
          simp only [List.nil_append, List.cons.injEq] at e
          rw [← e.1]; simpa [nI] using hni
        | cons y a =>
          simp only [List.cons_append, List.cons.injEq] at e
          have := t4 a v b e.2
          rw [← e.1]
          simpa [nI] using this
    · rintro ⟨t, t1, t2, t3, t4, t5⟩
      cases t with
      | nil => simp at t1
      | cons i t =>
        have h0 := t4 [] i t rfl
        refine ⟨i, List.mem_filter.2 ⟨List.mem_range.2 (t3 i (by simp)), decide_eq_true ?_⟩, mem_allG.2 ⟨t, by simpa using t1, by rw [t2]; simp [nI], fun x hx => t3 x (List.mem_cons_of_mem _ hx), fun a v b e => ?_, t5⟩⟩
        · have : ¬ 0 ≤ placeI row ((i : Nat) : Int) := fun q => h0 (by simpa [nI] using placeI_pos.1 q)
          omega
        · have := t4 (i :: a) v b (by rw [e]; rfl)
          simpa [nI] using this
/-- an order that respects the graph -/
def Ordr (L : List Ed) (N : Nat) (t : List Nat) : Prop := t.length = N ∧ t.Nodup ∧ (∀ v ∈ t, v < N) ∧ ∀ (a : List Nat) (v : Nat) (b : List Nat), t = a ++ v :: b → ∀ x ∈ L, x.t = (v : Int) → x.f.toNat ∈ a
/-- the order of the sort, if it is whole -/
theorem srt_ordr {L : List Ed} {N : Nat} (h : (srt L N).length = N) : Ordr L N (srt L N) := by
  obtain ⟨h1, h2, h3, h4⟩ := srt_ok L N
  refine ⟨h, h2, h3, fun a v b e x hx ht => ?_⟩
  obtain ⟨r, hr⟩ := h1 a v b e
  exact (mem_free.1 (show v ∈ free L N a by rw [hr]; simp)).2.2 x hx ht
theorem Ordr.whole {L : List Ed} {N : Nat} {t : List Nat} (h : Ordr L N t) : (srt L N).length = N := by
  obtain ⟨h1, h2, h3, h4⟩ := h
  obtain ⟨s1, s2, s3, s4⟩ := srt_ok L N
  have hsub : ∀ v ∈ t, v ∈ srt L N := closed_sub (L := L) (N := N) (fun p v q e => ⟨h3 v (by rw [e]; simp), h4 p v q e⟩) fun v hv hs => by
    apply Classical.byContradiction
    intro hn
    have := mem_free.2 ⟨hv, hn, hs⟩
    rw [s4] at this; simp at this
  have hall : ∀ v, v < N → v ∈ srt L N := fun v hv => hsub v (all_taken h2 h3 (by omega) v hv)
  have h5 := nd_len s2 s3
  have h6 : N ≤ (srt L N).length := by
    have p : (List.range N).Perm (srt L N) := (List.perm_ext_iff_of_nodup List.nodup_range s2).2 fun v => ⟨fun q => hall v (List.mem_range.1 q), fun q => List.mem_range.2 (s3 v q)⟩
    have := p.length_eq
    simp at this; omega
  omega
#print axioms mem_allG
#print axioms Ordr.whole
end Go.Proofs.Yteafkafkbipcmaa

namespace Go.Proofs.Yteafkafkbipcmaa
set_option linter.unusedVariables false

theorem mem_nI {t : List Nat} {v : Nat} : ((v : Nat) : Int) ∈ nI t ↔ v ∈ t := by
  unfold nI
  rw [List.mem_map]
  exact ⟨fun ⟨x, hx, e⟩ => by have : x = v := by omega
                              rw [← this]; exact hx, fun h => ⟨v, h, rfl⟩⟩
theorem placeI_split {a b : List Int} {v : Int} (h : v ∉ a) : placeI (a ++ v :: b) v = a.length := by
  unfold placeI
  rw [List.idxOf_append, if_neg h, List.idxOf_cons]
  simp
theorem placeI_left {a b : List Int} {v : Int} (h : v ∈ a) : placeI (a ++ b) v < a.length := by
  unfold placeI
  have h1 := List.idxOf_lt_length_iff.2 h
  rw [List.idxOf_append, if_pos h, if_pos (by simp; omega)]
  omega
theorem placeI_right {a b : List Int} {v : Int} (h : v ∉ a) : placeI (a ++ b) v < 0 ∨ (a.length : Int) ≤ placeI (a ++ b) v := by
  unfold placeI
  rw [List.idxOf_append, if_neg h]
  split <;> omega
theorem Ordr.resp {L : List Ed} {N : Nat} {t : List Nat} (h : Ordr L N t) (hL : NdE L N) : respB N L (nI t) = true := by
  obtain ⟨h1, h2, h3, h4⟩ := h
  have hall := all_taken h2 h3 (by omega)
  unfold respB
  rw [Bool.and_eq_true, Bool.and_eq_true, List.all_eq_true, List.all_eq_true]
  refine ⟨⟨decide_eq_true (by rw [nI_len]; exact h1), fun i hi => decide_eq_true (placeI_pos.2 (mem_nI.2 (hall i (List.mem_range.1 hi))))⟩, fun x hx => decide_eq_true ?_⟩
  obtain ⟨⟨x1, x2⟩, x3, x4⟩ := hL x hx
  obtain ⟨a, b, e⟩ := List.append_of_mem (hall x.t.toNat (by omega))
  have hf := h4 a x.t.toNat b e x hx (by omega)
  have hnt : x.t.toNat ∉ a := fun q => by
    rw [e] at h2
    have := (List.nodup_append.1 h2).2.2 _ q _ (List.mem_cons_self (a := x.t.toNat) (l := b))
    exact this rfl
  have e2 : nI t = nI a ++ ((x.t.toNat : Nat) : Int) :: nI b := by rw [e]; simp [nI]
  have hxt : x.t = ((x.t.toNat : Nat) : Int) := by omega
  have hxf : x.f = ((x.f.toNat : Nat) : Int) := by omega
  rw [e2]
  have p1 : placeI (nI a ++ ((x.t.toNat : Nat) : Int) :: nI b) x.t = (nI a).length := by
    have h5 := placeI_split (a := nI a) (b := nI b) (v := ((x.t.toNat : Nat) : Int)) (by rw [mem_nI]; exact hnt)
    rw [← hxt] at h5 ⊢
    exact h5
  have p2 : placeI (nI a ++ ((x.t.toNat : Nat) : Int) :: nI b) x.f < (nI a).length := by
    have h5 := placeI_left (a := nI a) (b := ((x.t.toNat : Nat) : Int) :: nI b) (v := ((x.f.toNat : Nat) : Int)) (by rw [mem_nI]; exact hf)
    rw [← hxf] at h5
    exact h5
  omega
theorem resp_ordr {L : List Ed} {N : Nat} {t : List Nat} (h : respB N L (nI t) = true) (hL : NdE L N) (hn : t.Nodup) (hlt : ∀ v ∈ t, v < N) : Ordr L N t := by
  unfold respB at h
  rw [Bool.and_eq_true, Bool.and_eq_true, List.all_eq_true, List.all_eq_true] at h
  obtain ⟨⟨h1, h2⟩, h3⟩ := h
  have hlen : t.length = N := by have := of_decide_eq_true h1; rwa [nI_len] at this
  refine ⟨hlen, hn, hlt, fun a v b e x hx ht => ?_⟩
  obtain ⟨⟨x1, x2⟩, x3, x4⟩ := hL x hx
  have hp := of_decide_eq_true (h3 x hx)
  have e2 : nI t = nI a ++ ((v : Nat) : Int) :: nI b := by rw [e]; simp [nI]
  have hnv : v ∉ a := fun q => by
    rw [e] at hn
    exact (List.nodup_append.1 hn).2.2 _ q _ (List.mem_cons_self (a := v) (l := b)) rfl
  have hf0 := of_decide_eq_true (h2 x.f.toNat (List.mem_range.2 (by omega)))
  have hxf : x.f = ((x.f.toNat : Nat) : Int) := by omega
  apply Classical.byContradiction
  intro hna
  rw [e2, ht, placeI_split (by rw [mem_nI]; exact hnv), hxf] at hp
  rw [e2] at hf0
  rcases placeI_right (a := nI a) (b := ((v : Nat) : Int) :: nI b) (v := ((x.f.toNat : Nat) : Int)) (by rw [mem_nI]; exact hna) with q | q
  · omega
  · omega
/-- what All tells is just the orders -/
theorem mem_all0 {N : Nat} {L : List Ed} (hL : NdE L N) {S : List Nat} {m : Nat} (hS : S.Nodup) (hlt : ∀ v ∈ S, v < N) {o : List Int} : o ∈ allG N L m (nI S) ↔ ∃ t : List Nat, t.length = m ∧ o = nI (S ++ t) ∧ Ordr L N (S ++ t) := by
  rw [mem_allG]
  have happ : ∀ t : List Nat, nI S ++ nI t = nI (S ++ t) := fun t => by simp [nI]
  constructor
  · rintro ⟨t, t1, t2, t3, t4, t5⟩
    rw [happ] at t2
    refine ⟨t, t1, t2, ?_⟩
    rw [t2] at t5
    have hnd : (S ++ t).Nodup := by
      have key : ∀ (n : Nat) (a b : List Nat), a.length = n → t = a ++ b → (S ++ a).Nodup := by
        intro n
        induction n with
        | zero => intro a b ha _; obtain rfl := List.eq_nil_of_length_eq_zero ha; simpa using hS
        | succ n ih =>
          intro a b ha e
          rcases List.eq_nil_or_concat a with hq | ⟨a', z, hq⟩
          · rw [hq] at ha; simp at ha
          · rw [List.concat_eq_append] at hq
            have ha' : a'.length = n := by rw [hq] at ha; simpa using ha
            have e2 : t = a' ++ z :: b := by rw [e, hq]; simp
            have h1 := ih a' (z :: b) ha' e2
            have h2 := t4 a' z b e2
            rw [happ, mem_nI] at h2
            rw [hq, ← List.append_assoc]
            exact List.nodup_append.2 ⟨h1, by simp, fun x hx y hy q => by rw [List.mem_singleton] at hy; rw [q, hy] at hx; exact h2 hx⟩
      exact key t.length t [] rfl (by simp)
    exact resp_ordr t5 hL hnd fun v hv => by
      rcases List.mem_append.1 hv with q | q
      · exact hlt v q
      · exact t3 v q
  · rintro ⟨t, t1, t2, t3⟩
    refine ⟨t, t1, by rw [happ]; exact t2, fun x hx => t3.2.2.1 x (List.mem_append_right _ hx), fun a v b e => ?_, by rw [t2]; exact t3.resp hL⟩
    rw [happ, mem_nI]
    intro q
    have hnd := t3.2.1
    rw [e, ← List.append_assoc] at hnd
    exact (List.nodup_append.1 hnd).2.2 _ q _ (List.mem_cons_self (a := v) (l := b)) rfl
#print axioms mem_all0
end Go.Proofs.Yteafkafkbipcmaa

namespace Go.Proofs.Yteafkafkbipcmaa
set_option linter.unusedVariables false

theorem split3 {α : Type} {X Z a b : List α} {y w : α} (h : X ++ y :: Z = a ++ w :: b) : (∃ c, X = a ++ w :: c) ∨ (a = X ∧ w = y ∧ Z = b) ∨ ∃ c, a = X ++ y :: c ∧ Z = c ++ w :: b := by
  rcases List.append_eq_append_iff.1 h with ⟨c, e1, e2⟩ | ⟨c, e1, e2⟩
  · cases c with
    | nil =>
      simp only [List.nil_append, List.cons.injEq] at e2
      exact .inr (.inl ⟨by simpa using e1, e2.1.symm, e2.2⟩)
    | cons z c =>
      simp only [List.cons_append, List.cons.injEq] at e2
      exact .inr (.inr ⟨c, by rw [e1, e2.1], e2.2⟩)
  · cases c with
    | nil =>
      simp only [List.nil_append, List.cons.injEq] at e2
      exact .inr (.inl ⟨by simpa using e1.symm, e2.1, e2.2.symm⟩)
    | cons z c =>
      simp only [List.cons_append, List.cons.injEq] at e2
      exact .inl ⟨c, by rw [e1, e2.1]⟩
section
variable {L : List Ed} {N : Nat}
theorem Ordr.head {S : List Nat} {i : Nat} {t : List Nat} (h : Ordr L N (S ++ i :: t)) : i ∈ free L N S := by
  obtain ⟨h1, h2, h3, h4⟩ := h
  refine mem_free.2 ⟨h3 i (by simp), fun q => ?_, fun x hx ht => h4 S i t rfl x hx ht⟩
  exact (List.nodup_append.1 h2).2.2 _ q _ (List.mem_cons_self (a := i) (l := t)) rfl
/-- which are tried -/
def wantF (N : Nat) (S : List Nat) : List Nat := (List.range N).filter fun i : Nat => decide (placeI (nI S) ((i : Nat) : Int) < 0)
theorem mem_want {S : List Nat} {i : Nat} : i ∈ wantF N S ↔ i < N ∧ i ∉ S := by
  unfold wantF
  rw [List.mem_filter, List.mem_range, decide_eq_true_eq, ← mem_nI, ← placeI_pos]
  omega
theorem allG_succ {S : List Nat} {m : Nat} : allG N L (m + 1) (nI S) = (wantF N S).flatMap fun i => allG N L m (nI (S ++ [i])) := by
  have e : ∀ i : Nat, nI S ++ [((i : Nat) : Int)] = nI (S ++ [i]) := fun i => by simp [nI]
  show ((List.range N).filter fun i : Nat => decide (placeI (nI S) ((i : Nat) : Int) < 0)).flatMap (fun i : Nat => allG N L m (nI S ++ [((i : Nat) : Int)])) = _
  simp only [e]
  rfl
theorem all_none (hL : NdE L N) {S : List Nat} {m i : Nat} (hS : S.Nodup) (hlt : ∀ v ∈ S, v < N) (hi : i < N) (hn : i ∉ S) (hf : i ∉ free L N S) : allG N L m (nI (S ++ [i])) = [] := by
  rw [List.eq_nil_iff_forall_not_mem]
  intro o ho
  obtain ⟨t, _, _, h⟩ := (mem_all0 hL (List.nodup_append.2 ⟨hS, by simp, fun a ha b hb e => by rw [List.mem_singleton] at hb; rw [e, hb] at ha; exact hn ha⟩) (fun v hv => by
    rcases List.mem_append.1 hv with q | q
    · exact hlt v q
    · rw [List.mem_singleton] at q; rw [q]; exact hi)).1 ho
  rw [List.append_assoc] at h
  exact hf h.head
/-- what comes ahead of the first that may stand next yields nothing -/
theorem all_at (hL : NdE L N) {S : List Nat} {m v : Nat} {r : List Nat} (hS : S.Nodup) (hlt : ∀ v ∈ S, v < N) (hf : free L N S = v :: r) : ∃ rest, allG N L (m + 1) (nI S) = allG N L m (nI (S ++ [v])) ++ rest ∧ ((∀ i, i ∈ wantF N S → i ≠ v → allG N L m (nI (S ++ [i])) = []) → rest = []) := by
  have hv := mem_free.1 (show v ∈ free L N S by rw [hf]; simp)
  have hvw : v ∈ wantF N S := mem_want.2 ⟨hv.1, hv.2.1⟩
  obtain ⟨F1, F2, e⟩ := List.append_of_mem hvw
  have hasc : (wantF N S).Pairwise (· < ·) := List.Pairwise.filter _ List.pairwise_lt_range
  rw [e] at hasc
  have h1 : F1.flatMap (fun i => allG N L m (nI (S ++ [i]))) = [] := by
    rw [List.flatMap_eq_nil_iff]
    intro i hi
    have hiw : i ∈ wantF N S := by rw [e]; exact List.mem_append_left _ hi
    have hlti : i < v := (List.pairwise_append.1 hasc).2.2 i hi v (by simp)
    obtain ⟨q1, q2⟩ := mem_want.1 hiw
    refine all_none hL hS hlt q1 q2 fun q => ?_
    rw [hf] at q
    have ha := free_asc L N S
    rw [hf] at ha
    rcases List.mem_cons.1 q with q3 | q3
    · omega
    · have := (List.pairwise_cons.1 ha).1 i q3; omega
  refine ⟨F2.flatMap fun i => allG N L m (nI (S ++ [i])), ?_, fun h => ?_⟩
  · rw [allG_succ, e, List.flatMap_append, h1, List.flatMap_cons, List.nil_append]
  · rw [List.flatMap_eq_nil_iff]
    intro i hi
    refine h i (by rw [e]; exact List.mem_append_right _ (List.mem_cons_of_mem _ hi)) fun q => ?_
    have := (List.pairwise_cons.1 (List.pairwise_append.1 hasc).2.1).1 i hi
    omega
theorem srt_pre {S T : List Nat} (e : srt L N = S ++ T) : S.Nodup ∧ ∀ v ∈ S, v < N := by
  obtain ⟨_, s2, s3, _⟩ := srt_ok L N
  rw [e] at s2 s3
  exact ⟨(List.nodup_append.1 s2).1, fun v hv => s3 v (List.mem_append_left _ hv)⟩
theorem all_head (hL : NdE L N) (hw : (srt L N).length = N) : ∀ {m : Nat} {S T : List Nat}, srt L N = S ++ T → T.length = m → ∃ rest, allG N L m (nI S) = nI (srt L N) :: rest
  | 0, S, T, e, hT => by
    obtain rfl := List.eq_nil_of_length_eq_zero hT
    rw [List.append_nil] at e
    refine ⟨[], ?_⟩
    unfold allG
    rw [if_pos (by rw [← e]; exact (srt_ordr hw).resp hL), e]
  | m + 1, S, [], e, hT => by simp at hT
  | m + 1, S, v :: T, e, hT => by
    obtain ⟨hS, hlt⟩ := srt_pre e
    obtain ⟨r, hr⟩ := (srt_ok L N).1 S v T e
    obtain ⟨rest, h1, _⟩ := all_at (m := m) hL hS hlt hr
    obtain ⟨rest2, h2⟩ := all_head hL hw (m := m) (S := S ++ [v]) (T := T) (by rw [e]; simp) (by simpa using hT)
    exact ⟨rest2 ++ rest, by rw [h1, h2]; rfl⟩
/-- one behind the other with an edge: there is no other order -/
theorem all_one (hL : NdE L N) (hw : (srt L N).length = N) (hc : ∀ (P : List Nat) (u i : Nat) (R : List Nat), srt L N = P ++ u :: i :: R → edB L u i = true) : ∀ {m : Nat} {S T : List Nat}, srt L N = S ++ T → T.length = m → allG N L m (nI S) = [nI (srt L N)]
  | 0, S, T, e, hT => by
    obtain rfl := List.eq_nil_of_length_eq_zero hT
    rw [List.append_nil] at e
    unfold allG
    rw [if_pos (by rw [← e]; exact (srt_ordr hw).resp hL), e]
  | m + 1, S, [], e, hT => by simp at hT
  | m + 1, S, v :: T, e, hT => by
    obtain ⟨hS, hlt⟩ := srt_pre e
    obtain ⟨r, hr⟩ := (srt_ok L N).1 S v T e
    obtain ⟨rest, h1, h3⟩ := all_at (m := m) hL hS hlt hr
    have h2 := all_one hL hw hc (m := m) (S := S ++ [v]) (T := T) (by rw [e]; simp) (by simpa using hT)
    rw [h3 (fun i hi hne => ?_), List.append_nil] at h1
    · rw [h1, h2]
    · obtain ⟨hiN, hiS⟩ := mem_want.1 hi
      refine all_none hL hS hlt hiN hiS fun hfi => ?_
      have hso := srt_ordr hw
      have hin : i ∈ T := by
        have hm := all_taken hso.2.1 hso.2.2.1 (by rw [hw]; exact Nat.le_refl _) i hiN
        rw [e] at hm
        rcases List.mem_append.1 hm with q | q
        · exact absurd q hiS
        · rcases List.mem_cons.1 q with q2 | q2
          · exact absurd q2 hne
          · exact q2
      obtain ⟨T1, T2, eT⟩ := List.append_of_mem hin
      -- the one ahead of i
      obtain ⟨P, u, eP⟩ : ∃ P u, v :: T1 = P ++ [u] := ⟨(v :: T1).dropLast, (v :: T1).getLast (by simp), (List.dropLast_concat_getLast (by simp)).symm⟩
      have e3 : srt L N = (S ++ P) ++ u :: i :: T2 := by
        rw [e, eT, show v :: (T1 ++ i :: T2) = (v :: T1) ++ i :: T2 from rfl, eP]; simp
      have hed := hc _ _ _ _ e3
      unfold edB at hed
      rw [List.any_eq_true] at hed
      obtain ⟨x, hx, hq⟩ := hed
      rw [Bool.and_eq_true, decide_eq_true_eq, decide_eq_true_eq] at hq
      have hus : x.f.toNat ∈ S := (mem_free.1 hfi).2.2 x hx hq.2
      rw [hq.1] at hus
      have hus : u ∈ S := by simpa using hus
      have hnd := hso.2.1
      rw [e3, List.append_assoc] at hnd
      exact (List.nodup_append.1 hnd).2.2 u hus u (by simp) rfl
/-- two that stand one behind the other without an edge may be swapped -/
theorem swap_ordr {P R : List Nat} {u v : Nat} (h : Ordr L N (P ++ u :: v :: R)) (hn : edB L u v = false) (hL : NdE L N) : Ordr L N (P ++ v :: u :: R) := by
  obtain ⟨h1, h2, h3, h4⟩ := h
  have hp : (P ++ v :: u :: R).Perm (P ++ u :: v :: R) := List.Perm.append_left P (List.Perm.swap u v R)
  refine ⟨by rw [hp.length_eq]; exact h1, hp.nodup_iff.2 h2, fun x hx => h3 x (hp.mem_iff.1 hx), fun a w b e x hx ht => ?_⟩
  rcases split3 e with ⟨c, e1⟩ | ⟨e1, e2, _⟩ | ⟨c, e1, e2⟩
  · exact h4 a w (c ++ u :: v :: R) (by rw [e1]; simp) x hx ht
  · subst e1 e2
    have h5 := h4 (a ++ [u]) w R (by simp) x hx ht
    rcases List.mem_append.1 h5 with q | q
    · exact q
    · rw [List.mem_singleton] at q
      exfalso
      unfold edB at hn
      rw [List.any_eq_false] at hn
      have h6 := hn x hx
      have h7 := (hL x hx).1.1
      apply h6
      rw [Bool.and_eq_true, decide_eq_true_eq, decide_eq_true_eq]
      exact ⟨by omega, ht⟩
  · cases c with
    | nil =>
      simp only [List.nil_append, List.cons.injEq] at e2
      obtain ⟨rfl, rfl⟩ := e2
      rw [e1]
      exact List.mem_append_left _ (h4 P u (v :: R) rfl x hx ht)
    | cons z c =>
      simp only [List.cons_append, List.cons.injEq] at e2
      obtain ⟨rfl, e3⟩ := e2
      have h5 := h4 (P ++ u :: v :: c) w b (by rw [e3]; simp) x hx ht
      rw [e1]
      simp only [List.mem_append, List.mem_cons] at h5 ⊢
      rcases h5 with q | q | q | q
      · exact .inl q
      · exact .inr (.inr (.inl q))
      · exact .inr (.inl q)
      · exact .inr (.inr (.inr q))
end
#print axioms all_head
#print axioms all_one
#print axioms swap_ordr
end Go.Proofs.Yteafkafkbipcmaa

namespace Go.Proofs.Yteafkafkbipcmaa
set_option linter.unusedVariables false

section
variable {L : List Ed} {N : Nat}
theorem nI_nil : nI [] = [] := rfl
theorem all_pos (hL : NdE L N) : 0 < (allG N L N []).length ↔ (srt L N).length = N := by
  constructor
  · intro h
    obtain ⟨o, ho⟩ := List.exists_mem_of_length_pos h
    rw [← nI_nil] at ho
    obtain ⟨t, _, _, h3⟩ := (mem_all0 hL (S := []) List.nodup_nil (fun v h => by simp at h)).1 ho
    exact h3.whole
  · intro h
    obtain ⟨rest, e⟩ := all_head hL h (m := N) (S := []) (T := srt L N) (by simp) h
    rw [nI_nil] at e
    rw [e]; simp
theorem all_first (hL : NdE L N) (h : (srt L N).length = N) : ∃ rest, allG N L N [] = nI (srt L N) :: rest := by
  have := all_head hL h (m := N) (S := []) (T := srt L N) (by simp) h
  rwa [nI_nil] at this
theorem chain_iff (h : (srt L N).length = N) : onlyB L N = true ↔ ∀ (P : List Nat) (u i : Nat) (R : List Nat), srt L N = P ++ u :: i :: R → edB L u i = true := by
  unfold onlyB
  rw [decide_eq_true h, Bool.true_and, List.all_eq_true]
  constructor
  · intro hc P u i R e
    have hl : P.length + 2 + R.length = N := by rw [← h, e]; simp; omega
    have h1 := hc P.length (List.mem_range.2 (by omega))
    have e1 : hx (srt L N) P.length = u := by rw [e]; simp [hx, List.getElem?_append_right]
    have e2 : hx (srt L N) (P.length + 1) = i := by rw [e]; simp [hx, List.getElem?_append_right]
    rw [e1, e2] at h1
    exact h1
  · intro hc j hj
    have hj := List.mem_range.1 hj
    have hlt : j + 1 < (srt L N).length := by omega
    refine hc ((srt L N).take j) (hx (srt L N) j) (hx (srt L N) (j + 1)) ((srt L N).drop (j + 2)) ?_
    rw [hx_at (by omega), hx_at hlt, ← List.drop_eq_getElem_cons hlt, ← List.drop_eq_getElem_cons (by omega), List.take_append_drop]
theorem all_only (hL : NdE L N) (h : (srt L N).length = N) : (allG N L N []).length = 1 ↔ onlyB L N = true := by
  rw [chain_iff h]
  constructor
  · intro h1 P u i R e
    cases hb : edB L u i with
    | true => rfl
    | false =>
      exfalso
      obtain ⟨rest, e1⟩ := all_first hL h
      rw [e1] at h1
      have hr : rest = [] := List.eq_nil_of_length_eq_zero (by simpa using h1)
      rw [hr] at e1
      have hso := srt_ordr h
      have hsw := hso
      rw [e] at hsw
      have hsw := swap_ordr hsw hb hL
      have hm : nI (P ++ i :: u :: R) ∈ allG N L N (nI []) := (mem_all0 hL (S := []) List.nodup_nil (fun v h => by simp at h)).2 ⟨P ++ i :: u :: R, hsw.1, by simp, by simpa using hsw⟩
      rw [nI_nil, e1, List.mem_singleton, e] at hm
      have h3 : P ++ i :: u :: R = P ++ u :: i :: R := by
        have hinj : ∀ {a b : List Nat}, nI a = nI b → a = b := fun {a b} q => by
          unfold nI at q
          exact List.map_inj_right (fun x y e => by omega) |>.1 q
        exact hinj hm
      have h4 := List.append_cancel_left h3
      simp only [List.cons.injEq] at h4
      have hnd := hso.2.1
      rw [e, h4.1] at hnd
      have := (List.nodup_append.1 hnd).2.1
      simp at this
  · intro hc
    have := all_one hL h hc (m := N) (S := []) (T := srt L N) (by simp) h
    rw [nI_nil] at this
    rw [this]; rfl
theorem rst_len (L : List Ed) (N : Nat) : (rstL L N).length = 0 ↔ (srt L N).length = N := by
  obtain ⟨_, s2, s3, _⟩ := srt_ok L N
  have h5 := nd_len s2 s3
  unfold rstL
  rw [List.length_eq_zero_iff, List.filter_eq_nil_iff]
  constructor
  · intro h
    have hall : ∀ v, v < N → v ∈ srt L N := fun v hv => by have := h v (List.mem_range.2 hv); simpa using this
    have p : (List.range N).Perm (srt L N) := (List.perm_ext_iff_of_nodup List.nodup_range s2).2 fun v => ⟨fun q => hall v (List.mem_range.1 q), fun q => List.mem_range.2 (s3 v q)⟩
    have := p.length_eq
    simp at this; omega
  · intro h v hv
    have := all_taken s2 s3 (by omega) v (List.mem_range.1 hv)
    simp [this]
end
/-- a walk of t edges -/
def Wk (L : List Ed) : Nat → Nat → Nat → Prop
  | 0, i, j => i = j
  | t + 1, i, j => ∃ x ∈ L, x.t = (j : Int) ∧ Wk L t i x.f.toNat
theorem Wk.add {L : List Ed} {s i k : Nat} : ∀ {t j : Nat}, Wk L s i k → Wk L t k j → Wk L (s + t) i j
  | 0, j, h1, h2 => by have e : k = j := h2; rw [← e]; exact h1
  | t + 1, j, h1, ⟨x, hx, ht, h2⟩ => ⟨x, hx, ht, Wk.add h1 h2⟩
theorem Wk.rd {L : List Ed} {N : Nat} {ord : List Nat} {rd : Nat → Int} (h : KF L N ord rd) (hL : NdE L N) {i : Nat} : ∀ {t j : Nat}, j < N → j ∈ ord → Wk L t i j → rd i + t ≤ rd j
  | 0, j, _, _, hw => by have e : i = j := hw; rw [e]; omega
  | t + 1, j, hj, ho, ⟨x, hx, ht, hw⟩ => by
    obtain ⟨⟨x1, x2⟩, x3, x4⟩ := hL x hx
    have htn : x.t.toNat = j := by omega
    have hpo := h.pre hx x3 (by rw [htn]; exact ho)
    have h1 := h.rdS x hx (by rw [htn]; exact ho)
    rw [htn] at h1
    have := Wk.rd h hL (by omega) hpo hw
    omega
/-- what is stuck has a closed walk -/
theorem stuck_walk {L : List Ed} {N : Nat} (hL : NdE L N) (h : (srt L N).length ≠ N) : ∃ i t, i < N ∧ 1 ≤ t ∧ t ≤ N ∧ Wk L t i i := by
  obtain ⟨_, s2, s3, s4⟩ := srt_ok L N
  have hback : ∀ v, v < N ∧ v ∉ srt L N → ∃ u, (u < N ∧ u ∉ srt L N) ∧ ∃ x ∈ L, x.t = (v : Int) ∧ x.f.toNat = u := fun v hv => by
    apply Classical.byContradiction
    intro hn
    have : v ∈ free L N (srt L N) := mem_free.2 ⟨hv.1, hv.2, fun x hx ht => by
      apply Classical.byContradiction
      intro hs
      have := (hL x hx).1
      exact hn ⟨x.f.toNat, ⟨by omega, hs⟩, x, hx, ht, rfl⟩⟩
    rw [s4] at this; simp at this
  obtain ⟨v0, hv0⟩ : ∃ v, v < N ∧ v ∉ srt L N := by
    apply Classical.byContradiction
    intro hn
    have hall : ∀ v, v < N → v ∈ srt L N := fun v hv => Classical.byContradiction fun q => hn ⟨v, hv, q⟩
    have h5 := nd_len s2 s3
    have p : (List.range N).Perm (srt L N) := (List.perm_ext_iff_of_nodup List.nodup_range s2).2 fun v => ⟨fun q => hall v (List.mem_range.1 q), fun q => List.mem_range.2 (s3 v q)⟩
    have := p.length_eq
    simp at this
    exact h this.symm
  let B := {v : Nat // v < N ∧ v ∉ srt L N}
  let nx : B → B := fun v => ⟨(hback v.1 v.2).choose, (hback v.1 v.2).choose_spec.1⟩
  let f : Nat → B := fun n => Nat.rec ⟨v0, hv0⟩ (fun _ b => nx b) n
  have hstep : ∀ n, Wk L 1 (f (n + 1)).1 (f n).1 := fun n => by
    obtain ⟨x, hx, ht, hf⟩ := (hback (f n).1 (f n).2).choose_spec.2
    exact ⟨x, hx, ht, hf.symm⟩
  have hwalk : ∀ d n, Wk L d (f (n + d)).1 (f n).1 := by
    intro d
    induction d with
    | zero => intro n; rfl
    | succ d ih =>
      intro n
      have h1 := hstep (n + d)
      have h2 := ih n
      have := Wk.add h1 h2
      rw [show 1 + d = d + 1 by omega] at this
      exact this
  have hdup : ¬ ((List.range (N + 1)).map fun n => (f n).1).Nodup := fun hnd => by
    have h9 : ((List.range (N + 1)).map fun n => (f n).1).length ≤ N := nd_len hnd fun x hx => by
      obtain ⟨n, _, rfl⟩ := List.mem_map.1 hx
      exact (f n).2.1
    rw [List.length_map, List.length_range] at h9
    omega
  obtain ⟨p, q, hpq, hq, e⟩ : ∃ p q, p < q ∧ q ≤ N ∧ (f p).1 = (f q).1 := by
    apply Classical.byContradiction
    intro hn
    apply hdup
    rw [List.nodup_iff_pairwise_ne, List.pairwise_map]
    refine List.Pairwise.imp_of_mem (R := (· < ·)) (fun {a b} ha hb hab e => hn ⟨a, b, hab, ?_, e⟩) List.pairwise_lt_range
    have := List.mem_range.1 hb; omega
  refine ⟨(f p).1, q - p, (f p).2.1, by omega, by omega, ?_⟩
  have := hwalk (q - p) p
  rw [show p + (q - p) = q by omega, ← e] at this
  exact this
#print axioms all_only
#print axioms stuck_walk
#print axioms Wk.rd
end Go.Proofs.Yteafkafkbipcmaa

namespace Go.Proofs.Yteafkafkbipcmaa
set_option linter.unusedVariables false

/-- the longest row of edges from a node (k: how many at most) -/
def lngF (L : List Ed) : Nat → Nat → Nat
  | 0, _ => 0
  | k + 1, i => L.foldl (fun m x => if x.f = (i : Int) then max m (1 + lngF L k x.t.toNat) else m) 0
theorem fold_ge (g : Ed → Nat) (i : Nat) : ∀ (L : List Ed) (m : Nat), m ≤ L.foldl (fun m x => if x.f = (i : Int) then max m (1 + g x) else m) m ∧ ∀ x ∈ L, x.f = (i : Int) → 1 + g x ≤ L.foldl (fun m x => if x.f = (i : Int) then max m (1 + g x) else m) m
  | [], m => ⟨Nat.le_refl _, fun x hx => by simp at hx⟩
  | y :: L, m => by
    rw [List.foldl_cons]
    obtain ⟨h1, h2⟩ := fold_ge g i L (if y.f = (i : Int) then max m (1 + g y) else m)
    refine ⟨Nat.le_trans ?_ h1, fun x hx hf => ?_⟩
    · split <;> omega
    · rcases List.mem_cons.1 hx with e | e
      · subst e
        refine Nat.le_trans ?_ h1
        rw [if_pos hf]; omega
      · exact h2 x e hf
theorem fold_le (g : Ed → Nat) (i c : Nat) : ∀ (L : List Ed) (m : Nat), m ≤ c → (∀ x ∈ L, x.f = (i : Int) → 1 + g x ≤ c) → L.foldl (fun m x => if x.f = (i : Int) then max m (1 + g x) else m) m ≤ c
  | [], m, h, _ => h
  | y :: L, m, h, hx => by
    rw [List.foldl_cons]
    refine fold_le g i c L _ ?_ fun x hm hf => hx x (List.mem_cons_of_mem _ hm) hf
    by_cases e : y.f = (i : Int)
    · rw [if_pos e]; have := hx y (by simp) e; omega
    · rw [if_neg e]; exact h
theorem lng_ge {L : List Ed} {k i : Nat} {x : Ed} (hx : x ∈ L) (hf : x.f = (i : Int)) : 1 + lngF L k x.t.toNat ≤ lngF L (k + 1) i := (fold_ge (fun x => lngF L k x.t.toNat) i L 0).2 x hx hf
theorem lng_le {L : List Ed} {k i c : Nat} (h : ∀ x ∈ L, x.f = (i : Int) → 1 + lngF L k x.t.toNat ≤ c) : lngF L (k + 1) i ≤ c := fold_le (fun x => lngF L k x.t.toNat) i c L 0 (Nat.zero_le _) h
theorem lng_mono {L : List Ed} : ∀ (k i : Nat), lngF L k i ≤ lngF L (k + 1) i
  | 0, i => Nat.zero_le _
  | k + 1, i => lng_le fun x hx hf => by
    have h1 := lng_mono (L := L) k x.t.toNat
    have h2 := lng_ge (L := L) (k := k + 1) hx hf
    omega
theorem lng_mono' {L : List Ed} {k i : Nat} : ∀ (d : Nat), lngF L k i ≤ lngF L (k + d) i
  | 0 => Nat.le_refl _
  | d + 1 => Nat.le_trans (lng_mono' d) (lng_mono (k + d) i)
section
variable {L : List Ed} {N K : Nat} {ord : List Nat} {rd : Nat → Int}
/-- it is not longer than the rounds that come -/
theorem lng_up (h : KF L N ord rd) (hL : NdE L N) (hw : ∀ v, v < N → v ∈ ord) (hK : ∀ v, v < N → rd v < (K : Int)) : ∀ (k i : Nat), i < N → rd i + lngF L k i + 1 ≤ (K : Int)
  | 0, i, hi => by have := hK i hi; simp only [lngF]; omega
  | k + 1, i, hi => by
    have h0 := h.rd0 i (hw i hi)
    have hKi := hK i hi
    have hle : lngF L (k + 1) i ≤ ((K : Int) - 1 - rd i).toNat := lng_le fun x hx hf => by
      obtain ⟨⟨x1, x2⟩, x3, x4⟩ := hL x hx
      have h1 := h.rdS x hx (hw _ (by omega))
      have h2 := lng_up h hL hw hK k x.t.toNat (by omega)
      have e : x.f.toNat = i := by omega
      rw [e] at h1
      omega
    omega
/-- a node of round r lies behind a row of r edges -/
theorem lng_low (h : KF L N ord rd) (hL : NdE L N) (hw : ∀ v, v < N → v ∈ ord) : ∀ (r m v : Nat), v < N → rd v = (r : Int) → ∃ i, i < N ∧ r + lngF L m v ≤ lngF L (m + r) i
  | 0, m, v, hv, _ => ⟨v, hv, by simp⟩
  | r + 1, m, v, hv, hr => by
    rcases h.rdA v (hw v hv) with ⟨q, _⟩ | ⟨x, q1, q2, q3⟩
    · omega
    · obtain ⟨⟨x1, x2⟩, x3, x4⟩ := hL x q1
      have h1 := lng_ge (L := L) (k := m) (i := x.f.toNat) q1 (by omega)
      have e : x.t.toNat = v := by omega
      rw [e] at h1
      obtain ⟨i, hi, h2⟩ := lng_low h hL hw r (m + 1) x.f.toNat (by omega) (by omega)
      refine ⟨i, hi, ?_⟩
      rw [show m + (r + 1) = m + 1 + r by omega]
      omega
/-- it needs no more than as many steps as rounds come -/
theorem lng_fuel (h : KF L N ord rd) (hL : NdE L N) (hw : ∀ v, v < N → v ∈ ord) (hK : ∀ v, v < N → rd v < (K : Int)) : ∀ (k i : Nat), i < N → (K : Int) ≤ rd i + k + 1 → lngF L (k + 1) i ≤ lngF L k i
  | 0, i, hi, hk => lng_le fun x hx hf => by
    obtain ⟨⟨x1, x2⟩, x3, x4⟩ := hL x hx
    have h1 := h.rdS x hx (hw _ (by omega))
    have h2 := hK x.t.toNat (by omega)
    have e : x.f.toNat = i := by omega
    rw [e] at h1
    omega
  | k + 1, i, hi, hk => lng_le fun x hx hf => by
    obtain ⟨⟨x1, x2⟩, x3, x4⟩ := hL x hx
    have h1 := h.rdS x hx (hw _ (by omega))
    have e : x.f.toNat = i := by omega
    rw [e] at h1
    have h2 := lng_fuel h hL hw hK k x.t.toNat (by omega) (by omega)
    have h3 := lng_ge (L := L) (k := k) hx hf
    omega
end
#print axioms lng_up
#print axioms lng_low
#print axioms lng_fuel
end Go.Proofs.Yteafkafkbipcmaa

namespace Go.Proofs.Yteafkafkbipcmaa
set_option linter.unusedVariables false

theorem rndF_flat {L : List Ed} {N : Nat} : ∀ (k : Nat) (S : List Nat), TpS L N S → S.Nodup → (∀ v ∈ S, v < N) → N ≤ k + S.length →
    TpS L N (S ++ (rndF L N k S).flatten) ∧ (S ++ (rndF L N k S).flatten).Nodup ∧ (∀ v ∈ S ++ (rndF L N k S).flatten, v < N) ∧ free L N (S ++ (rndF L N k S).flatten) = []
  | 0, S, h, hn, hl, hk => by
    have e : (rndF L N 0 S).flatten = [] := rfl
    rw [e, List.append_nil]
    refine ⟨h, hn, hl, ?_⟩
    rw [List.eq_nil_iff_forall_not_mem]
    intro v hv
    have := mem_free.1 hv
    exact this.2.1 (all_taken hn hl (by omega) v this.1)
  | k + 1, S, h, hn, hl, hk => by
    unfold rndF
    split
    · rename_i e
      rw [List.flatten_nil, List.append_nil]
      exact ⟨h, hn, hl, e⟩
    · rename_i v r e
      have hf : v :: r = free L N S := e.symm
      have h1 : TpS L N (S ++ v :: r) := by rw [hf]; exact h.add
      have h2 : (S ++ v :: r).Nodup := by
        rw [hf]
        exact List.nodup_append.2 ⟨hn, asc_nodup (free_asc L N S), fun a ha b hb e2 => by rw [← e2] at hb; exact (mem_free.1 hb).2.1 ha⟩
      have h3 : ∀ u ∈ S ++ v :: r, u < N := fun u hu => by
        rcases List.mem_append.1 hu with q | q
        · exact hl u q
        · rw [hf] at q; exact (mem_free.1 q).1
      have h4 := rndF_flat k (S ++ v :: r) h1 h2 h3 (by rw [List.length_append, List.length_cons]; omega)
      rw [List.flatten_cons, ← List.append_assoc]
      exact h4
theorem rounds_ordr {L : List Ed} {N : Nat} (h : (srt L N).length = N) : Ordr L N (rnds L N).flatten := by
  obtain ⟨h1, h2, h3, h4⟩ := rndF_flat (L := L) N [] (TpS.nil L N) List.nodup_nil (fun v h => by simp at h) (by simp)
  rw [List.nil_append] at h1 h2 h3 h4
  have hs := h1.same h4
  have p : (rnds L N).flatten.Perm (srt L N) := (List.perm_ext_iff_of_nodup h2 (srt_ok L N).2.1).2 hs
  exact ⟨by rw [p.length_eq]; exact h, h2, h3, fun a v b e x hx ht => (h1 a v b e).2 x hx ht⟩
/-- as many rounds as the depth says -/
theorem rounds_count {L : List Ed} {N : Nat} {ord : List Nat} {rd : Nat → Int} (hk : KF L N ord rd) (hL : NdE L N) (hN : 0 < N) (h : (srt L N).length = N) : 1 ≤ (rnds L N).length := by
  obtain ⟨h1, h2, h3, h4⟩ := rounds_ordr h
  apply Classical.byContradiction
  intro hn
  have : rnds L N = [] := List.eq_nil_of_length_eq_zero (by omega)
  rw [this] at h1
  simp at h1; omega
#print axioms rounds_ordr
end Go.Proofs.Yteafkafkbipcmaa
