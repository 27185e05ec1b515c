/- A region that draws its order, once for all orders: a condition on which operations have come up, on what each of them has left, and on the world; each operation is walked once. For every seat. No program in sight. -/
import Derived.Test.YtcfajeldkioomaaRegH
namespace Go.Proofs.Ytcfajeldkioomaa
open Go.RowKit
set_option linter.unusedVariables false

/-- a function turned at one place -/
def upd' {α : Type} (f : Nat → α) (i : Nat) (v : α) : Nat → α := fun j => if j = i then v else f j
theorem upd'_same {α : Type} (f : Nat → α) (i : Nat) (v : α) : upd' f i v i = v := by simp [upd']
theorem upd'_ne {α : Type} (f : Nat → α) {i j : Nat} (v : α) (h : j ≠ i) : upd' f i v j = f j := by simp [upd', h]
/-- the temporaries, each operation's laid into its own -/
def setAll (t : Array Value) (x : Nat → Value) : Nat → List Oper → Array Value
  | _, [] => t
  | k, o :: r => match o.dst with
    | some d => (setAll t x (k + 1) r).setIfInBounds d (x k)
    | none => setAll t x (k + 1) r
theorem size_setAll (t : Array Value) (x : Nat → Value) : ∀ (l : List Oper) (k : Nat), (setAll t x k l).size = t.size
  | [], _ => rfl
  | o :: r, k => by
    unfold setAll
    cases o.dst with
    | none => exact size_setAll t x r (k + 1)
    | some d => rw [Array.size_setIfInBounds]; exact size_setAll t x r (k + 1)
theorem setAll_later (t : Array Value) (x : Nat → Value) (i : Nat) (v : Value) : ∀ (l : List Oper) (k : Nat), i < k → setAll t (upd' x i v) k l = setAll t x k l
  | [], _, _ => rfl
  | o :: r, k, h => by
    unfold setAll
    rw [setAll_later t x i v r (k + 1) (by omega), upd'_ne _ _ (by omega : k ≠ i)]
/-- the temporaries that operations write are written by one each -/
def dstsApart : List Oper → Bool
  | [] => true
  | o :: r => (match o.dst with
    | some d => r.all fun p => p.dst != some d
    | none => true) && dstsApart r
theorem setAll_put (t : Array Value) (x : Nat → Value) (i : Nat) (v : Value) : ∀ (l : List Oper) (k : Nat) (o : Oper) (d : Nat), dstsApart l = true → k ≤ i → l[i - k]? = some o → o.dst = some d →
    setAll t (upd' x i v) k l = (setAll t x k l).setIfInBounds d v
  | [], k, o, d, _, _, h, _ => by simp at h
  | p :: r, k, o, d, hd, hk, ho, he => by
    unfold dstsApart at hd
    rw [Bool.and_eq_true] at hd
    unfold setAll
    by_cases hik : i = k
    · subst hik
      rw [Nat.sub_self, List.getElem?_cons_zero, Option.some.injEq] at ho
      subst ho
      rw [he]
      simp only
      rw [setAll_later t x i v r (i + 1) (by omega), upd'_same, Array.setIfInBounds_setIfInBounds]
    · have h1 : r[i - (k + 1)]? = some o := by
        rw [show i - k = (i - (k + 1)) + 1 by omega, List.getElem?_cons_succ] at ho
        exact ho
      have ih := setAll_put t x i v r (k + 1) o d hd.2 (by omega) h1 he
      cases hp : p.dst with
      | none => exact ih
      | some d' =>
        simp only
        rw [ih, upd'_ne _ _ (by omega : k ≠ i)]
        have hne : d' ≠ d := by
          have h2 := hd.1
          rw [hp] at h2
          simp only [List.all_eq_true] at h2
          have h3 := h2 o (List.mem_of_getElem? h1)
          rw [he] at h3
          intro e
          subst e
          simp at h3
        exact Array.setIfInBounds_comm _ _ (Ne.symm hne)
theorem setAll_skip (t : Array Value) (x : Nat → Value) (i : Nat) (v : Value) : ∀ (l : List Oper) (k : Nat) (o : Oper), k ≤ i → l[i - k]? = some o → o.dst = none → setAll t (upd' x i v) k l = setAll t x k l
  | [], k, o, _, h, _ => by simp at h
  | p :: r, k, o, hk, ho, he => by
    unfold setAll
    by_cases hik : i = k
    · subst hik
      rw [Nat.sub_self, List.getElem?_cons_zero, Option.some.injEq] at ho
      subst ho
      rw [he]
      simp only
      exact setAll_later t x i v r (i + 1) (by omega)
    · have h1 : r[i - (k + 1)]? = some o := by
        rw [show i - k = (i - (k + 1)) + 1 by omega, List.getElem?_cons_succ] at ho
        exact ho
      rw [setAll_skip t x i v r (k + 1) o (by omega) h1 he, upd'_ne _ _ (by omega : k ≠ i)]
/-- what the temporaries hold at the start -/
def startX (t : Array Value) (ops : Array Oper) (i : Nat) : Value := match (ops[i]?).bind (·.dst) with
  | some d => t.getD d undef
  | none => undef
theorem setAll_start (t : Array Value) (x : Nat → Value) : ∀ (l : List Oper) (k : Nat), (∀ j o d, l[j]? = some o → o.dst = some d → x (k + j) = t.getD d undef) → setAll t x k l = t
  | [], _, _ => rfl
  | o :: r, k, h => by
    have ih := setAll_start t x r (k + 1) fun j o' d h1 h2 => by
      have := h (j + 1) o' d (by rw [List.getElem?_cons_succ]; exact h1) h2
      rw [show k + 1 + j = k + (j + 1) by omega]; exact this
    unfold setAll
    rw [ih]
    cases hd : o.dst with
    | none => rfl
    | some d =>
      simp only
      have h0 := h 0 o d rfl hd
      rw [Nat.add_zero] at h0
      rw [h0]
      apply Array.ext (by simp)
      intro i h1 h2
      rw [Array.getElem_setIfInBounds]
      split
      · rename_i e; subst e; simp [h2]
      · rfl
section
variable {P : Program} {ops : Array Oper} {Q : Exit → Act → World → Prop} {md : Region.Mode}
/-- the state: what came in, with what has come up laid into it -/
def actX (a0 : Act) (ops : Array Oper) (x : Nat → Value) : Act := { tmps := setAll a0.tmps x 0 ops.toList, defers := a0.defers }
theorem actX_put {a0 : Act} {x : Nat → Value} {i : Nat} {o : Oper} (hd : dstsApart ops.toList = true) (ho : ops[i]? = some o) (v : Value) : actX a0 ops (upd' x i v) = (actX a0 ops x).put o.dst v := by
  have h1 : ops.toList[i - 0]? = some o := by rw [Nat.sub_zero, Array.getElem?_toList]; exact ho
  unfold actX Act.put
  cases he : o.dst with
  | none => simp only; rw [setAll_skip _ _ _ _ _ _ _ (Nat.zero_le _) h1 he]
  | some d => simp only; rw [setAll_put _ _ _ _ _ _ _ _ hd (Nat.zero_le _) h1 he]
theorem actX_start (a0 : Act) (ops : Array Oper) : actX a0 ops (startX a0.tmps ops) = a0 := by
  unfold actX
  rw [setAll_start]
  intro j o d h1 h2
  rw [Nat.zero_add]
  unfold startX
  rw [Array.getElem?_toList] at h1
  rw [h1]
  simp [h2]
/-- what has come up has all that it waits for behind it -/
def Closed (md : Region.Mode) (ops : Array Oper) (L : Nat → Bool) : Prop := ∀ j o, ops[j]? = some o → L j = true → ∀ e ∈ o.after, Region.binds md e = true → L e.on = true
theorem off_of {L : Nat → Bool} (hC : Closed md ops L) {i : Nat} (hi : L i = false) (j : Nat) (h : (match ops[j]? with | some o => o.after.any fun e => Region.binds md e && e.on == i | none => false) = true) : L j = false := by
  cases hv : L j with
  | false => rfl
  | true =>
    exfalso
    cases ho : ops[j]? with
    | none => rw [ho] at h; cases h
    | some o =>
      rw [ho] at h
      obtain ⟨e, he, hb⟩ := Array.any_eq_true'.1 h
      simp only [Bool.and_eq_true, beq_iff_eq] at hb
      have := hC j o ho hv e he hb.1
      rw [hb.2, hi] at this
      cases this
/-- one operation's step -/
def StepOk (P : Program) (md : Region.Mode) (ops : Array Oper) (Q : Exit → Act → World → Prop) (act : (Nat → Value) → Act) (Inv : (Nat → Bool) → (Nat → Value) → World → Prop) (i : Nat) (o : Oper) : Prop :=
  ∀ (L : Nat → Bool) (x : Nat → Value) (w : World), Inv L x w → L i = false → (∀ e ∈ o.after, Region.binds md e = true → L e.on = true) → Closed md ops L → ∀ K : Act → World → Prop,
    Shut (∀ (v : Value) (w' : World) (a' : Act), a' = (act x).put o.dst v → Inv (upd' L i true) (upd' x i v) w' → K a' w') →
    if Region.wanted o (yielded ops (act x).tmps) = true then Oper.wp P o (act x) w K Q else K ((act x).put o.dst undef) w
def StepsOk (P : Program) (md : Region.Mode) (ops : Array Oper) (Q : Exit → Act → World → Prop) (act : (Nat → Value) → Act) (Inv : (Nat → Bool) → (Nat → Value) → World → Prop) : Nat → List Oper → Prop
  | _, [] => True
  | k, o :: r => StepOk P md ops Q act Inv k o ∧ StepsOk P md ops Q act Inv (k + 1) r
theorem StepsOk.at_ {act : (Nat → Value) → Act} {Inv : (Nat → Bool) → (Nat → Value) → World → Prop} : ∀ (l : List Oper) (k j : Nat) (o : Oper), StepsOk P md ops Q act Inv k l → l[j]? = some o → StepOk P md ops Q act Inv (k + j) o
  | [], _, _, _, _, h => by simp at h
  | p :: r, k, 0, o, h, ho => by
    rw [List.getElem?_cons_zero, Option.some.injEq] at ho
    subst ho
    exact h.1
  | p :: r, k, j + 1, o, h, ho => by
    rw [List.getElem?_cons_succ] at ho
    have := StepsOk.at_ r (k + 1) j o h.2 ho
    rwa [show k + 1 + j = k + (j + 1) by omega] at this
theorem dep_of {o : Oper} {L : Nat → Bool} (hD : ∀ e ∈ o.after, Region.binds md e = true → L e.on = true) (j : Nat) (h : (o.after.any fun e => Region.binds md e && e.on == j) = true) : L j = true := by
  obtain ⟨e, he, hb⟩ := Array.any_eq_true'.1 h
  simp only [Bool.and_eq_true, beq_iff_eq] at hb
  rw [← hb.2]
  exact hD e he hb.1
theorem countF_set {L : Array Bool} {i : Nat} (h : L.getD i true = false) : (L.setIfInBounds i true).toList.count false + 1 = L.toList.count false := by
  have hi : i < L.size := by
    rcases Nat.lt_or_ge i L.size with h' | h'
    · exact h'
    · simp [Array.getElem?_eq_none h'] at h
  have hL : L.toList[i]'(by simpa using hi) = false := by simpa [hi] using h
  rw [Array.toList_setIfInBounds, List.count_set (by simpa using hi), hL]
  have h2 : 0 < L.toList.count false := List.count_pos_iff.2 (by rw [← hL]; exact List.getElem_mem _)
  rw [if_pos (by rfl), if_neg (by decide)]
  omega
theorem getD_repl (n i : Nat) : (Array.replicate n false).getD i false = false := by
  rcases Nat.lt_or_ge i n with h | h
  · simp [h]
  · simp [Array.getElem?_eq_none (show (Array.replicate n false).size ≤ i by simpa using h)]
theorem least_false (p : Nat → Bool) : ∀ n : Nat, (∃ i, i < n ∧ p i = false) → ∃ i, i < n ∧ p i = false ∧ ∀ j, j < i → p j = true
  | 0, ⟨i, h, _⟩ => absurd h (by omega)
  | n + 1, ⟨i, h, hp⟩ => by
    by_cases hex : ∃ j, j < n ∧ p j = false
    · obtain ⟨k, h1, h2, h3⟩ := least_false p n hex
      exact ⟨k, by omega, h2, h3⟩
    · have hall : ∀ j, j < n → p j = true := fun j hj => by
        cases hv : p j with
        | true => rfl
        | false => exact absurd ⟨j, hj, hv⟩ hex
      have e : i = n := by
        rcases Nat.lt_or_ge i n with h1 | h1
        · rw [hall i h1] at hp; cases hp
        · omega
      subst e
      exact ⟨i, by omega, hp, hall⟩
theorem wpAny_inv {a0 : Act} {w0 : World} {act : (Nat → Value) → Act} (Inv : (Nat → Bool) → (Nat → Value) → World → Prop) (hd : dstsApart ops.toList = true) (hact : ∀ x, actX a0 ops x = act x)
    (h0 : Inv (fun _ => false) (startX a0.tmps ops) w0) (hs : StepsOk P md ops Q act Inv 0 ops.toList)
    (hdone : ∀ L x w, Inv L x w → (∀ i, i < ops.size → L i = true) → Q .normal (act x) w)
    (hback : ∀ o ∈ ops.toList.zipIdx, (o.1.after.all fun e => !Region.binds md e || decide (e.on < o.2)) = true) :
    wpAny P md ops Q ops.size (Array.replicate ops.size false) a0 w0 := by
  have main : ∀ (f : Nat) (La : Array Bool) (L : Nat → Bool) (x : Nat → Value) (w : World), La.size = ops.size → La.toList.count false = f → (∀ i, La.getD i false = true → L i = true) → (∀ i, i < ops.size → La.getD i false = L i) → Closed md ops L → Inv L x w →
      wpAny P md ops Q f La (act x) w := by
    intro f
    induction f with
    | zero =>
      intro La L x w hsz hc hLa hLe hcl hI
      have hall : ∀ i, i < ops.size → L i = true := fun i hi => by
        rw [← hLe i hi]
        cases hv : La.getD i false with
        | true => rfl
        | false =>
          exfalso
          have : 0 < La.toList.count false := List.count_pos_iff.2 (by
            have hi' : i < La.size := by omega
            have hv' : La[i] = false := by simpa [hi'] using hv
            rw [← hv']; simp)
          omega
      refine ⟨?_, hdone L x w hI hall⟩
      rw [List.eq_nil_iff_forall_not_mem]
      intro i hi
      obtain ⟨h1, o, ho, _⟩ := mem_ready.1 hi
      have hlt : i < ops.size := (Array.getElem?_eq_some_iff.1 ho).1
      have h2 := hLe i hlt
      rw [hall i hlt] at h2
      have hi' : i < La.size := by omega
      simp [hi'] at h1 h2
      rw [h1] at h2; cases h2
    | succ f ih =>
      intro La L x w hsz hc hLa hLe hcl hI
      refine ⟨fun hr => ?_, fun i hi => ?_⟩
      · -- the least that has not come up may come up
        exfalso
        obtain ⟨i, hi, hmin⟩ : ∃ i, (i < ops.size ∧ La.getD i false = false) ∧ ∀ j, j < i → La.getD j false = true := by
          have hex : ∃ i, i < ops.size ∧ La.getD i false = false := by
            have : 0 < La.toList.count false := by omega
            obtain ⟨i, hi, e⟩ := List.getElem_of_mem (List.count_pos_iff.1 this)
            have hi' : i < La.size := by simpa using hi
            exact ⟨i, by omega, by simpa [hi'] using e⟩
          obtain ⟨i, h1, h2, h3⟩ := least_false (fun i => La.getD i false) ops.size hex
          exact ⟨i, ⟨h1, h2⟩, h3⟩
        have hmem : i ∈ Region.ready md ops La := by
          have hi' : i < La.size := by omega
          refine mem_ready.2 ⟨by have := hi.2; simpa [hi'] using this, ops[i], Array.getElem?_eq_getElem hi.1, fun e he hb => ?_⟩
          have h1 := hback (ops[i], i) (by rw [List.mem_zipIdx_iff_getElem?]; simp [hi.1])
          rw [Array.all_eq_true_iff_forall_mem] at h1
          have h2 := h1 e he
          rw [hb] at h2
          exact hmin e.on (of_decide_eq_true (by simpa using h2))
        rw [hr] at hmem; cases hmem
      · obtain ⟨h1, o, ho, hall⟩ := mem_ready.1 hi
        have hlt : i < ops.size := (Array.getElem?_eq_some_iff.1 ho).1
        have hi' : i < La.size := by omega
        have hLi : L i = false := by
          rw [← hLe i hlt]
          simpa [hi'] using h1
        have hst := StepsOk.at_ ops.toList 0 i o hs (by rw [Array.getElem?_toList]; exact ho)
        rw [Nat.zero_add] at hst
        refine wpOp_step ho fun K' hK' => hst L x w hI hLi (fun e he hb => hLa _ (hall e he hb)) hcl K' fun v w' a' ha' hI' => hK' a' w' ?_
        subst ha'
        rw [← hact, ← actX_put hd ho v, hact]
        refine ih (La.setIfInBounds i true) (upd' L i true) (upd' x i v) w' (by rw [Array.size_setIfInBounds]; exact hsz) (by have := countF_set h1; omega) (fun j hj => ?_) (fun j hj => ?_) (fun j p hp hj e he hb => ?_) hI'
        · by_cases e : j = i
          · subst e; exact upd'_same _ _ _
          · rw [upd'_ne _ _ e]
            rw [getD_set_ne false (Ne.symm e)] at hj
            exact hLa j hj
        · by_cases e : j = i
          · subst e; rw [upd'_same]; simp [hi']
          · rw [upd'_ne _ _ e, getD_set_ne false (Ne.symm e)]; exact hLe j hj
        · have h5 : L e.on = true := by
            by_cases h6 : j = i
            · subst h6
              obtain rfl : p = o := Option.some.inj (hp.symm.trans ho)
              exact hLa _ (hall e he hb)
            · rw [upd'_ne _ _ h6] at hj
              exact hcl j p hp hj e he hb
          by_cases h6 : e.on = i
          · rw [h6, upd'_same]
          · rw [upd'_ne _ _ h6]; exact h5
  have := main ops.size (Array.replicate ops.size false) (fun _ => false) (startX a0.tmps ops) w0 (by simp) (by simp) (fun i hi => by rw [getD_repl] at hi; cases hi) (fun i _ => getD_repl _ _) (fun j o _ h => by cases h) h0
  rwa [← hact, actX_start] at this
theorem wp_region_inv {id : Nat} {a0 : Act} {w0 : World} {act : (Nat → Value) → Act} (Inv : (Nat → Bool) → (Nat → Value) → World → Prop) (hm : P.follows .mixedOrders = true) (hd : dstsApart ops.toList = true)
    (hback : (ops.toList.zipIdx.all fun o => o.1.after.all fun e => !Region.binds .any e || decide (e.on < o.2)) = true) (hact : ∀ x, actX a0 ops x = act x)
    (h0 : Inv (fun _ => false) (startX a0.tmps ops) w0.drew) (hs : StepsOk P .any ops Q act Inv 0 ops.toList)
    (hdone : ∀ L x w, Inv L x w → (∀ i, i < ops.size → L i = true) → Q .normal (act x) w) : (Code.region id ops true).wp P Q a0 w0 :=
  wp_region_any hm (wpAny_inv Inv hd hact h0 hs hdone (List.all_eq_true.1 hback))
end
#print axioms wp_region_inv
end Go.Proofs.Ytcfajeldkioomaa
