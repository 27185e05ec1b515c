/- The iterator (*Walk).may: who may stand next; plain: fill. -/
import Derived.Test.YtddpdjbgidmdlaaWalkB
import Derived.Test.YtddpdjbgidmdlaaRange2
namespace Go.Proofs.Ytddpdjbgidmdlaa
open Go.RowKit Go.Shelf
set_option linter.unusedVariables false
attribute [local go_sem] Oper.semAt_some

def mayI (ps : List (Int × Int)) (row : List Int) (i : Nat) : Bool := decide ((i : Int) ∉ row) && (ahN ps row (i : Int) == 0)
/-- who may stand next, from a number on -/
def cand (ps : List (Int × Int)) (n : Nat) (row : List Int) (f : Nat) : Option Nat := (List.range n).find? fun i => decide (f ≤ i) && mayI ps row i
theorem cand_some {ps : List (Int × Int)} {n f i : Nat} {row : List Int} (h1 : f ≤ i) (h2 : i < n) (h3 : mayI ps row i = true) (h4 : ∀ j, f ≤ j → j < i → mayI ps row j = false) : cand ps n row f = some i := by
  unfold cand
  rw [List.find?_range_eq_some]
  refine ⟨by simp [h1, h3], by simpa using h2, fun j hj => ?_⟩
  by_cases h5 : f ≤ j
  · simp [h4 j h5 hj]
  · simp [h5]
theorem cand_none {ps : List (Int × Int)} {n f : Nat} {row : List Int} (h4 : ∀ j, f ≤ j → j < n → mayI ps row j = false) : cand ps n row f = none := by
  unfold cand
  rw [List.find?_range_eq_none]
  intro j hj
  by_cases h5 : f ≤ j
  · simp [h4 j h5 hj]
  · simp [h5]
theorem cand_spec {ps : List (Int × Int)} {n f i : Nat} {row : List Int} (h : cand ps n row f = some i) : f ≤ i ∧ i < n ∧ (i : Int) ∉ row ∧ ahN ps row (i : Int) = 0 ∧ ∀ j, f ≤ j → j < i → mayI ps row j = false := by
  unfold cand at h
  rw [List.find?_range_eq_some] at h
  obtain ⟨h1, h2, h3⟩ := h
  simp only [mayI, Bool.and_eq_true, decide_eq_true_eq, beq_iff_eq] at h1
  refine ⟨h1.1, by simpa using h2, h1.2.1, h1.2.2, fun j h4 h5 => ?_⟩
  have := h3 j h5
  simpa [h4] using this
theorem cand_no {ps : List (Int × Int)} {n f : Nat} {row : List Int} (h : cand ps n row f = none) : ∀ j, f ≤ j → j < n → mayI ps row j = false := by
  unfold cand at h
  rw [List.find?_range_eq_none] at h
  intro j h1 h2
  have := h j (by simpa using h2)
  simpa [h1] using this
/-- the least ones stand, as long as one may -/
def fillF (ps : List (Int × Int)) (n : Nat) : Nat → List Int → List Int
  | 0, row => row
  | m + 1, row => match cand ps n row 0 with
    | none => row
    | some i => fillF ps n m (row ++ [(i : Int)])
def fillP (ps : List (Int × Int)) (n : Nat) (row : List Int) : List Int := fillF ps n (n - row.length + 1) row

theorem may_any (wk : Addr) (i : Int) (w : World) :
    Calls Try.prog 36 #[.pointer (some wk), .int .i64 i] w fun e w' => e = .returned (.func (.func 47) #[] #[.pointer (some ⟨w.heap.size + 1, 0, none⟩), .pointer (some ⟨w.heap.size, 0, none⟩)]) ∧
      w' = (w.alloc (.cells #[.pointer (some wk)] 24)).alloc (.cells #[.int .i64 i] 3) := by
  go_enter Try.func36, Try.ntmps36
  go_wp2
  go_ret
  exact ⟨rfl, rfl⟩

def encN (k : Nat) : Array Value := #[.int .i64 (k : Int)]
/-- all who may stand next, from a number on, up to another one -/
def candTo (ps : List (Int × Int)) (row : List Int) (f j : Nat) : List Nat := (List.range j).filter fun i => decide (f ≤ i) && mayI ps row i
theorem candTo_nil {ps : List (Int × Int)} {row : List Int} {f j : Nat} (h : j ≤ f) : candTo ps row f j = [] := by
  unfold candTo
  rw [List.filter_eq_nil_iff]
  intro i hi
  have : i < j := by simpa using hi
  simp; omega
theorem candTo_yes {ps : List (Int × Int)} {row : List Int} {f j : Nat} (h : f ≤ j) (hm : mayI ps row j = true) : candTo ps row f (j + 1) = candTo ps row f j ++ [j] := by
  unfold candTo; rw [List.range_succ, List.filter_append]; simp [h, hm]
theorem candTo_no {ps : List (Int × Int)} {row : List Int} {f j : Nat} (hm : mayI ps row j = false) : candTo ps row f (j + 1) = candTo ps row f j := by
  unfold candTo; rw [List.range_succ, List.filter_append]; simp [hm]
theorem candTo_prefix {ps : List (Int × Int)} {row : List Int} {f j : Nat} : ∀ d, candTo ps row f j <+: candTo ps row f (j + d)
  | 0 => List.prefix_refl _
  | d + 1 => by
    refine (candTo_prefix d).trans ?_
    unfold candTo
    rw [show j + (d + 1) = (j + d) + 1 by omega, List.range_succ, List.filter_append]
    exact List.prefix_append _ _
theorem cand_head {ps : List (Int × Int)} {n f : Nat} {row : List Int} : cand ps n row f = (candTo ps row f n).head? := by
  unfold cand candTo; rw [List.head?_filter]
set_option maxRecDepth 100000 in
set_option maxHeartbeats 1000000 in
theorem may1_iter {N l bi bs f : Nat} {k : WK} {v : Value} {row : List Int} {any begun : Bool} {Bd : Nat → Prop} {J Jx : List Nat → World → Prop} {W : World}
    (hci : W.cell? ⟨bi, 0, none⟩ = some (.int .i64 (f : Int))) (hf : f ≤ 100001) (hcs : W.cell? ⟨bs, 0, none⟩ = some (.pointer (some ⟨k.wk, 0, none⟩))) (hW : WalkS W k v row any begun)
    (hl : ∀ b, Sx k v b ∨ k.D b ∨ b = bi ∨ b = bs → ¬ Bd b ∧ b ≠ l) (hY : RoundAt (N - 1) Try.prog l encN (fun pre x => pre ++ [x] <+: candTo k.ps row f k.n) Bd J Jx) (h0 : J [] W) :
    CallsIn Fence.wide N Try.prog 47 #[.func (.yield l) #[] #[], .pointer (some ⟨bi, 0, none⟩), .pointer (some ⟨bs, 0, none⟩)] W fun e W' => (∃ v, e = .returned v) ∧
      ((∃ xs, xs = candTo k.ps row f k.n ∧ J xs W') ∨ (∃ pre, (pre <+: candTo k.ps row f k.n ∧ pre ≠ []) ∧ Jx pre W')) := by
  refine callsIn_of_wp Try.func47 rfl trivial ?_ rfl
  simp only [Try.ntmps47, List.size_toArray, List.length_cons, List.length_nil, Nat.reduceAdd, Nat.reduceSub, Array.replicate_succ, Array.replicate_zero, List.push_toArray, List.append_toArray, List.nil_append, List.cons_append]
  have hnl := hW.rel.nle
  have HW := Lib.hid hW
  have HL := Lib.hid hl
  have HY := Lib.hid hY
  have HJ0 := Lib.hid h0
  clear hW hl hY h0
  gi_wp2
  gi_loopw [4] (fun i wr => ∃ j : Nat, i = .int .i64 j ∧ f ≤ j ∧ (j ≤ k.n ∨ j = f) ∧ wr.cell? ⟨bi, 0, none⟩ = some (.int .i64 (f : Int)) ∧ wr.cell? ⟨bs, 0, none⟩ = some (.pointer (some ⟨k.wk, 0, none⟩)) ∧ WalkS wr k v row any begun ∧ J (candTo k.ps row f j) wr) (fun i _ => 200000 - (intOf i).toNat)
  case atStart => exact ⟨f, rfl, Nat.le_refl _, .inr rfl, hci, hcs, HW.out, by rw [candTo_nil (Nat.le_refl _)]; exact HJ0.out⟩
  case round =>
    obtain ⟨j, rfl, hj1, hj2, hci, hcs, hW, hJ⟩ := hrel
    have c0 := hW.c0
    have c2 := hW.c2
    have r0 := hW.rel.r0
    have r2 := hW.rel.r2
    have HW := Lib.hid hW
    have HJ := Lib.hid hJ
    clear hW hJ
    by_cases hlt : j < k.n
    · have x1 : wr.cell? ⟨k.iB, j, none⟩ = some (.bool (decide ((j : Int) ∈ row))) := (HW.out.ins j hlt).1
      have x2 : wr.cell? ⟨k.aB, j, none⟩ = some (.int .i64 ((ahN k.ps row (j : Int) : Nat) : Int)) := (HW.out.ah j hlt).1
      have hltI : (j : Int) < (k.n : Int) := by omega
      obtain ⟨a, ha⟩ : ∃ a, a = ahN k.ps row (j : Int) := ⟨_, rfl⟩
      rw [← ha] at x2
      have HAh := Lib.hid ha
      clear ha
      by_cases hm : (j : Int) ∈ row
      · have hd : decide ((j : Int) ∈ row) = true := decide_eq_true hm
        rw [hd] at x1
        have HM : Hid (mayI k.ps row j = false) := by show mayI k.ps row j = false; unfold mayI; simp [hm]
        clear hd hm
        gi_wp2
        refine ⟨(fun _ h => by cases h), ?_⟩
        gi_wp2
        go_roundw
        case rel => exact ⟨j + 1, by go_num, by omega, .inl (by omega), hci, hcs, HW.out, by rw [candTo_no HM.out]; exact HJ.out⟩
        case measure => simp [intOf]; omega
      · have hd : decide ((j : Int) ∈ row) = false := decide_eq_false hm
        rw [hd] at x1
        by_cases ha0 : a = 0
        · have HM : Hid (mayI k.ps row j = true) := by show mayI k.ps row j = true; unfold mayI; rw [← HAh.out, ha0]; simp [hm]
          subst ha0
          have HC := Lib.hid (candTo_yes (ps := k.ps) (row := row) hj1 HM.out)
          have hpre : candTo k.ps row f j ++ [j] <+: candTo k.ps row f k.n := by
            rw [← HC.out]
            have := candTo_prefix (ps := k.ps) (row := row) (f := f) (j := j + 1) (k.n - (j + 1))
            rwa [show j + 1 + (k.n - (j + 1)) = k.n by omega] at this
          have HPre := Lib.hid hpre
          obtain ⟨fn, tmps, assign, body, hy, hRd⟩ := HY.out _ j _ hpre HJ.out
          clear hpre
          have e1 : encN j = #[.int .i64 (j : Int)] := rfl
          rw [e1] at hy
          have HRd := Lib.hid hRd
          clear hRd e1 hd hm
          gi_wp2_with fail
          refine ⟨(fun h => by cases h), HRd.out.mono ?_⟩
          rintro e W3 (⟨rfl, hJ3, hf3⟩ | ⟨rfl, hJx3⟩)
          · have nl : ∀ b, Sx k v b ∨ k.D b ∨ b = bi ∨ b = bs → ¬ (Bd b ∨ b = l) := fun b hb h => by
              have := HL.out b hb
              rcases h with h | h
              · exact this.1 h
              · exact this.2 h
            have hci3 := hf3.cell' hci (nl bi (.inr (.inr (.inl rfl))))
            have hcs3 := hf3.cell' hcs (nl bs (.inr (.inr (.inr rfl))))
            have HW3 := Lib.hid (HW.out.fx hf3 fun b hb => nl b (by rcases hb with hb | hb; exact .inl hb; exact .inr (.inl hb)))
            have HJ3 := Lib.hid hJ3
            clear hf3 hJ3 nl
            gi_wp2
            go_roundw
            case rel => exact ⟨j + 1, by go_num, by omega, .inl (by omega), hci3, hcs3, HW3.out, by rw [HC.out]; exact HJ3.out⟩
            case measure => simp [intOf]; omega
          · have HJx3 := Lib.hid hJx3
            clear hJx3
            gi_wp2
            refine bodyPost_ret (results_none rfl _ _ _) rfl ⟨⟨_, rfl⟩, .inr ⟨_, ⟨HPre.out, by simp⟩, HJx3.out⟩⟩
        · have HM : Hid (mayI k.ps row j = false) := by show mayI k.ps row j = false; unfold mayI; rw [← HAh.out]; simp [ha0]
          have hq : ((a : Int) == 0) = false := by rw [beq_eq_false_iff_ne]; omega
          clear hd hm ha0
          gi_wp2
          refine ⟨(fun _ h => by cases h), ?_⟩
          gi_wp2
          go_roundw
          case rel => exact ⟨j + 1, by go_num, by omega, .inl (by omega), hci, hcs, HW.out, by rw [candTo_no HM.out]; exact HJ.out⟩
          case measure => simp [intOf]; omega
    · have hltI : ¬ (j : Int) < (k.n : Int) := by omega
      gi_wp2
      go_end0
      refine ⟨⟨_, rfl⟩, .inl ?_⟩
      rcases hj2 with h | h
      · obtain rfl : j = k.n := by omega
        exact HJ.out
      · subst h
        rw [candTo_nil (by omega)]
        have := HJ.out
        rwa [candTo_nil (Nat.le_refl _)] at this
#print axioms may1_iter
end Go.Proofs.Ytddpdjbgidmdlaa
