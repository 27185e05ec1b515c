/- Contract: (*Walk).Next, behind its first order. -/
import Derived.Test.YtddpdjbgidmdlaaWalkD
import Derived.Test.YtddpdjbgidmdlaaUnrA
namespace Go.Proofs.Ytddpdjbgidmdlaa
open Go.RowKit Go.Shelf
set_option linter.unusedVariables false
attribute [local go_sem] Oper.semAt_some

/-- the next order behind a row (its numbers from the last one on) -/
def nextR (ps : List (Int × Int)) (n : Nat) : List Int → Option (List Int)
  | [] => none
  | x :: r => match cand ps n r.reverse (x.toNat + 1) with
    | some i => some (fillP ps n (r.reverse ++ [(i : Int)]))
    | none => nextR ps n r
def nextP (ps : List (Int × Int)) (n : Nat) (row : List Int) : Option (List Int) := nextR ps n row.reverse
theorem nextP_nil (ps : List (Int × Int)) (n : Nat) : nextP ps n [] = none := rfl
theorem nextP_snoc (ps : List (Int × Int)) (n : Nat) (row : List Int) (x : Nat) : nextP ps n (row ++ [(x : Int)]) = match cand ps n row (x + 1) with
    | some i => some (fillP ps n (row ++ [(i : Int)]))
    | none => nextP ps n row := by
  unfold nextP
  rw [List.reverse_append]
  show (match cand ps n row.reverse.reverse ((x : Int).toNat + 1) with
    | some i => some (fillP ps n (row.reverse.reverse ++ [(i : Int)]))
    | none => nextR ps n row.reverse) = _
  rw [List.reverse_reverse, Int.toNat_natCast]
theorem fillF_ge (ps : List (Int × Int)) (n : Nat) : ∀ m row, row.length ≤ (fillF ps n m row).length
  | 0, _ => Nat.le_refl _
  | m + 1, row => by
    show _ ≤ (match cand ps n row 0 with
      | none => row
      | some i => fillF ps n m (row ++ [(i : Int)])).length
    split
    · exact Nat.le_refl _
    · rename_i i _
      have := fillF_ge ps n m (row ++ [(i : Int)])
      rw [List.length_append] at this
      omega
theorem fillP_ne {ps : List (Int × Int)} {n : Nat} {row : List Int} (h : 0 < row.length) : 0 < (fillP ps n row).length := Nat.lt_of_lt_of_le h (fillF_ge _ _ _ _)
theorem list_snoc {l : List Int} (h : l ≠ []) : ∃ r x, l = r ++ [x] := ⟨l.dropLast, l.getLast h, (List.dropLast_concat_getLast h).symm⟩
/-- what Next leaves -/
def NextR (w : World) (k : WK) (v : Value) (row : List Int) (e : Ending) (w' : World) : Prop :=
  ∃ u v', Fx (Sx k v) w w' ∧ (∀ g, v'.ownBlock = some g → v.ownBlock = some g ∨ w.heap.size ≤ g) ∧
    ((∃ q, nextP k.ps k.n row = some q ∧ e = .returned (.tuple #[u, .bool true]) ∧ WalkS w' k v' q true true ∧ OwnI w' 0 u q ∧ (∀ g, u.ownBlock = some g → w.heap.size ≤ g ∧ v'.ownBlock ≠ some g)) ∨
     (nextP k.ps k.n row = none ∧ e = .returned (.tuple #[.slice none 0 0, .bool false]) ∧ WalkS w' k v' [] true true))
set_option maxRecDepth 100000 in
set_option maxHeartbeats 4000000 in
theorem next_begun {w : World} {k : WK} {v : Value} {row : List Int} (h : WalkS w k v row true true) :
    Calls Try.prog 11 #[.pointer (some ⟨k.wk, 0, none⟩)] w (NextR w k v row) := by
  have H := Lib.hid h
  have hle := h.le
  have hnl := h.rel.nle
  have HNo : Hid (∀ W, Fx No w W → W.cell? ⟨k.wk, 3, none⟩ = some (.bool true) ∧ W.cell? ⟨k.wk, 4, none⟩ = some (.bool true)) := fun W hf => ⟨(h.no hf).c3.1, (h.no hf).c4.1⟩
  clear h
  refine (callsIn_wide (n := 6)).1 ?_
  refine callsIn_of_wp_marks Try.func11 rfl trivial ?_ rfl
  simp only [Try.ntmps11, List.size_toArray, List.length_cons, List.length_nil, Nat.reduceAdd, Nat.reduceSub, Array.replicate_succ, Array.replicate_zero, List.push_toArray, List.append_toArray, List.nil_append, List.cons_append]
  have hf3 : Fx No w (((w.alloc (.cells #[.pointer (some ⟨k.wk, 0, none⟩)] 24)).alloc (.cells #[.slice none 0 0] 29)).alloc (.cells #[.bool false] 4)) := (((Fx.refl No w).alloc _).alloc _).alloc _
  obtain ⟨q3, q4⟩ := HNo.out _ hf3
  clear hf3
  gi_wp2_with fail
  obtain ⟨w0, hw0⟩ : ∃ w0, ((w.alloc (.cells #[.pointer (some ⟨k.wk, 0, none⟩)] 24)).alloc (.cells #[.slice none 0 0] 29)).alloc (.cells #[.bool false] 4) = w0 := ⟨_, rfl⟩
  have hs0 : w0.heap.size = w.heap.size + 3 := by rw [← hw0]; simp
  have hf0 : Fx No w w0 := by rw [← hw0]; exact (((Fx.refl No w).alloc _).alloc _).alloc _
  have c0 : w0.cell? ⟨w.heap.size, 0, none⟩ = some (.pointer (some ⟨k.wk, 0, none⟩)) := by rw [← hw0]; clear hw0 hf0 hs0; go_simp
  have c1 : w0.cell? ⟨w.heap.size + 1, 0, none⟩ = some (.slice none 0 0) ∧ w0.frozen? ⟨w.heap.size + 1, 0, none⟩ = false := by rw [← hw0]; clear hw0 hf0 hs0; constructor <;> go_simp
  have c2 : w0.cell? ⟨w.heap.size + 2, 0, none⟩ = some (.bool false) ∧ w0.frozen? ⟨w.heap.size + 2, 0, none⟩ = false := by rw [← hw0]; clear hw0 hf0 hs0; constructor <;> go_simp
  rw [hw0]
  clear hw0 q3 q4
  have HF0 := Lib.hid hf0
  clear hf0
  refine wpIn_loop_ghost (fun m a W => ∃ (rs : List Nat) (row' : List Int) (v' x4 x5 x6 x7 x8 x9 x10 x11 x12 x13 x14 x15 x16 x17 x18 x19 x20 x21 x22 x23 x24 x25 x26 x27 x28 x29 x30 x31 x32 x33 x34 x35 x36 x37 x38 x39 x40 x41 x42 x43 x44 x45 x46 x47 x48 x49 x50 : Value), a = { tmps := #[.pointer (some ⟨k.wk, 0, none⟩), .pointer (some ⟨w.heap.size, 0, none⟩), .pointer (some ⟨w.heap.size + 1, 0, none⟩), .pointer (some ⟨w.heap.size + 2, 0, none⟩), x4, x5, x6, x7, x8, x9, x10, x11, x12, x13, x14, x15, x16, x17, x18, x19, x20, x21, x22, x23, x24, x25, x26, x27, x28, x29, x30, x31, x32, x33, x34, x35, x36, x37, x38, x39, x40, x41, x42, x43, x44, x45, x46, x47, x48, x49, x50], defers := marks rs } ∧
      rs.Nodup ∧ (∀ r ∈ rs, w.heap.size + 2 < r ∧ W.heap[r]? = some (.deferred (some []))) ∧ W.cell? ⟨w.heap.size, 0, none⟩ = some (.pointer (some ⟨k.wk, 0, none⟩)) ∧
      (W.cell? ⟨w.heap.size + 1, 0, none⟩ = some (.slice none 0 0) ∧ W.frozen? ⟨w.heap.size + 1, 0, none⟩ = false) ∧ (W.cell? ⟨w.heap.size + 2, 0, none⟩ = some (.bool false) ∧ W.frozen? ⟨w.heap.size + 2, 0, none⟩ = false) ∧
      WalkS W k v' row' true true ∧ Fx (Sx k v) w W ∧ (∀ g, v'.ownBlock = some g → v.ownBlock = some g ∨ (w.heap.size + 2 < g ∧ ∀ r ∈ rs, r ≠ g)) ∧ nextP k.ps k.n row' = nextP k.ps k.n row ∧ row'.length = m) row.length ?start ?round
  case start =>
    exact ⟨[], row, v, _, _, _, _, _, _, _, _, _, _, _, _, _, _, _, _, _, _, _, _, _, _, _, _, _, _, _, _, _, _, _, _, _, _, _, _, _, _, _, _, _, _, _, _, _, _, _, rfl, List.nodup_nil, fun r hr => by simp at hr, c0, c1, c2, H.out.no HF0.out, HF0.out.no, fun g e => .inl e, rfl, rfl⟩
  case round =>
    rintro m a W ⟨rs, row', v', x4, x5, x6, x7, x8, x9, x10, x11, x12, x13, x14, x15, x16, x17, x18, x19, x20, x21, x22, x23, x24, x25, x26, x27, x28, x29, x30, x31, x32, x33, x34, x35, x36, x37, x38, x39, x40, x41, x42, x43, x44, x45, x46, x47, x48, x49, x50, rfl, hnd, hmk, hb0, hb1, hb2, hW, hf, hb, hnext, hm⟩
    have HNd := Lib.hid hnd
    have HMk := Lib.hid hmk
    have HW := Lib.hid hW
    have HF := Lib.hid hf
    have HB := Lib.hid hb
    have HNx := Lib.hid hnext
    have HM := Lib.hid hm
    have hwz := hf.size
    have hlt0 := World.block_lt_of_cell? W _ hb2.1
    have hlt0 : w.heap.size + 2 < W.heap.size := hlt0
    have w0c := hW.c0
    have w1c := hW.c1.1
    have HLtw := Lib.hid H.out.lt
    have hSn : ∀ b, w.heap.size ≤ b → b ≤ w.heap.size + 2 → ¬ Sx k v' b := fun b h1 h2 h => by
      rcases h with h | h | h | h
      · have h3 := H.out.blt.1; omega
      · have h3 := H.out.blt.2.1; omega
      · have h3 := H.out.blt.2.2; omega
      · rcases hb _ h with h | h
        · have := (OwnI.lt H.out.own h).2; omega
        · omega
    have HSn := Lib.hid hSn
    have hSr : ∀ r ∈ rs, ¬ Sx k v' r := fun r hr h => by
      have h8 := (hmk r hr).1
      rcases h with h | h | h | h
      · have h3 := H.out.blt.1; omega
      · have h3 := H.out.blt.2.1; omega
      · have h3 := H.out.blt.2.2; omega
      · rcases hb _ h with h | h
        · have := (OwnI.lt H.out.own h).2; omega
        · exact h.2 r hr rfl
    have HSr := Lib.hid hSr
    obtain ⟨ao, rc, hv, _⟩ := hW.own.ints.facts
    subst hv
    clear hnd hmk hW hf hb hnext hm hSn hSr
    by_cases h0 : row' = []
    · subst h0
      have hlb := HLtw.out
      gi_wp2
      have k1 : Hid (∀ w', Fx (fun b => b ∈ rs) ((W.setCell ⟨w.heap.size + 1, 0, none⟩ (.slice none 0 0)).setCell ⟨w.heap.size + 2, 0, none⟩ (.bool false)) w' → (w'.cell? ⟨w.heap.size + 1, 0, none⟩ = some (.slice none 0 0) ∧ w'.cell? ⟨w.heap.size + 2, 0, none⟩ = some (.bool false)) ∧ Fx (Sx k v) w w' ∧ WalkS w' k (.slice ao 0 rc) [] true true) := fun w' hf => by
        have hn1 : ¬ (w.heap.size + 1 ∈ rs) := fun h => by have := (HMk.out _ h).1; omega
        have hn2 : ¬ (w.heap.size + 2 ∈ rs) := fun h => by have := (HMk.out _ h).1; omega
        have f2 : Fx (fun b => b = w.heap.size + 1 ∨ b = w.heap.size + 2) W ((W.setCell ⟨w.heap.size + 1, 0, none⟩ (.slice none 0 0)).setCell ⟨w.heap.size + 2, 0, none⟩ (.bool false)) := ((Fx.refl _ W).setCell (.inr (.inl rfl)) _).setCell (.inr (.inr rfl)) _
        refine ⟨⟨hf.cell' ?_ hn1, hf.cell' ?_ hn2⟩, ?_, ?_⟩
        · rw [cell_other_block (by omega)]; exact World.cell?_setCell_same _ _ _ hb1.1
        · exact World.cell?_setCell_same _ _ _ (by rw [cell_other_block (by omega)]; exact hb2.1)
        · refine (HF.out.trans' f2 fun j hj hl => by omega).trans' hf fun j hj hl => ?_
          have := (HMk.out j hj).1; omega
        · refine (HW.out.fx f2 fun b hb e => ?_).fx hf fun b hb e => ?_
          · rcases hb with hb | hb
            · exact HSn.out b (by omega) (by omega) hb
            · have := H.out.dlt b hb; omega
          · rcases hb with hb | hb
            · exact HSr.out b e hb
            · have := H.out.dlt b hb; have := (HMk.out b e).1; omega
      refine marks_leave rs _ HNd.out (fun r hr => ?_) fun w' hf => ?_
      · have h8 := (HMk.out r hr)
        rw [Below.heap_setCell _ _ _ _ (by simp; omega), Below.heap_setCell _ _ _ _ (by simp; omega)]
        exact h8.2
      · obtain ⟨⟨r1, r2⟩, r3, r4⟩ := k1.out w' hf
        refine ⟨.tuple #[.slice none 0 0, .bool false], by simp [results, Try.results11, go_sem, r1, r2], undef, _, r3, fun g e => (HB.out g e).imp id fun h => by omega, .inr ⟨by rw [← HNx.out, nextP_nil], rfl, r4⟩⟩
    · obtain ⟨r', xz, hrx⟩ := list_snoc h0
      obtain ⟨x, hx⟩ := Int.eq_ofNat_of_zero_le (HW.out.rg xz (by rw [hrx]; simp)).1
      subst hx
      subst hrx
      have hxn : x < k.n := by have := HW.out.rg (x : Int) (by simp); omega
      clear h0
      gi_wp2_with fail
      refine ⟨trivial, (callsIn_wide.2 (pop_any HW.out)).mono ?_⟩
      rintro e w1 ⟨rfl, hf1, v1, hW1, hv1⟩
      have hsx : ∀ b, Sx k v1 b → Sx k (.slice ao (r' ++ [(x : Int)]).length rc) b := fun b h => by
        rcases h with h | h | h | h
        · exact .inl h
        · exact .inr (.inl h)
        · exact .inr (.inr (.inl h))
        · exact .inr (.inr (.inr (by rw [← hv1]; exact h)))
      have e0 := hf1.cell' hb0 (HSn.out w.heap.size (by omega) (by omega))
      have e1 := hf1.cellF hb1.1 hb1.2 (HSn.out (w.heap.size + 1) (by omega) (by omega))
      have e2 := hf1.cellF hb2.1 hb2.2 (HSn.out (w.heap.size + 2) (by omega) (by omega))
      have hz1 := hf1.size
      have HMk1 : Hid (∀ r ∈ rs, w1.heap[r]? = some (.deferred (some []))) := fun r hr => hf1.at_ (HMk.out r hr).2 (HSr.out r hr)
      have HF1 := Lib.hid hf1
      have HW1 := Lib.hid hW1
      have HV1 := Lib.hid hv1
      have HSx := Lib.hid hsx
      have w1c := hW1.c0
      clear hf1 hW1 hv1 hsx hb0 hb1 hb2 w0c
      gi_wp2_with fail
      refine ⟨trivial, (callsIn_wide.2 (may_any ⟨k.wk, 0, none⟩ ((x : Int) + 1) _)).mono ?_⟩
      rintro e w' ⟨rfl, rfl⟩
      obtain ⟨W2, hW2⟩ : ∃ W2, (w1.alloc (.cells #[.pointer (some ⟨k.wk, 0, none⟩)] 24)).alloc (.cells #[.int .i64 ((x : Int) + 1)] 3) = W2 := ⟨_, rfl⟩
      have hs2 : W2.heap.size = w1.heap.size + 2 := by rw [← hW2]; simp
      have hf2 : Fx No w1 W2 := by rw [← hW2]; exact ((Fx.refl No w1).alloc _).alloc _
      have d1 : W2.cell? ⟨w1.heap.size, 0, none⟩ = some (.pointer (some ⟨k.wk, 0, none⟩)) := by rw [← hW2]; clear hW2 hf2 hs2; go_simp
      have d2 : W2.cell? ⟨w1.heap.size + 1, 0, none⟩ = some (.int .i64 ((x : Int) + 1)) := by rw [← hW2]; clear hW2 hf2 hs2; go_simp
      rw [hW2]
      clear hW2
      have HW2 := Lib.hid (HW1.out.no hf2)
      have e0 := hf2.cell' e0 (fun h => h)
      have e1 := hf2.cellF e1.1 e1.2 (fun h => h)
      have e2 := hf2.cellF e2.1 e2.2 (fun h => h)
      have HMk2 : Hid (∀ r ∈ rs, W2.heap[r]? = some (.deferred (some []))) := fun r hr => hf2.at_ (HMk1.out r hr) (fun h => h)
      have HMl : Hid (∀ r ∈ rs, r < W2.heap.size) := fun r hr => (Array.getElem?_eq_some_iff.1 (HMk2.out r hr)).1
      have HLt := Lib.hid HW2.out.lt
      have HF2 := Lib.hid hf2
      have HNb : Hid (∀ b, W2.heap.size ≤ b → ¬ (Sx k v1 b ∨ b = w.heap.size + 1 ∨ b = w.heap.size + 2)) := fun b h1 h2 => by
        rcases h2 with h2 | h2 | h2
        · have := HLt.out b (.inl h2); omega
        · omega
        · omega
      have HCn : Hid (cand k.ps k.n r' (x + 1) = (candTo k.ps r' (x + 1) k.n).head?) := cand_head
      clear hf2
      gi_wp2_with fail
      refine range_law2 (gf := 47) (lb := #[.pointer (some ⟨w1.heap.size + 1, 0, none⟩), .pointer (some ⟨w1.heap.size, 0, none⟩)]) rfl (enters_of Try.func47 (by kernel_rfl) rfl)
        (fun k : Nat => #[.int .i64 (k : Int)]) (fun _ => rfl) (fun pre x_ => pre ++ [x_] <+: candTo k.ps r' (x + 1) k.n) No No (fun b => Sx k v1 b ∨ b = w.heap.size + 1 ∨ b = w.heap.size + 2) (fun h => h) (fun h => h) (HNb.out _ (by omega)) (HNb.out _ (by omega)) (fun h => h) (fun h => h)
        (fun xs => xs = candTo k.ps r' (x + 1) k.n) (fun pre => pre <+: candTo k.ps r' (x + 1) k.n ∧ pre ≠ [])
        (fun pre W' => pre = [] ∧ WalkS W' k v1 r' true true ∧ Fx No W2 W')
        (fun c pre W' => c = .ret ∧ ∃ (y : Nat) (v'' u : Value), pre = [y] ∧ WalkS W' k v'' (fillP k.ps k.n (r' ++ [(y : Int)])) true true ∧ Fx (fun b => Sx k v1 b ∨ b = w.heap.size + 1 ∨ b = w.heap.size + 2) W2 W' ∧ (∀ g, v''.ownBlock = some g → v1.ownBlock = some g ∨ W2.heap.size + 2 ≤ g) ∧
          W'.cell? ⟨w.heap.size + 1, 0, none⟩ = some u ∧ W'.cell? ⟨w.heap.size + 2, 0, none⟩ = some (.bool true) ∧ OwnI W' 0 u (fillP k.ps k.n (r' ++ [(y : Int)])) ∧ (∀ g, u.ownBlock = some g → W2.heap.size + 2 ≤ g ∧ v''.ownBlock ≠ some g))
        ?kI ?kX ⟨rfl, HW2.out, Fx.refl _ _⟩
        (fun y => { tmps := #[.pointer (some ⟨k.wk, 0, none⟩), .pointer (some ⟨w.heap.size, 0, none⟩), .pointer (some ⟨w.heap.size + 1, 0, none⟩), .pointer (some ⟨w.heap.size + 2, 0, none⟩), .int .i64 (x : Int), .int .i64 (y : Int), x6, x7, x8, x9, x10, x11, x12, x13, x14, x15, x16, x17, x18, x19, x20, x21, x22, x23, x24, x25, x26, x27, .pointer (some ⟨k.wk, 0, none⟩), .pointer (some ⟨k.wk, 0, none⟩), .pointer (some ⟨k.wk, 1, none⟩), .slice ao (r'.length + 1) rc, .int .i64 ((r'.length : Int) + 1), .bool true, .pointer (some ⟨k.wk, 0, none⟩), .int .i64 (x : Int), .pointer (some ⟨k.wk, 0, none⟩), .int .i64 (x : Int), .int .i64 ((x : Int) + 1), .func (.func 47) #[] #[.pointer (some ⟨w1.heap.size + 1, 0, none⟩), .pointer (some ⟨w1.heap.size, 0, none⟩)], .int .i64 (y : Int), x41, x42, x43, x44, x45, x46, x47, x48, x49, x50], defers := [] })
        ?assign ?body ?hit ?done ?stop
      case kI =>
        rintro s A B ⟨h1, h2, h3⟩ hf
        refine ⟨h1, h2.fx hf (fun b hb e => ?_), h3.trans' hf (fun j hj hl => ?_)⟩
        · have := HLt.out b hb
          rcases e with e | e
          · exact e
          · omega
        · rcases hj with e | e
          · exact e
          · omega
      case kX =>
        rintro c s A B ⟨h1, y, v'', u, h2, h3, h4, h5, h6, h7, h8, h9⟩ hf
        have hf' : Fx (fun b => b = W2.heap.size + 1) A B := hf.mono fun b _ e => by
          rcases e with e | e
          · exact e.elim
          · exact e
        refine ⟨h1, y, v'', u, h2, h3.fx hf' (fun b hb e => ?_), h4.trans' hf' (fun j hj hl => by omega), h5, hf'.cell' h6 (by simp only; omega), hf'.cell' h7 (by simp only; omega), OwnI.fx h8 hf' (fun b hb e => by have := (h9 b hb).1; omega), h9⟩
        have hb' : b < W2.heap.size ∨ W2.heap.size + 2 ≤ b := by
          rcases hb with (hb | hb | hb | hb) | hb
          · exact .inl (HLt.out b (.inl (.inl hb)))
          · exact .inl (HLt.out b (.inl (.inr (.inl hb))))
          · exact .inl (HLt.out b (.inl (.inr (.inr (.inl hb)))))
          · rcases h5 b hb with h | h
            · exact .inl (HLt.out b (.inl (.inr (.inr (.inr h)))))
            · exact .inr h
          · exact .inl (HLt.out b (.inr hb))
        omega
      case assign =>
        intro y W' K hK
        gi_wp2
        exact hK
      case body =>
        rintro pre y W' hG ⟨rfl, h2, h3⟩ hsz
        have hc : cand k.ps k.n r' (x + 1) = some y := by
          rw [cand_head]
          obtain ⟨t, ht⟩ := hG
          rw [← ht]; rfl
        obtain ⟨_, hyn, hyr, _⟩ := cand_spec hc
        have e0 := h3.cell' e0 (fun h => h)
        have e1 := h3.cellF e1.1 e1.2 (fun h => h)
        have e2 := h3.cellF e2.1 e2.2 (fun h => h)
        have H2 := Lib.hid h2
        have H3 := Lib.hid h3
        have HYr := Lib.hid hyr
        clear hG h2 h3 hc hyr
        gi_wp2_with fail
        refine ⟨trivial, CallsIn.inRound _ ((callsIn_wide.2 (push_any H2.out hyn HYr.out)).mono ?_)⟩
        rintro e W3 ⟨rfl, hf3, v3, hW3, hb4⟩
        have nS : ∀ b, w.heap.size ≤ b → b ≤ w.heap.size + 2 → ¬ Sx k v1 b := fun b h1 h2 h => HSn.out b h1 h2 (HSx.out b h)
        have e0 := hf3.cell' e0 (nS w.heap.size (by omega) (by omega))
        have e1 := hf3.cellF e1.1 e1.2 (nS (w.heap.size + 1) (by omega) (by omega))
        have e2 := hf3.cellF e2.1 e2.2 (nS (w.heap.size + 2) (by omega) (by omega))
        have hz3 := hf3.size
        have HNs := Lib.hid nS
        have HF3 := Lib.hid hf3
        have HW3 := Lib.hid hW3
        have HB3 := Lib.hid hb4
        clear hf3 hW3 hb4 nS
        gi_wp2_with fail
        refine ⟨trivial, CallsIn.inRound _ ((callsIn_wide.2 (fill_any HW3.out)).mono ?_)⟩
        rintro e W4 ⟨rfl, hf4, v4, hW4, hb5⟩
        have hsx3 : ∀ b, b < W'.heap.size → Sx k v3 b → Sx k v1 b := fun b hl h => by
          rcases h with h | h | h | h
          · exact .inl h
          · exact .inr (.inl h)
          · exact .inr (.inr (.inl h))
          · rcases HB3.out b h with h | h
            · exact .inr (.inr (.inr h))
            · omega
        have hww : w.heap.size + 3 ≤ W'.heap.size := by omega
        have e0 := hf4.cell' e0 (fun h => HNs.out w.heap.size (by omega) (by omega) (hsx3 w.heap.size (by omega) h))
        have e1 := hf4.cellF e1.1 e1.2 (fun h => HNs.out (w.heap.size + 1) (by omega) (by omega) (hsx3 (w.heap.size + 1) (by omega) h))
        have e2 := hf4.cellF e2.1 e2.2 (fun h => HNs.out (w.heap.size + 2) (by omega) (by omega) (hsx3 (w.heap.size + 2) (by omega) h))
        have hz4 := hf4.size
        have hne := fillP_ne (ps := k.ps) (n := k.n) (row := r' ++ [(y : Int)]) (by simp)
        obtain ⟨g4, gc4, hv4, _⟩ := hW4.own.place hne
        subst hv4
        have HSx3 := Lib.hid hsx3
        have HF4 := Lib.hid hf4
        have HW4 := Lib.hid hW4
        have HB4 := Lib.hid hb5
        have w40 := hW4.c0
        have w41 := hW4.c1.1
        have hle4 := hW4.le
        obtain ⟨ql, hql⟩ : ∃ ql, ql = (fillP k.ps k.n (r' ++ [(y : Int)])).length := ⟨_, rfl⟩
        rw [← hql] at w41 HB4 hle4
        have HW4 : Hid (WalkS W4 k (.slice (some ⟨g4, 0, none⟩) ql gc4) (fillP k.ps k.n (r' ++ [(y : Int)])) true true) := by rw [hql]; exact HW4
        have HQl := Lib.hid hql
        clear hf4 hW4 hb5 hsx3 hne hql
        gi_wp2_with fail
        refine ⟨trivial, CallsIn.inRound _ ((callsIn_wide.2 (cloneI_any (l := fillP k.ps k.n (r' ++ [(y : Int)])) HW4.out.own.ints (by rw [← HQl.out]; omega))).mono ?_)⟩
        rintro e W5 ⟨u, rfl, hf5, ho5⟩
        obtain ⟨g5, gc5, hu, hg5, hg5', _⟩ := ho5.place (fillP_ne (by simp))
        rw [← HQl.out] at hu
        subst hu
        have hz5 := hf5.size
        have e0 := hf5.cell' e0 (fun h => h)
        have e1 := hf5.cellF e1.1 e1.2 (fun h => h)
        have e2 := hf5.cellF e2.1 e2.2 (fun h => h)
        have hg54 : W4.heap.size ≤ g5 := (OwnI.lt ho5 rfl).1
        have HO5 := Lib.hid ho5
        have HF5 := Lib.hid hf5
        have HW5 := Lib.hid (HW4.out.no hf5)
        clear ho5 hf5
        obtain ⟨e1a, e1b⟩ := e1
        obtain ⟨e2a, e2b⟩ := e2
        gi_wp2
        have f6 : Fx (fun b => b = w.heap.size + 1 ∨ b = w.heap.size + 2) W5 ((W5.setCell ⟨w.heap.size + 1, 0, none⟩ (.slice (some ⟨g5, 0, none⟩) ql gc5)).setCell ⟨w.heap.size + 2, 0, none⟩ (.bool true)) := ((Fx.refl _ W5).setCell (.inr (.inl rfl)) _).setCell (.inr (.inr rfl)) _
        have f36 : Fx (fun b => Sx k v1 b ∨ b = w.heap.size + 1 ∨ b = w.heap.size + 2) W' ((W5.setCell ⟨w.heap.size + 1, 0, none⟩ (.slice (some ⟨g5, 0, none⟩) ql gc5)).setCell ⟨w.heap.size + 2, 0, none⟩ (.bool true)) :=
          (((HF3.out.mono fun b _ e => .inl e).trans' HF4.out fun b e hl => .inl (HSx3.out b hl e)).trans HF5.out.no).trans (f6.mono fun b _ e => .inr e)
        have hb4 : ∀ g, (Value.slice (some ⟨g4, 0, none⟩) ql gc4).ownBlock = some g → v1.ownBlock = some g ∨ W'.heap.size ≤ g := fun g e => by
          rcases HB4.out g e with h | h
          · exact HB3.out g h
          · exact .inr (by omega)
        have hlt4 := HW4.out.lt g4 (.inl (.inr (.inr (.inr rfl))))
        refine ⟨f36, rfl, y, _, _, rfl, HW5.out.fx f6 (fun b hb e => ?_), H3.out.no.trans f36, fun g e => (hb4 g e).imp id fun h => by omega, ?_, ?_, OwnI.fx (ownsRow_base HO5.out (Nat.zero_le _)) f6 (fun b hb e => ?_), fun g e => ?_⟩
        · have hbs : Sx k v1 b ∨ W'.heap.size ≤ b ∨ k.D b := by
            rcases hb with (h | h | h | h) | h
            · exact .inl (.inl h)
            · exact .inl (.inr (.inl h))
            · exact .inl (.inr (.inr (.inl h)))
            · rcases hb4 b h with h | h
              · exact .inl (.inr (.inr (.inr h)))
              · exact .inr (.inl h)
            · exact .inr (.inr h)
          rcases hbs with h | h | h
          · exact HNs.out b (by omega) (by omega) h
          · omega
          · have := H.out.dlt b h; omega
        · rw [cell_other_block (by omega)]; exact World.cell?_setCell_same _ _ _ e1a
        · exact World.cell?_setCell_same _ _ _ (by rw [cell_other_block (by omega)]; exact e2a)
        · simp only [Value.ownBlock, Option.some.injEq] at hb
          omega
        · simp only [Value.ownBlock, Option.some.injEq] at e
          refine ⟨by omega, fun e2 => ?_⟩
          simp only [Value.ownBlock, Option.some.injEq] at e2
          omega
      case hit =>
        intro W3 J Jx hf hsz hJ hJx hR hJ0
        refine may1_iter (Bd := No) (f := x + 1) (hf.cell' (by rw [d2]; simp) (fun h => h)) (by omega) (hf.cell' d1 (fun h => h)) (HW2.out.no hf) (fun b hb => ⟨fun h => h, ?_⟩) hR hJ0
        rcases hb with hb | hb | rfl | rfl
        · have := HLt.out b (.inl hb); omega
        · have := HLt.out b (.inr hb); omega
        · omega
        · omega
      case done =>
        rintro xs W3 rfl ⟨h1, h2, h3⟩ hK
        have hcand : cand k.ps k.n r' (x + 1) = none := by rw [HCn.out, h1]; rfl
        have hnx : nextP k.ps k.n r' = nextP k.ps k.n row := by
          rw [← HNx.out, nextP_snoc, hcand]
        have HN2 := Lib.hid hnx
        have H2 := Lib.hid h2
        have H3 := Lib.hid h3
        have HK := Lib.hid hK
        clear h1 h2 h3 hcand hnx hK
        gi_wp2
        refine ⟨r'.length, by have := HM.out; rw [List.length_append, List.length_singleton] at this; omega, W2.heap.size :: rs, r', v1, _, _, _, _, _, _, _, _, _, _, _, _, _, _, _, _, _, _, _, _, _, _, _, _, _, _, _, _, _, _, _, _, _, _, _, _, _, _, _, _, _, _, _, _, _, _, _, rfl, List.nodup_cons.2 ⟨fun h => by have := HMl.out _ h; omega, HNd.out⟩, fun r hr => ?_, H3.out.cell' e0 (fun h => h), H3.out.cellF e1.1 e1.2 (fun h => h), H3.out.cellF e2.1 e2.2 (fun h => h), H2.out, ?_, fun g e => ?_, HN2.out, rfl⟩
        · rcases List.mem_cons.1 hr with rfl | hr
          · exact ⟨by omega, HK.out⟩
          · exact ⟨(HMk.out r hr).1, H3.out.at_ (HMk2.out r hr) (fun h => h)⟩
        · refine (HF.out.trans' HF1.out fun j hj hl => ?_).trans (HF2.out.trans H3.out).no
          rcases hj with h | h | h | h
          · exact .inl h
          · exact .inr (.inl h)
          · exact .inr (.inr (.inl h))
          · rcases HB.out j h with h | h
            · exact .inr (.inr (.inr h))
            · omega
        · rw [HV1.out] at e
          rcases HB.out g e with h | h
          · exact .inl h
          · refine .inr ⟨h.1, fun r hr e2 => ?_⟩
            rcases List.mem_cons.1 hr with rfl | hr
            · have := HLt.out g (.inl (.inr (.inr (.inr (by rw [HV1.out]; exact e))))); omega
            · exact h.2 r hr e2
      case stop =>
        rintro c pre W3 ⟨hp, _⟩ ⟨rfl, y, v3, u, rfl, h1, h2, h3, h4, h5, h6, h7⟩ hK
        have hc : cand k.ps k.n r' (x + 1) = some y := by
          rw [HCn.out]
          obtain ⟨t, ht⟩ := hp
          rw [← ht]; rfl
        have hnx : nextP k.ps k.n row = some (fillP k.ps k.n (r' ++ [(y : Int)])) := by
          rw [← HNx.out, nextP_snoc, hc]
        have HN2 := Lib.hid hnx
        have H1 := Lib.hid h1
        have H2 := Lib.hid h2
        have H3 := Lib.hid h3
        have H6 := Lib.hid h6
        have H7 := Lib.hid h7
        have HK := Lib.hid hK
        have HR1 := Lib.hid h4
        have HR2 := Lib.hid h5
        clear hp h1 h2 h3 h4 h5 h6 h7 hK hc hnx
        gi_wp2
        refine marks_leave (W2.heap.size :: rs) W3 (List.nodup_cons.2 ⟨fun h => by have := HMl.out _ h; omega, HNd.out⟩) (fun r hr => ?_) fun w' hf => ?_
        · rcases List.mem_cons.1 hr with rfl | hr
          · exact HK.out
          · refine H2.out.at_ (HMk2.out r hr) fun h => ?_
            have h8 := (HMk.out r hr).1
            rcases h with h | h | h
            · exact HSr.out r hr (HSx.out r h)
            · omega
            · omega
        · have hmem : ∀ b, b ∈ W2.heap.size :: rs → b = W2.heap.size ∨ (w.heap.size + 2 < b ∧ b ∈ rs) := fun b hb => by
            rcases List.mem_cons.1 hb with h | h
            · exact .inl h
            · exact .inr ⟨(HMk.out b h).1, h⟩
          have r1 := hf.cell' HR1.out (fun h => by have := hmem _ h; simp only at this; omega)
          have r2 := hf.cell' HR2.out (fun h => by have := hmem _ h; simp only at this; omega)
          have nSx : ∀ b, b ∈ W2.heap.size :: rs → ¬ Sx k v1 b := fun b hb h => by
            rcases hmem b hb with e | e
            · have := HLt.out b (.inl h); omega
            · exact HSr.out b e.2 (HSx.out b h)
          have hfw : Fx (Sx k v) w w' := by
            refine (((HF.out.trans' HF1.out fun j hj hl => ?_).trans HF2.out.no).trans' H2.out fun j hj hl => ?_).trans' hf fun j hj hl => ?_
            · rcases hj with h | h | h | h
              · exact .inl h
              · exact .inr (.inl h)
              · exact .inr (.inr (.inl h))
              · rcases HB.out j h with h | h
                · exact .inr (.inr (.inr h))
                · omega
            · rcases hj with h | h | h
              · rcases HSx.out j h with h | h | h | h
                · exact .inl h
                · exact .inr (.inl h)
                · exact .inr (.inr (.inl h))
                · rcases HB.out j h with h | h
                  · exact .inr (.inr (.inr h))
                  · omega
              · omega
              · omega
            · have := hmem j hj; omega
          refine ⟨.tuple #[u, .bool true], by simp [results, Try.results11, go_sem, r1, r2], u, v3, hfw, fun g e => ?_, .inl ⟨_, HN2.out, rfl, H1.out.fx hf fun b hb hj => ?_, OwnI.fx H6.out hf fun b hb hj => ?_, fun g e => ⟨by have := (H7.out g e).1; omega, (H7.out g e).2⟩⟩⟩
          · rcases H3.out g e with h | h
            · rw [HV1.out] at h
              exact (HB.out g h).imp id fun h => by omega
            · exact .inr (by omega)
          · have hbs : Sx k v1 b ∨ W2.heap.size + 2 ≤ b ∨ k.D b := by
              rcases hb with (h | h | h | h) | h
              · exact .inl (.inl h)
              · exact .inl (.inr (.inl h))
              · exact .inl (.inr (.inr (.inl h)))
              · rcases H3.out b h with h | h
                · exact .inl (.inr (.inr (.inr h)))
                · exact .inr (.inl h)
              · exact .inr (.inr h)
            rcases hbs with h | h | h
            · exact nSx b hj h
            · rcases hmem b hj with e | e
              · omega
              · have := HMl.out b e.2; omega
            · have := H.out.dlt b h; have := hmem b hj; omega
          · have h8 := (H7.out b hb).1
            rcases hmem b hj with e | e
            · omega
            · have := HMl.out b e.2; omega
#print axioms next_begun
end Go.Proofs.Ytddpdjbgidmdlaa
