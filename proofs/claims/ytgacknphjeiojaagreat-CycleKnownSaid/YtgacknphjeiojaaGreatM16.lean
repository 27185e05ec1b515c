/- append to a part of a row of edges that stands anywhere in its block; rows of the call's own, apart from one another. For every seat. No program in sight. | The law CycleKnown. -/
import Derived.Test.YtgacknphjeiojaaGreatM1
import Derived.Test.YtgacknphjeiojaaGreatM8
import Derived.Test.YtgacknphjeiojaaGreatM11
import Derived.Test.YtgacknphjeiojaaGreatM10

namespace Go.Proofs.YtgacknphjeiojaaGreat
open Go.RowKit
set_option linter.unusedVariables false

/-- a part of a row, its cells in a block -/
structure PartE (w : World) (t : TypeId) (g o n cap : Nat) (xs : List Ed) : Prop where
  len : xs.length = n
  nc : n ≤ cap
  cm : cap ≤ maxLen
  at_ : ∃ cur : Array Value, w.heap[g]? = some (.cells cur t (0, 0)) ∧ o + cap * 3 ≤ cur.size ∧ ∀ j u, (icells e3 xs)[j]? = some u → cur[o + j]? = some u
theorem setRow_cell (w : World) (g : Nat) (cur cs : Array Value) (t : TypeId) (h : w.heap[g]? = some (.cells cur t (0, 0))) (i : Nat) : (w.setRow g cs).cell? ⟨g, i, none⟩ = cs[i]? :=
  cell_of_row _ _ _ _ _ _ (setRow_heap w g cur cs t _ h)
theorem run_append_part {P : Program} {w : World} {t ts ty : TypeId} {i : TypeInfo} {z : Value} {bytes g o n cap : Nat} {xs : List Ed} {x : Ed} (ht : P.underlying ts = some (.slice t)) (hi : P.info? t = some i) (hz : i.zero = some z) (hzs : z.cells.size = 3) (hs : i.size = 3) (hby : i.bytes = bytes) (hb : bytes = 24)
    (h : PartE w t g o n cap xs) (hn : n ≤ 1000000) {a : Addr} {c : Nat} (h0 : w.cell? a = some (.int .i64 x.f)) (h1 : w.cell? (a.add 1) = some (.int .i64 x.t)) (h2 : w.cell? (a.add 2) = some (.int .i64 x.l)) :
    ∃ v' w', (Builtin.append_ #[ts, ts] ty #[.slice (some ⟨g, o, none⟩) n cap, .slice (some a) 1 c]).run P w = .ok v' w' ∧ EdsV w' (fun _ => True) v' (xs ++ [x]) ∧ Fx (fun j => j = g) w w' ∧ (∀ j, j < o + n * 3 → w'.cell? ⟨g, j, none⟩ = w.cell? ⟨g, j, none⟩) ∧
      (n < cap → w'.cell? ⟨g, o + n * 3, none⟩ = some (.int .i64 x.f) ∧ w'.cell? ⟨g, o + n * 3 + 1, none⟩ = some (.int .i64 x.t) ∧ w'.cell? ⟨g, o + n * 3 + 2, none⟩ = some (.int .i64 x.l) ∧ v' = .slice (some ⟨g, o, none⟩) (n + 1) cap) ∧ (¬ n < cap → Fx No w w' ∧ EdsV w' (Iv w.heap.size w'.heap.size) v' (xs ++ [x])) ∧
      ∀ o2 n2 cap2 xs2, PartE w t g o2 n2 cap2 xs2 → o2 + n2 * 3 ≤ o + n * 3 → PartE w' t g o2 n2 cap2 xs2 := by
  obtain ⟨hlen, hnc, hcm, cur, hg, hsz, hcur⟩ := h
  have hnews : ∀ j u, ([Value.int .i64 x.f, .int .i64 x.t, .int .i64 x.l])[j]? = some u → w.cell? (a.add j) = some u := fun j u hu => by
    match j, hu with
    | 0, hu =>
      simp at hu
      subst hu
      obtain ⟨ab, ao, ai⟩ := a
      exact h0
    | 1, hu => simp at hu; subst hu; exact h1
    | 2, hu => simp at hu; subst hu; exact h2
    | j + 3, hu => simp at hu
  have hxl : (icells e3 xs).length = n * 3 := by rw [icells_length e3_len, hlen]
  by_cases hroom : n + 1 ≤ cap
  · have hf := run_firstCells_some (P := P) w 3 1 a 1 c [.int .i64 x.f, .int .i64 x.t, .int .i64 x.l] rfl hnews
    have hst := run_storeCells_at P g (o + n * 3) t [.int .i64 x.f, .int .i64 x.t, .int .i64 x.l] 0 cur w hg (by simp; omega) (by simp [Value.oneCell'])
    simp only [Nat.add_zero] at hst
    have hrun : (Builtin.append_ #[ts, ts] ty #[.slice (some ⟨g, o, none⟩) n cap, .slice (some a) 1 c]).run P w = .ok (.slice (some ⟨g, o, none⟩) (n + 1) cap) (w.setRow g (cur.toList.take (o + n * 3) ++ [Value.int .i64 x.f, .int .i64 x.t, .int .i64 x.l] ++ cur.toList.drop (o + n * 3 + 3)).toArray) := by
      simp [Builtin.append_, run_underlying ht, sizeOf, typeInfo, hi, Builtin.lenOf, hroom, hs, hf, Addr.add_lit, hst]
    have hlt : (cur.toList.take (o + n * 3)).length = o + n * 3 := by rw [List.length_take]; simp; omega
    have hlow : ∀ j, j < o + n * 3 → (w.setRow g (cur.toList.take (o + n * 3) ++ [Value.int .i64 x.f, .int .i64 x.t, .int .i64 x.l] ++ cur.toList.drop (o + n * 3 + 3)).toArray).cell? ⟨g, j, none⟩ = w.cell? ⟨g, j, none⟩ := fun j hj => by
      rw [setRow_cell w g cur _ t hg, cell_of_row _ _ _ _ _ _ hg, List.getElem?_toArray, List.append_assoc, List.getElem?_append_left (by omega), List.getElem?_take_of_lt hj, Array.getElem?_toList]
    have hhigh : ∀ q, q < 3 → (w.setRow g (cur.toList.take (o + n * 3) ++ [Value.int .i64 x.f, .int .i64 x.t, .int .i64 x.l] ++ cur.toList.drop (o + n * 3 + 3)).toArray).cell? ⟨g, o + n * 3 + q, none⟩ = ([Value.int .i64 x.f, .int .i64 x.t, .int .i64 x.l])[q]? := fun q hq => by
      rw [setRow_cell w g cur _ t hg, List.getElem?_toArray, List.append_assoc, List.getElem?_append_right (by omega), hlt, show o + n * 3 + q - (o + n * 3) = q by omega, List.getElem?_append_left (by simpa using hq)]
    refine ⟨_, _, hrun, ?_, setRow_fxQ w g _, hlow, fun _ => ⟨hhigh 0 (by omega), hhigh 1 (by omega), hhigh 2 (by omega), rfl⟩, fun h9 => absurd (by omega) h9, fun o2 n2 cap2 xs2 hp hle => ?_⟩
    rotate_left
    · obtain ⟨p1, p2, p3, cur2, p4, p5, p6⟩ := hp
      rw [hg] at p4
      obtain rfl : cur = cur2 := by simpa using p4
      have hl2 : (icells e3 xs2).length = n2 * 3 := by rw [icells_length e3_len, p1]
      refine ⟨p1, p2, p3, _, setRow_heap w g cur _ t _ hg, by simp; omega, fun j u hu => ?_⟩
      have hj : j < n2 * 3 := by rw [← hl2]; exact (List.getElem?_eq_some_iff.1 hu).1
      rw [List.getElem?_toArray, List.append_assoc, List.getElem?_append_left (by omega), List.getElem?_take_of_lt (by omega), Array.getElem?_toList]
      exact p6 j u hu
    refine ⟨some ⟨g, o, none⟩, cap, by rw [List.length_append, hlen]; rfl, by rw [List.length_append, hlen]; exact hroom, hcm, ?_, (fun h => by cases h), .inr ⟨g, o, rfl, trivial, fun j hj => ?_⟩⟩
    · rw [icells_append, List.length_append, hxl, icells_single, List.length_append, hlen]; simp [ints, e3]; omega
    · rw [icells_append, icells_single] at hj ⊢
      have hj' : j < n * 3 + 3 := by rw [List.length_append, hxl] at hj; simpa [ints, e3] using hj
      by_cases e : j < n * 3
      · rw [hlow (o + j) (by omega), cell_of_row _ _ _ _ _ _ hg]
        have hq := hcur j ((icells e3 xs)[j]'(by omega)) (List.getElem?_eq_getElem (by omega))
        rw [hq, List.getD, List.getElem?_append_left (by omega), List.getElem?_eq_getElem (by omega)]
        rfl
      · obtain ⟨q, rfl⟩ : ∃ q, j = n * 3 + q := ⟨j - n * 3, by omega⟩
        have hq3 : q < 3 := by omega
        rw [← Nat.add_assoc, hhigh q hq3, List.getD, List.getElem?_append_right (by omega), hxl, Nat.add_sub_cancel_left]
        match q, hq3 with
        | 0, _ => rfl
        | 1, _ => rfl
        | 2, _ => rfl
  · have holds : ∀ j u, (icells e3 xs)[j]? = some u → w.cell? ((⟨g, o, none⟩ : Addr).add j) = some u := fun j u hu => by
      rw [Addr.add_lit, cell_of_row _ _ _ _ _ _ hg, hcur j u hu]
    obtain ⟨v', w', hr, ho, hgr⟩ := run_append_arg_grows (P := P) w ts ty t i z 3 bytes ht hi hz hs hby hzs (by decide) ⟨g, o, none⟩ n cap (icells e3 xs) hxl holds a 1 c [.int .i64 x.f, .int .i64 x.t, .int .i64 x.l] rfl hnews (by omega) (by unfold maxLen; omega) (by subst hb; omega)
    have hfx : Fx No w w' := Fx.ofGrown hgr (by simp)
    have hglt : g < w.heap.size := (Array.getElem?_eq_some_iff.1 hg).1
    refine ⟨v', w', hr, ?_, hfx.mono fun _ _ h => h.elim, fun j hj => ?_, fun h9 => absurd (by omega) hroom, fun _ => ⟨hfx, ?_⟩, fun o2 n2 cap2 xs2 hp hle => ?_⟩
    · have ho' : w'.ownsRow w.heap.size t 3 v' (xs ++ [x]).length (icells e3 (xs ++ [x])) := by
        rw [List.length_append, hlen, icells_append, icells_single]; exact ho
      exact SlV.mono (SlV.ofOwns ho') fun _ _ => trivial
    · rw [cell_of_row _ _ _ _ _ _ hg, cell_of_row _ _ _ _ _ _ (hfx.at_ hg (fun q => q))]
    · have ho' : w'.ownsRow w.heap.size t 3 v' (xs ++ [x]).length (icells e3 (xs ++ [x])) := by
        rw [List.length_append, hlen, icells_append, icells_single]; exact ho
      exact SlV.ofOwns ho'
    · obtain ⟨p1, p2, p3, cur2, p4, p5, p6⟩ := hp
      exact ⟨p1, p2, p3, cur2, hfx.at_ p4 (fun q => q), p5, p6⟩
theorem PartE.no {w w' : World} {t : TypeId} {g o n cap : Nat} {xs : List Ed} (h : PartE w t g o n cap xs) (hf : Fx No w w') : PartE w' t g o n cap xs := by
  obtain ⟨p1, p2, p3, cur2, p4, p5, p6⟩ := h
  exact ⟨p1, p2, p3, cur2, hf.at_ p4 (fun q => q), p5, p6⟩
theorem PartE.lt {w : World} {t : TypeId} {g o n cap : Nat} {xs : List Ed} (h : PartE w t g o n cap xs) : g < w.heap.size := by
  obtain ⟨p1, p2, p3, cur2, p4, p5, p6⟩ := h
  exact (Array.getElem?_eq_some_iff.1 p4).1
theorem PartE.eds {w : World} {t : TypeId} {g o n cap : Nat} {xs : List Ed} (h : PartE w t g o n cap xs) : EdsV w (fun j => j = g) (.slice (some ⟨g, o, none⟩) n cap) xs := by
  obtain ⟨p1, p2, p3, cur2, p4, p5, p6⟩ := h
  subst p1
  refine ⟨some ⟨g, o, none⟩, cap, rfl, p2, p3, icells_length e3_len xs, (fun h => by cases h), .inr ⟨g, o, rfl, rfl, fun j hj => ?_⟩⟩
  rw [cell_of_row _ _ _ _ _ _ p4]
  have := p6 j ((icells e3 xs)[j]) (List.getElem?_eq_getElem hj)
  rw [this, List.getD, List.getElem?_eq_getElem hj]
  rfl
theorem PartE.ofOwn {w : World} {base : Nat} {t : TypeId} {g n cap : Nat} {xs : List Ed} (h : w.ownsRow base t 3 (.slice (some ⟨g, 0, none⟩) n cap) n (icells e3 xs)) (hl : xs.length = n) : PartE w t g 0 n cap xs := by
  rcases h.2 with ⟨e, _⟩ | ⟨g', cap', cur, e, hb, hg, h1, h2, h3, h4⟩
  · cases e
  · simp only [Value.slice.injEq, Option.some.injEq, Addr.mk.injEq] at e
    obtain ⟨⟨rfl, _⟩, _, rfl⟩ := e
    refine ⟨hl, h1, h2, cur, hg, by omega, fun j u hu => ?_⟩
    rw [Nat.zero_add, ← Array.getElem?_toList]
    have hj := (List.getElem?_eq_some_iff.1 hu).1
    rw [← h4] at hu hj
    have : j < n * 3 := by rw [List.length_take] at hj; omega
    rwa [List.getElem?_take_of_lt this] at hu
theorem icells_tail3 {xs : List Ed} {x : Ed} (j : Nat) : (icells e3 (x :: xs))[3 + j]? = (icells e3 xs)[j]? := by
  rw [icells_cons, List.getElem?_append_right (by simp [ints, e3])]
  congr 1
  simp [ints, e3]
/-- the rest of a row, without its first -/
theorem PartE.tail {w : World} {t : TypeId} {g n cap : Nat} {xs : List Ed} {x : Ed} (h : PartE w t g 0 (n + 1) cap (x :: xs)) : PartE w t g 3 n (cap - 1) xs := by
  obtain ⟨p1, p2, p3, cur2, p4, p5, p6⟩ := h
  refine ⟨by simpa using p1, by omega, by omega, cur2, p4, by omega, fun j u hu => ?_⟩
  have := p6 (3 + j) u (by rw [icells_tail3]; exact hu)
  rwa [Nat.zero_add] at this
theorem PartE.none_ {w : World} {t : TypeId} {g n cap o : Nat} {xs : List Ed} (h : PartE w t g o n cap xs) : PartE w t g o 0 0 [] := by
  obtain ⟨p1, p2, p3, cur2, p4, p5, p6⟩ := h
  exact ⟨rfl, Nat.le_refl _, Nat.zero_le _, cur2, p4, by omega, fun j u hu => by simp [icells] at hu⟩
theorem PartE.first {w : World} {t : TypeId} {g n cap : Nat} {xs : List Ed} {x : Ed} (h : PartE w t g 0 (n + 1) cap (x :: xs)) : w.cell? ⟨g, 0, none⟩ = some (.int .i64 x.f) ∧ w.cell? ⟨g, 1, none⟩ = some (.int .i64 x.t) ∧ w.cell? ⟨g, 2, none⟩ = some (.int .i64 x.l) := by
  obtain ⟨p1, p2, p3, cur2, p4, p5, p6⟩ := h
  refine ⟨?_, ?_, ?_⟩
  · rw [cell_of_row _ _ _ _ _ _ p4]; exact p6 0 _ rfl
  · rw [cell_of_row _ _ _ _ _ _ p4]; exact p6 1 _ rfl
  · rw [cell_of_row _ _ _ _ _ _ p4]; exact p6 2 _ rfl
/-- the walk's law -/
theorem wpList_append_part {P : Program} {w : World} {ops : Array Oper} {rest : List Oper} {op : Oper} {ac : Act} {Q : Exit → Act → World → Prop} (hgd : op.guard = none) (s y : Operand) (ts : TypeId) {t : TypeId}
    (hop : op.op = .call { callee := .builtin .append, args := #[s, y], argTypes := #[ts, ts] })
    {i : TypeInfo} {z : Value} {bytes g o n cap : Nat} {xs : List Ed} {x : Ed} (ht : P.underlying ts = some (.slice t)) (hi : P.info? t = some i) (hz : i.zero = some z) (hzs : z.cells.size = 3) (hs : i.size = 3) (hby : i.bytes = bytes) (hb : bytes = 24)
    (h : PartE w t g o n cap xs) (hn : n ≤ 1000000) {a : Addr} {c : Nat} (h0 : w.cell? a = some (.int .i64 x.f)) (h1 : w.cell? (a.add 1) = some (.int .i64 x.t)) (h2 : w.cell? (a.add 2) = some (.int .i64 x.l))
    (es : ac.eval s = .slice (some ⟨g, o, none⟩) n cap) (ey : ac.eval y = .slice (some a) 1 c)
    (hK : ∀ v' w', EdsV w' (fun _ => True) v' (xs ++ [x]) → Fx (fun j => j = g) w w' → (∀ j, j < o + n * 3 → w'.cell? ⟨g, j, none⟩ = w.cell? ⟨g, j, none⟩) →
      (n < cap → w'.cell? ⟨g, o + n * 3, none⟩ = some (.int .i64 x.f) ∧ w'.cell? ⟨g, o + n * 3 + 1, none⟩ = some (.int .i64 x.t) ∧ w'.cell? ⟨g, o + n * 3 + 2, none⟩ = some (.int .i64 x.l) ∧ v' = .slice (some ⟨g, o, none⟩) (n + 1) cap) → (¬ n < cap → Fx No w w' ∧ EdsV w' (Iv w.heap.size w'.heap.size) v' (xs ++ [x])) →
      (∀ o2 n2 cap2 xs2, PartE w t g o2 n2 cap2 xs2 → o2 + n2 * 3 ≤ o + n * 3 → PartE w' t g o2 n2 cap2 xs2) → wpList P ops Q rest (ac.put op.dst v') w') : wpList P ops Q (op :: rest) ac w := by
  obtain ⟨v', w', hr, g1, g2, g3, g4, g5, g6⟩ := run_append_part (P := P) (ts := ts) (ty := op.type) ht hi hz hzs hs hby hb h hn (c := c) h0 h1 h2
  refine wpList_plain hgd fun K hK' => ?_
  unfold Oper.wp
  simp [execOp, hop, resolve, invoke, builtin, es, ey, hr, Result.andThen]
  exact hK' _ _ (hK v' w' g1 g2 g3 g4 g5 g6)
/-- the same as a step of a region that draws -/
theorem step_append_part {P : Program} {cc : Bool} (hc : cc = true) {w : World} {op : Oper} {ac : Act} {K : Act → World → Prop} {Q : Exit → Act → World → Prop} {X : Prop} (s y : Operand) (ts : TypeId) {t : TypeId}
    (hop : op.op = .call { callee := .builtin .append, args := #[s, y], argTypes := #[ts, ts] })
    {i : TypeInfo} {z : Value} {bytes g o n cap : Nat} {xs : List Ed} {x : Ed} (ht : P.underlying ts = some (.slice t)) (hi : P.info? t = some i) (hz : i.zero = some z) (hzs : z.cells.size = 3) (hs : i.size = 3) (hby : i.bytes = bytes) (hb : bytes = 24)
    (h : PartE w t g o n cap xs) (hn : n ≤ 1000000) {a : Addr} {c : Nat} (h0 : w.cell? a = some (.int .i64 x.f)) (h1 : w.cell? (a.add 1) = some (.int .i64 x.t)) (h2 : w.cell? (a.add 2) = some (.int .i64 x.l))
    (es : ac.eval s = .slice (some ⟨g, o, none⟩) n cap) (ey : ac.eval y = .slice (some a) 1 c)
    (hK : ∀ v' w', EdsV w' (fun _ => True) v' (xs ++ [x]) → Fx (fun j => j = g) w w' → (∀ j, j < o + n * 3 → w'.cell? ⟨g, j, none⟩ = w.cell? ⟨g, j, none⟩) →
      (n < cap → w'.cell? ⟨g, o + n * 3, none⟩ = some (.int .i64 x.f) ∧ w'.cell? ⟨g, o + n * 3 + 1, none⟩ = some (.int .i64 x.t) ∧ w'.cell? ⟨g, o + n * 3 + 2, none⟩ = some (.int .i64 x.l) ∧ v' = .slice (some ⟨g, o, none⟩) (n + 1) cap) → (¬ n < cap → Fx No w w' ∧ EdsV w' (Iv w.heap.size w'.heap.size) v' (xs ++ [x])) →
      (∀ o2 n2 cap2 xs2, PartE w t g o2 n2 cap2 xs2 → o2 + n2 * 3 ≤ o + n * 3 → PartE w' t g o2 n2 cap2 xs2) → K (ac.put op.dst v') w') : if cc = true then Oper.wp P op ac w K Q else X := by
  rw [if_pos hc]
  obtain ⟨v', w', hr, g1, g2, g3, g4, g5, g6⟩ := run_append_part (P := P) (ts := ts) (ty := op.type) ht hi hz hzs hs hby hb h hn (c := c) h0 h1 h2
  unfold Oper.wp
  simp [execOp, hop, resolve, invoke, builtin, es, ey, hr, Result.andThen]
  exact hK v' w' g1 g2 g3 g4 g5 g6
#print axioms run_append_part
#print axioms step_append_part
end Go.Proofs.YtgacknphjeiojaaGreat

namespace Go.Proofs.YtgacknphjeiojaaGreat
open Go.RowKit
set_option linter.unusedVariables false

/-- three rows of the call's own, apart from one another -/
structure Kn3 (w0 ws : World) (lv av zv : Value) (Ls As : List Ed) (Zs : List Int) : Prop where
  fx : Fx No w0 ws
  l : OwnT 25 e3 3 ws w0.heap.size lv Ls
  a : OwnT 25 e3 3 ws w0.heap.size av As
  z : ws.ownsRow w0.heap.size 3 1 zv Zs.length (ints Zs)
  la : ∀ g, lv.ownBlock = some g → ¬ av.ownBlock = some g
  lz : ∀ g, lv.ownBlock = some g → ¬ zv.ownBlock = some g
  az : ∀ g, av.ownBlock = some g → ¬ zv.ownBlock = some g
section
variable {w0 ws w' : World} {lv av zv lv' : Value} {Ls As Ls' : List Ed} {Zs Zs' : List Int}
theorem Kn3.start (w : World) : Kn3 w w (.slice none 0 0) (.slice none 0 0) (.slice none 0 0) [] [] [] := ⟨Fx.refl _ _, OwnT.nil _ _, OwnT.nil _ _, World.ownsRow_nil _ _ _ _, (fun g h => by cases h), (fun g h => by cases h), (fun g h => by cases h)⟩
theorem Kn3.no (h : Kn3 w0 ws lv av zv Ls As Zs) (hf : Fx No ws w') : Kn3 w0 w' lv av zv Ls As Zs := ⟨h.fx.trans hf, OwnT.no h.l hf, OwnT.no h.a hf, ownsRow_fx h.z hf fun _ _ q => q, h.la, h.lz, h.az⟩
theorem Kn3.pushL (h : Kn3 w0 ws lv av zv Ls As Zs) (hf : Fx (fun k => lv.ownBlock = some k) ws w') (ho : OwnT 25 e3 3 w' w0.heap.size lv' Ls') (hb : ∀ g, lv'.ownBlock = some g → lv.ownBlock = some g ∨ ws.heap.size ≤ g) : Kn3 w0 w' lv' av zv Ls' As Zs :=
  ⟨h.fx.trans' hf fun j h1 h2 => by have := (OwnT.lt h.l h1).1; omega, ho, OwnT.fx h.a hf fun g e1 e2 => h.la g e2 e1, ownsRow_fx h.z hf fun g e1 e2 => h.lz g e2 e1,
   fun g e1 e2 => (hb g e1).elim (fun q => h.la g q e2) (fun q => by have := (OwnT.lt h.a e2).2; omega), fun g e1 e2 => (hb g e1).elim (fun q => h.lz g q e2) (fun q => by have := (World.ownsRow.lt h.z g e2).2; omega), h.az⟩
theorem Kn3.pushA (h : Kn3 w0 ws lv av zv Ls As Zs) (hf : Fx (fun k => av.ownBlock = some k) ws w') (ho : OwnT 25 e3 3 w' w0.heap.size lv' Ls') (hb : ∀ g, lv'.ownBlock = some g → av.ownBlock = some g ∨ ws.heap.size ≤ g) : Kn3 w0 w' lv lv' zv Ls Ls' Zs :=
  ⟨h.fx.trans' hf fun j h1 h2 => by have := (OwnT.lt h.a h1).1; omega, OwnT.fx h.l hf fun g e1 e2 => h.la g e1 e2, ho, ownsRow_fx h.z hf fun g e1 e2 => h.az g e2 e1,
   fun g e1 e2 => (hb g e2).elim (fun q => h.la g e1 q) (fun q => by have := (OwnT.lt h.l e1).2; omega), h.lz, fun g e1 e2 => (hb g e1).elim (fun q => h.az g q e2) (fun q => by have := (World.ownsRow.lt h.z g e2).2; omega)⟩
theorem Kn3.pushZ (h : Kn3 w0 ws lv av zv Ls As Zs) (hf : Fx (fun k => zv.ownBlock = some k) ws w') (ho : w'.ownsRow w0.heap.size 3 1 lv' Zs'.length (ints Zs')) (hb : ∀ g, lv'.ownBlock = some g → zv.ownBlock = some g ∨ ws.heap.size ≤ g) : Kn3 w0 w' lv av lv' Ls As Zs' :=
  ⟨h.fx.trans' hf fun j h1 h2 => by have := (World.ownsRow.lt h.z j h1).1; omega, OwnT.fx h.l hf fun g e1 e2 => h.lz g e1 e2, OwnT.fx h.a hf fun g e1 e2 => h.az g e1 e2, ho,
   h.la, fun g e1 e2 => (hb g e2).elim (fun q => h.lz g e1 q) (fun q => by have := (OwnT.lt h.l e1).2; omega), fun g e1 e2 => (hb g e2).elim (fun q => h.az g e1 q) (fun q => by have := (OwnT.lt h.a e1).2; omega)⟩
end
theorem lit_atZ {W : World} {k : Nat} (e : TypeId) (cs : Array Value) (size n : Nat) (hk : k = W.heap.size) (h : cs.size = n * size) (hn : n ≤ maxLen) : SlV (W.alloc (.cells cs e)) (fun _ => True) (.slice (some ⟨k, 0, none⟩) n n) size n cs.toList := by
  subst hk
  exact SlV.lit W e cs size n h hn
/-- what the other two laws' contracts say -/
def WalksC : Prop := ∀ (w : World) (E E2 : Nat → Prop) (l wk : List Ed) (v u : Value) (n : Int), EdsV w E v l → (∀ x ∈ l, x.ok) → EdsV w E2 u wk → (∀ x ∈ wk, x.ok) → ∀ pick : Int, Calls Tryz.prog 4 #[.int .i64 n, v, u, .int .i64 pick] w fun e w' => e = .returned (.bool true) ∧ Fx No w w'
def LeastC : Prop := ∀ (w : World) (E E2 : Nat → Prop) (l : List Ed) (zs : List Int) (v u : Value) (n : Int), EdsV w E v l → (∀ x ∈ l, x.ok) → ∀ start : Int, IntsV w E2 u zs → ∀ cut fin : Int, Calls Tryz.prog 6 #[.int .i64 n, v, .int .i64 start, u, .int .i64 cut, .int .i64 fin] w fun e w' => e = .returned (.bool true) ∧ Fx No w w'
theorem ok_small {x : Int} (h0 : 0 ≤ x) (h1 : x ≤ 1000000) : Ok64 x := by unfold Ok64; omega
theorem ed_small {a b c : Nat} (h1 : a ≤ 1000000) (h2 : b ≤ 1000000) (h3 : c ≤ 1000000) : (⟨(a : Int), (b : Int), (c : Int)⟩ : Ed).ok := ⟨ok_small (x := (a : Int)) (by omega) (by omega), ok_small (x := (b : Int)) (by omega) (by omega), ok_small (x := (c : Int)) (by omega) (by omega)⟩
theorem snoc_ok {xs : List Ed} {x : Ed} (h : ∀ y ∈ xs, y.ok) (hx : x.ok) : ∀ y ∈ xs ++ [x], y.ok := fun y hy => by
  rcases List.mem_append.1 hy with q | q
  · exact h y q
  · rw [List.mem_singleton] at q; rw [q]; exact hx
theorem chord_in {w w' : World} {g m cap : Nat} {r0 : Ed} {Rt : List Ed} (h : PartE w 25 g 0 (m + 1) cap (r0 :: Rt)) (h' : PartE w' 25 g 0 (m + 1) cap (r0 :: Rt)) (hroom : m + 1 < cap)
    (hc : w'.cell? ⟨g, 3 + m * 3, none⟩ = some (.int .i64 r0.f) ∧ w'.cell? ⟨g, 3 + m * 3 + 1, none⟩ = some (.int .i64 r0.t) ∧ w'.cell? ⟨g, 3 + m * 3 + 2, none⟩ = some (.int .i64 r0.l) ∧ True) (hok : ∀ y ∈ r0 :: Rt, y.ok) :
    ∃ ys, EdsV w' (fun _ => True) (.slice (some ⟨g, 0, none⟩) (m + 1 + 1) cap) ys ∧ ∀ y ∈ ys, y.ok := by
  refine ⟨r0 :: Rt ++ [r0], ?_, snoc_ok hok (hok r0 (List.mem_cons_self ..))⟩
  obtain ⟨p1, p2, p3, cur, p4, p5, p6⟩ := h'
  have hxl : (icells e3 (r0 :: Rt)).length = (m + 1) * 3 := by rw [icells_length e3_len, p1]
  refine ⟨some ⟨g, 0, none⟩, cap, by rw [List.length_append, p1]; rfl, by rw [List.length_append, p1]; exact hroom, p3, ?_, (fun h => by cases h), .inr ⟨g, 0, rfl, trivial, fun j hj => ?_⟩⟩
  · rw [icells_length e3_len]
  · rw [icells_append, icells_single] at hj ⊢
    have hj' : j < (m + 1) * 3 + 3 := by rw [List.length_append, hxl] at hj; simpa [ints, e3] using hj
    by_cases e : j < (m + 1) * 3
    · rw [cell_of_row _ _ _ _ _ _ p4]
      have hq := p6 j ((icells e3 (r0 :: Rt))[j]'(by omega)) (List.getElem?_eq_getElem (by omega))
      rw [hq, List.getD, List.getElem?_append_left (by omega), List.getElem?_eq_getElem (by omega)]
      rfl
    · obtain ⟨q, rfl⟩ : ∃ q, j = (m + 1) * 3 + q := ⟨j - (m + 1) * 3, by omega⟩
      have hq3 : q < 3 := by omega
      rw [List.getD, List.getElem?_append_right (by omega), hxl, Nat.add_sub_cancel_left, show 0 + ((m + 1) * 3 + q) = 3 + m * 3 + q by omega]
      match q, hq3 with
      | 0, _ => exact hc.1
      | 1, _ => exact hc.2.1
      | 2, _ => exact hc.2.2.1
set_option maxRecDepth 100000 in
set_option maxHeartbeats 16000000 in
theorem known_of (HW : WalksC) (HLs : LeastC) (w : World) : Calls Tryz.prog 3 #[] w fun e w' => e = .returned (.bool true) ∧ Fx No w w' := by
  obtain ⟨iie, hie, hze, hse, hbe⟩ := info_edge'
  obtain ⟨iii, hii, hzi, hsi, hbi⟩ := info_intY
  go_enter Tryz.func3, Tryz.ntmps3
  go_wp2
  go_loopw [1, 2] (fun kk ii ws => ∃ κ i : Nat, kk = .int .i64 κ ∧ κ < 100003 ∧ ii = .int .i64 i ∧ i ≤ 60 ∧ Fx No w ws) (fun _ ii _ => 60 - (intOf ii).toNat)
  case atStart => exact ⟨1, 0, rfl, by omega, rfl, by omega, Fx.refl _ _⟩
  case round =>
    obtain ⟨κ, i, rfl, hκ, rfl, hi60, hf⟩ := hrel
    have HF := Lib.hid hf
    obtain ⟨wa, hwa⟩ : ∃ x, x = wr := ⟨_, rfl⟩
    subst hwa
    clear hf
    by_cases hil : i < 60
    · have di : decide ((i : Int) < 60) = true := decide_eq_true (by omega)
      have HI := Lib.hid hil
      clear hil
      obtain ⟨m17, hm17⟩ : ∃ q, q = i % 17 := ⟨_, rfl⟩
      have a1 : (i : Int).tmod 17 = (m17 : Int) := by rw [hm17]; rfl
      have a2 : (i : Int) % 17 = (m17 : Int) := by omega
      have hm16 : m17 ≤ 16 := by omega
      obtain ⟨i8, hi8⟩ : ∃ q, q = i % 8 := ⟨_, rfl⟩
      have b1 : (i : Int).tmod 8 = (i8 : Int) := by rw [hi8]; rfl
      have b2 : (i : Int) % 8 = (i8 : Int) := by omega
      have hi87 : i8 ≤ 7 := by omega
      clear hm17 hi8
      go_wp2
      go_loopw [1, 3, 4, 5, 6] (fun kk lv av zv nn ws => ∃ (κ n : Nat) (Ls As : List Ed) (Zs : List Int), kk = .int .i64 κ ∧ κ < 100003 ∧ nn = .int .i64 n ∧ n ≤ m17 ∧ Kn3 wa ws lv av zv Ls As Zs ∧ Ls.length = n ∧ As.length ≤ n ∧ Zs.length = n ∧ (∀ x ∈ Ls, x.ok) ∧ ∀ x ∈ As, x.ok) (fun _ _ _ _ nn _ => m17 - (intOf nn).toNat)
      case atStart => exact ⟨κ, 0, _, _, _, rfl, hκ, rfl, Nat.zero_le _, Kn3.start wa, rfl, Nat.le_refl _, rfl, by simp, by simp⟩
      case round =>
        clear hκ
        obtain ⟨κ, n, Ls, As, Zs, rfl, hκ, rfl, hn, hK, hLl, hAl, hZl, hLk, hAk⟩ := hrel
        obtain ⟨wb, hwb⟩ : ∃ x, x = wr := ⟨_, rfl⟩
        subst hwb
        have HK := Lib.hid hK
        have HLl := Lib.hid hLl
        have HAl := Lib.hid hAl
        have HZl := Lib.hid hZl
        have HLk := Lib.hid hLk
        have HAk := Lib.hid hAk
        have hl16 : Ls.length ≤ 16 ∧ As.length ≤ 16 ∧ Zs.length ≤ 16 := by omega
        obtain ⟨hl1, hl2, hl3⟩ := hl16
        have hzb := hK.fx.size
        clear hK hLl hAl hZl hLk hAk
        by_cases hnl : n < m17
        · have dn : decide ((n : Int) < (m17 : Int)) = true := decide_eq_true (by omega)
          have dn2 : decide (n < m17) = true := decide_eq_true hnl
          obtain ⟨x1, hx1⟩ : ∃ q, q = κ % (2 + i8) := ⟨_, rfl⟩
          have c1 : (κ : Int).tmod (2 + (i8 : Int)) = (x1 : Int) := by rw [show (2 : Int) + (i8 : Int) = ((2 + i8 : Nat) : Int) by omega, hx1]; rfl
          have c2 : (κ : Int) % (2 + (i8 : Int)) = (x1 : Int) := by rw [show (2 : Int) + (i8 : Int) = ((2 + i8 : Nat) : Int) by omega, hx1]; rfl
          have hx1l : x1 ≤ 9 := by have := Nat.mod_lt κ (show 0 < 2 + i8 by omega); omega
          obtain ⟨d11, hd11⟩ : ∃ q, q = κ / 11 := ⟨_, rfl⟩
          have e1 : (κ : Int).tdiv 11 = (d11 : Int) := by rw [hd11]; rfl
          have e2 : (κ : Int) / 11 = (d11 : Int) := by omega
          obtain ⟨x2, hx2⟩ : ∃ q, q = d11 % (2 + i8) := ⟨_, rfl⟩
          have f1 : (d11 : Int).tmod (2 + (i8 : Int)) = (x2 : Int) := by rw [show (2 : Int) + (i8 : Int) = ((2 + i8 : Nat) : Int) by omega, hx2]; rfl
          have f2 : (d11 : Int) % (2 + (i8 : Int)) = (x2 : Int) := by rw [show (2 : Int) + (i8 : Int) = ((2 + i8 : Nat) : Int) by omega, hx2]; rfl
          have hx2l : x2 ≤ 9 := by have := Nat.mod_lt d11 (show 0 < 2 + i8 by omega); omega
          obtain ⟨d121, hd121⟩ : ∃ q, q = κ / 121 := ⟨_, rfl⟩
          have g1 : (κ : Int).tdiv 121 = (d121 : Int) := by rw [hd121]; rfl
          have g2 : (κ : Int) / 121 = (d121 : Int) := by omega
          obtain ⟨x3, hx3⟩ : ∃ q, q = d121 % 2 := ⟨_, rfl⟩
          have h1 : (d121 : Int).tmod 2 = (x3 : Int) := by rw [hx3]; rfl
          have h2 : (d121 : Int) % 2 = (x3 : Int) := by omega
          have hx3l : x3 ≤ 1 := by omega
          obtain ⟨κ', hκ'⟩ : ∃ q, q = (κ * 31 + 7 * n + 11) % 100003 := ⟨_, rfl⟩
          have k1 : ((κ : Int) * 31 + 7 * (n : Int) + 11).tmod 100003 = (κ' : Int) := by rw [hκ']; rfl
          have k2 : ((κ : Int) * 31 + 7 * (n : Int) + 11) % 100003 = (κ' : Int) := by omega
          have hκl : κ' < 100003 := by omega
          have hnz : ¬ ((2 : Int) + (i8 : Int) = 0) := by omega
          have hnz2 : ((2 : Int) + (i8 : Int) == 0) = false := by simpa using hnz
          have hd11l : d11 ≤ 100003 := by omega
          have hd121l : d121 ≤ 100003 := by omega
          have HXo := Lib.hid (ed_small (a := x1) (b := x2) (c := x3) (by omega) (by omega) (by omega))
          have HKap := Lib.hid hκ
          have HNl := Lib.hid hnl
          clear hx1 hd11 hx2 hd121 hx3 hκ' hnl
          go_wp2
          go_region
          have HK0 : Hid (Kn3 wa (wb.alloc (.cells #[.int .i64 (x1 : Nat), .int .i64 (x2 : Nat), .int .i64 (x3 : Nat)] 25)).drew u3 u4 u5 Ls As Zs) := Lib.hid (HK.out.no (((Fx.refl No _).alloc _).drew))
          have HE0 : Hid ((wb.alloc (.cells #[.int .i64 (x1 : Nat), .int .i64 (x2 : Nat), .int .i64 (x3 : Nat)] 25)).drew.cell? ⟨wb.heap.size, 0, none⟩ = some (.int .i64 (x1 : Nat)) ∧ (wb.alloc (.cells #[.int .i64 (x1 : Nat), .int .i64 (x2 : Nat), .int .i64 (x3 : Nat)] 25)).drew.cell? ⟨wb.heap.size, 1, none⟩ = some (.int .i64 (x2 : Nat)) ∧ (wb.alloc (.cells #[.int .i64 (x1 : Nat), .int .i64 (x2 : Nat), .int .i64 (x3 : Nat)] 25)).drew.cell? ⟨wb.heap.size, 2, none⟩ = some (.int .i64 (x3 : Nat))) := Lib.hid ⟨(cell_newY rfl).trans rfl, (cell_newY rfl).trans rfl, (cell_newY rfl).trans rfl⟩
          have hnl3 : ¬ u3.ownBlock = some wb.heap.size := fun e => by have := (OwnT.lt HK.out.l e).2; omega
          have hnl4 : ¬ u4.ownBlock = some wb.heap.size := fun e => by have := (OwnT.lt HK.out.a e).2; omega
          go_wp2_with (at_builtin; refine wpList_append_kept rfl _ _ 22 rfl wa.heap.size 25 Tryz.underlying22 hie hze hse hbe rfl (by decide) rfl (World.ownsRow.alloc (HK0.out.l) _) rfl (lit_atZ 25 #[.int .i64 (x1 : Nat), .int .i64 (x2 : Nat), .int .i64 (x3 : Nat)] 3 1 (by simp) rfl (by unfold maxLen; omega)) (ints_one [_, _, _]) (by omega) (by unfold maxLen; omega) (by omega) (by have h9 := hzb; simp at h9 ⊢; omega) ?_)
          intro lv' w1 ho hf _ hb
          have HK1 : Hid (Kn3 wa w1 lv' u4 u5 (Ls ++ [⟨(x1 : Int), (x2 : Int), (x3 : Int)⟩]) As Zs) := Lib.hid ((HK0.out.no ((Fx.refl No _).alloc _)).pushL hf (OwnT.snoc ho) (fun g e => (hb g e).imp_right fun h => by simpa using h))
          have HE1 : Hid (w1.cell? ⟨wb.heap.size, 0, none⟩ = some (.int .i64 (x1 : Nat)) ∧ w1.cell? ⟨wb.heap.size, 1, none⟩ = some (.int .i64 (x2 : Nat)) ∧ w1.cell? ⟨wb.heap.size, 2, none⟩ = some (.int .i64 (x3 : Nat))) := Lib.hid ⟨hf.cell' (((Fx.refl No _).alloc _).cell' HE0.out.1 (fun q => q)) hnl3, hf.cell' (((Fx.refl No _).alloc _).cell' HE0.out.2.1 (fun q => q)) hnl3, hf.cell' (((Fx.refl No _).alloc _).cell' HE0.out.2.2 (fun q => q)) hnl3⟩
          clear ho hf hb c1 c2 e1 e2 f1 f2 g1 g2 h1 h2 b1 b2 hnz hnz2 hnl3
          obtain ⟨q2, hq2⟩ : ∃ q, q = n % 2 := ⟨_, rfl⟩
          have c1 : (n : Int).tmod 2 = (q2 : Int) := by rw [hq2]; rfl
          have c2 : (n : Int) % 2 = (q2 : Int) := by omega
          clear hq2
          by_cases hq0 : q2 = 0
          · have dq : ((q2 : Int) == 0) = true := by simp [hq0]
            obtain ⟨y0, y1, y2⟩ := HE1.out
            go_wp2_with (at_builtin; refine wpList_append_kept rfl _ _ 22 rfl wa.heap.size 25 Tryz.underlying22 hie hze hse hbe rfl (by decide) rfl (World.ownsRow.alloc (HK1.out.a) _) rfl (lit_atZ 25 #[.int .i64 (x1 : Nat), .int .i64 (x2 : Nat), .int .i64 (x3 : Nat)] 3 1 (by simp) rfl (by unfold maxLen; omega)) (ints_one [_, _, _]) (by omega) (by unfold maxLen; omega) (by omega) (by have h9 := HK1.out.fx.size; simp at h9 ⊢; omega) ?_)
            intro av' w2 ho hf _ hb
            have HK2 : Hid (Kn3 wa w2 lv' av' u5 (Ls ++ [⟨(x1 : Int), (x2 : Int), (x3 : Int)⟩]) (As ++ [⟨(x1 : Int), (x2 : Int), (x3 : Int)⟩]) Zs) := Lib.hid ((HK1.out.no ((Fx.refl No _).alloc _)).pushA hf (OwnT.snoc ho) (fun g e => (hb g e).imp_right fun h => by simpa using h))
            clear ho hf hb y0 y1 y2
            go_wp2_with (at_builtin; refine wpList_append_kept rfl _ _ 23 rfl wa.heap.size 3 Tryz.underlying23 hii hzi hsi hbi rfl (by decide) rfl (World.ownsRow.alloc (HK2.out.z) _) rfl (lit_atZ 3 #[.int .i64 (κ : Nat)] 1 1 (by simp) rfl (by unfold maxLen; omega)) (ints_one [_]) (by omega) (by unfold maxLen; omega) (by omega) (by have h9 := HK2.out.fx.size; simp at h9 ⊢; omega) ?_)
            intro zv' w3 ho hf _ hb
            have HK3 : Hid (Kn3 wa w3 _ _ zv' (Ls ++ [⟨(x1 : Int), (x2 : Int), (x3 : Int)⟩]) (As ++ [⟨(x1 : Int), (x2 : Int), (x3 : Int)⟩]) (Zs ++ [(κ : Int)])) := Lib.hid ((HK2.out.no ((Fx.refl No _).alloc _)).pushZ hf (by rw [List.length_append, ints_append]; exact ho) (fun g e => (hb g e).imp_right fun h => by simpa using h))
            clear ho hf hb
            go_wp2
            go_roundw
            case rel => exact ⟨κ', n + 1, _, _, _, by first | rfl | go_num, hκl, by go_num, by have := HNl.out; omega, HK3.out, by have := HLl.out; simp; omega, by have := HAl.out; simp; omega, by have := HZl.out; simp; omega, snoc_ok HLk.out HXo.out, snoc_ok HAk.out HXo.out⟩
            case measure => have := HNl.out; simp [intOf]; omega
          · have dq : ((q2 : Int) == 0) = false := by simpa using hq0
            go_wp2_with (at_builtin; refine wpList_append_kept rfl _ _ 23 rfl wa.heap.size 3 Tryz.underlying23 hii hzi hsi hbi rfl (by decide) rfl (World.ownsRow.alloc (HK1.out.z) _) rfl (lit_atZ 3 #[.int .i64 (κ : Nat)] 1 1 (by simp) rfl (by unfold maxLen; omega)) (ints_one [_]) (by omega) (by unfold maxLen; omega) (by omega) (by have h9 := HK1.out.fx.size; simp at h9 ⊢; omega) ?_)
            intro zv' w3 ho hf _ hb
            have HK3 : Hid (Kn3 wa w3 _ _ zv' (Ls ++ [⟨(x1 : Int), (x2 : Int), (x3 : Int)⟩]) As (Zs ++ [(κ : Int)])) := Lib.hid ((HK1.out.no ((Fx.refl No _).alloc _)).pushZ hf (by rw [List.length_append, ints_append]; exact ho) (fun g e => (hb g e).imp_right fun h => by simpa using h))
            clear ho hf hb
            go_wp2
            go_roundw
            case rel => exact ⟨κ', n + 1, _, _, _, by first | rfl | go_num, hκl, by go_num, by have := HNl.out; omega, HK3.out, by have := HLl.out; simp; omega, by have := HAl.out; simp; omega, by have := HZl.out; simp; omega, snoc_ok HLk.out HXo.out, HAk.out⟩
            case measure => have := HNl.out; simp [intOf]; omega
        · obtain rfl : n = m17 := by omega
          have dn : decide ((n : Int) < (n : Int)) = false := decide_eq_false (by omega)
          have dn2 : decide (n < n) = false := decide_eq_false (by omega)
          obtain ⟨i9, hi9⟩ : ∃ q, q = i % 9 := ⟨_, rfl⟩
          have n1 : (i : Int).tmod 9 = (i9 : Int) := by rw [hi9]; rfl
          have n2 : (i : Int) % 9 = (i9 : Int) := by omega
          obtain ⟨i3, hi3⟩ : ∃ q, q = i % 3 := ⟨_, rfl⟩
          have n3 : (i : Int).tmod 3 = (i3 : Int) := by rw [hi3]; rfl
          have n4 : (i : Int) % 3 = (i3 : Int) := by omega
          obtain ⟨i5, hi5⟩ : ∃ q, q = i % 5 := ⟨_, rfl⟩
          have n5 : (i : Int).tmod 5 = (i5 : Int) := by rw [hi5]; rfl
          have n6 : (i : Int) % 5 = (i5 : Int) := by omega
          obtain ⟨κ5, hκ5⟩ : ∃ q, q = κ % 5 := ⟨_, rfl⟩
          have n7 : (κ : Int).tmod 5 = (κ5 : Int) := by rw [hκ5]; rfl
          have n8 : (κ : Int) % 5 = (κ5 : Int) := by omega
          have HIok : Hid ((⟨(i : Int), 0, 0⟩ : Ed).ok) := Lib.hid (ed_small (a := i) (b := 0) (c := 0) (by omega) (by omega) (by omega))
          have HKap := Lib.hid hκ
          clear hi9 hi3 hi5 hκ5 hnl
          obtain ⟨lo, lc, rfl, _⟩ := EdsV.facts (OwnT.row HK.out.l)
          obtain ⟨ao, ac, rfl, _⟩ := EdsV.facts (OwnT.row HK.out.a)
          obtain ⟨zo, zc, rfl, _⟩ := IntsV.facts (RowI.ofOwn HK.out.z).toInts
          go_wp2_with fail
          refine (HW _ _ _ _ _ _ _ _ (OwnT.row HK.out.l) HLk.out (OwnT.row HK.out.a) HAk.out _).mono ?_
          rintro e v1 ⟨rfl, hf⟩
          have HK1 := Lib.hid (HK.out.no hf)
          clear hf
          go_wp2_with fail
          refine (paths_any _ (OwnT.row HK1.out.l) HLk.out _ _).mono ?_
          rintro e v2 ⟨rfl, hf⟩
          have HK2 := Lib.hid (HK1.out.no hf)
          clear hf
          go_wp2_with fail
          refine (HLs _ _ _ _ _ _ _ _ (OwnT.row HK2.out.l) HLk.out _ (RowI.ofOwn HK2.out.z).toInts _ _).mono ?_
          rintro e v3 ⟨rfl, hf⟩
          have HK3 := Lib.hid (HK2.out.no hf)
          clear hf
          go_wp2_with fail
          refine (none_any ⟨(i : Int), 0, 0⟩ HIok.out _).mono ?_
          rintro e v4 ⟨rfl, hf⟩
          have HF4 := Lib.hid (HF.out.trans (HK3.out.fx.trans hf))
          clear hf
          go_wp2
          go_roundw
          case rel => exact ⟨κ, i + 1, rfl, HKap.out, by go_num, by have := HI.out; omega, HF4.out⟩
          case measure => have := HI.out; simp [intOf]; omega
    · have di : decide ((i : Int) < 60) = false := decide_eq_false (by omega)
      clear hκ hil hi60
      go_wp2
      go_loopw [8] (fun nn ws => ∃ n : Nat, nn = .int .i64 n ∧ 0 < n ∧ n ≤ 11 ∧ Fx No w ws) (fun nn _ => 11 - (intOf nn).toNat)
      case atStart => exact ⟨1, rfl, by omega, by omega, HF.out⟩
      case round =>
        obtain ⟨n, rfl, hn0, hn11, hf⟩ := hrel
        obtain ⟨wo, hwo⟩ : ∃ x, x = wr := ⟨_, rfl⟩
        subst hwo
        have HFo := Lib.hid hf
        clear hf
        by_cases hnl : n < 11
        · have dn : decide ((n : Int) < 11) = true := decide_eq_true (by omega)
          have hnz : ¬ ((n : Int) = 0) := by omega
          have hnz2 : ((n : Int) == 0) = false := by simpa using hnz
          go_wp2
          go_loopw [9, 10] (fun rv jj ws => ∃ (j : Nat) (Rs : List Ed), jj = .int .i64 j ∧ j ≤ n ∧ Fx No wo ws ∧ OwnT 25 e3 3 ws wo.heap.size rv Rs ∧ Rs.length = j ∧ ∀ x ∈ Rs, x.ok) (fun _ jj _ => n - (intOf jj).toNat)
          case atStart => exact ⟨0, [], rfl, Nat.zero_le _, Fx.refl _ _, OwnT.nil _ _, rfl, by simp⟩
          case round =>
            obtain ⟨j, Rs, rfl, hj, hf, ho, hRl, hRk⟩ := hrel
            obtain ⟨wp, hwp⟩ : ∃ x, x = wr := ⟨_, rfl⟩
            subst hwp
            have HFp := Lib.hid hf
            have HO := Lib.hid ho
            have HRl := Lib.hid hRl
            have HRk := Lib.hid hRk
            have hR11 : Rs.length ≤ 11 := by omega
            have hzp := hf.size
            clear hf ho hRl hRk
            by_cases hjl : j < n
            · have dj : decide ((j : Int) < (n : Int)) = true := decide_eq_true (by omega)
              have dj2 : decide (j < n) = true := decide_eq_true hjl
              obtain ⟨r1, hr1⟩ : ∃ q, q = (j + 1) % n := ⟨_, rfl⟩
              have c1 : ((j : Int) + 1).tmod (n : Int) = (r1 : Int) := by rw [hr1]; rfl
              have c2 : ((j : Int) + 1) % (n : Int) = (r1 : Int) := by rw [hr1]; rfl
              have hr1l : r1 ≤ 11 := by have := Nat.mod_lt (j + 1) hn0; omega
              have HXo := Lib.hid (ed_small (a := j) (b := r1) (c := 0) (by omega) (by omega) (by omega))
              clear hr1
              go_wp2_with (at_builtin; refine wpList_append_sl rfl _ _ 22 rfl wo.heap.size 25 Tryz.underlying22 hie hze hse hbe rfl (by decide) rfl (World.ownsRow.alloc HO.out _) rfl (lit_atZ 25 #[.int .i64 (j : Nat), .int .i64 (r1 : Nat), .int .i64 0] 3 1 (by simp) rfl (by unfold maxLen; omega)) (ints_one [_, _, _]) (by unfold maxLen; omega) (by omega) (by simp; omega) ?_)
              intro v2 w2 ho hf _
              have HO2 : Hid (OwnT 25 e3 3 w2 wo.heap.size v2 (Rs ++ [⟨(j : Int), (r1 : Int), 0⟩])) := Lib.hid (OwnT.snoc ho)
              have HF2 : Hid (Fx No wo w2) := Lib.hid ((HFp.out.alloc _).trans' hf fun j h1 h2 => by have := (OwnT.lt HO.out h1).1; omega)
              clear ho hf
              go_wp2
              go_roundw
              case rel => exact ⟨j + 1, _, by go_num, by omega, HF2.out, HO2.out, by have := HRl.out; simp; omega, snoc_ok HRk.out HXo.out⟩
              case measure => simp [intOf]; omega
            · obtain rfl : j = n := by omega
              have dj : decide ((j : Int) < (j : Int)) = false := decide_eq_false (by omega)
              have dj2 : decide (j < j) = false := decide_eq_false (by omega)
              have hO := HO.out
              unfold OwnT at hO
              rw [HRl.out] at hO
              obtain ⟨g, cap, rfl, hgb, hgl⟩ := ownsRow_pos hO hn0
              obtain ⟨m, rfl⟩ : ∃ m, j = m + 1 := ⟨j - 1, by omega⟩
              obtain ⟨r0, Rt, rfl⟩ : ∃ r0 Rt, Rs = r0 :: Rt := by
                cases Rs with
                | nil => have := HRl.out; simp at this
                | cons a b => exact ⟨a, b, rfl⟩
              have HP := Lib.hid (PartE.ofOwn hO HRl.out)
              obtain ⟨h2, hh2⟩ : ∃ q, q = (m + 1) / 2 := ⟨_, rfl⟩
              have q1 : ((m : Int) + 1).tdiv 2 = (h2 : Int) := by rw [hh2]; rfl
              have q2 : ((m : Int) + 1) / 2 = (h2 : Int) := by omega
              obtain ⟨h3, hh3⟩ : ∃ q, q = (m + 1) / 3 := ⟨_, rfl⟩
              have q3 : ((m : Int) + 1).tdiv 3 = (h3 : Int) := by rw [hh3]; rfl
              have q4 : ((m : Int) + 1) / 3 = (h3 : Int) := by omega
              have HXo := Lib.hid (ed_small (a := h2) (b := h3) (c := 1) (by omega) (by omega) (by omega))
              have HPa : Hid (PartE (wp.alloc (.cells #[.int .i64 (h2 : Nat), .int .i64 (h3 : Nat), .int .i64 1] 25)) 25 g 0 (m + 1) cap (r0 :: Rt)) := Lib.hid (HP.out.no ((Fx.refl No _).alloc _))
              have HL : Hid ((wp.alloc (.cells #[.int .i64 (h2 : Nat), .int .i64 (h3 : Nat), .int .i64 1] 25)).cell? ⟨wp.heap.size, 0, none⟩ = some (.int .i64 (h2 : Nat)) ∧ (wp.alloc (.cells #[.int .i64 (h2 : Nat), .int .i64 (h3 : Nat), .int .i64 1] 25)).cell? ((⟨wp.heap.size, 0, none⟩ : Addr).add 1) = some (.int .i64 (h3 : Nat)) ∧ (wp.alloc (.cells #[.int .i64 (h2 : Nat), .int .i64 (h3 : Nat), .int .i64 1] 25)).cell? ((⟨wp.heap.size, 0, none⟩ : Addr).add 2) = some (.int .i64 1)) := Lib.hid ⟨(cell_newY rfl).trans rfl, (cell_newY rfl).trans rfl, (cell_newY rfl).trans rfl⟩
              have hm10 : m ≤ 9 := by omega
              have h1m : (1 : Int) ≤ (m : Int) + 1 := by omega
              clear hh2 hh3 hO hnl hjl hj
              go_wp2_with (at_builtin; refine wpList_append_part rfl _ _ 22 rfl (x := ⟨(h2 : Int), (h3 : Int), 1⟩) Tryz.underlying22 hie hze rfl hse hbe rfl HPa.out (by omega) HL.out.1 HL.out.2.1 HL.out.2.2 rfl rfl ?_)
              intro cv w2 hcv hfg hlow hin hout hpart
              have HFw : Hid (Fx No wo w2) := Lib.hid ((HFp.out.alloc _).trans' hfg fun q e1 e2 => by have e3 : q = g := e1; omega)
              have HPr := Lib.hid (hpart _ _ _ _ HPa.out (by omega))
              have HCk := Lib.hid (snoc_ok HRk.out HXo.out)
              clear HL hlow hpart q1 q2 q3 q4
              by_cases hcap : cap = 1
              · have hm0 : m = 0 := by have := HP.out.nc; omega
                have HOut := Lib.hid (hout (by omega))
                have HM0 := Lib.hid hm0
                clear hm0
                subst hcap
                have HCc : Hid (EdsV w2 (Iv (wp.heap.size + 1) w2.heap.size) cv _) := Lib.hid (by first | exact HOut.out.2 | (have h9 := HOut.out.2; simp only [World.size_alloc] at h9; exact h9))
                go_wp2
                refine wp_region_H (fun W => Fx (fun j => j = g) w2 W) (by kernel_rfl) ((Fx.refl _ _).drew) ?_
                intro hS
                have HPr := Lib.hid (HPr.out.no ((Fx.refl No _).drew))
                have HCc := Lib.hid (RowV.no HCc.out ((Fx.refl No _).drew))
                refine wpAnyH_hold (fun W' => Fx (fun j => j = g) w2 W' ∧ PartE W' 25 g 0 (m + 1) 1 (r0 :: Rt) ∧ EdsV W' (Iv (wp.heap.size + 1) w2.heap.size) cv (r0 :: Rt ++ [⟨(h2 : Int), (h3 : Int), 1⟩])) ⟨hS, HPr.out, HCc.out⟩ ?_
                clear hS
                rintro y0 ⟨hS, hp0, hc0⟩
                have HPr := Lib.hid hp0
                have HCc := Lib.hid hc0
                have hS0 := hS
                clear hp0 hc0
                refine wpAnyH_take (i := 0) (v := ?_) rfl (by kernel_rfl) (by kernel_rfl) (by kernel_rfl) (fun _ _ _ h => h) (Or.inl ⟨by rfl, ?_⟩) hS ?_
                rotate_left
                · (intro W hs; go_simp; first | done | with_reducible rfl)
                try simp only [Act.put, List.getElem_toArray, List.getElem_cons_zero, List.setIfInBounds_toArray, List.set_cons_zero, List.set_cons_succ]
                refine wpAnyH_take (i := 1) (v := ?_) rfl (by kernel_rfl) (by kernel_rfl) (by kernel_rfl) (fun _ _ _ h => h) (Or.inl ⟨by rfl, ?_⟩) hS ?_
                rotate_left
                · (intro W hs; go_simp; first | done | with_reducible rfl)
                try simp only [Act.put, List.getElem_toArray, List.getElem_cons_zero, List.getElem_cons_succ, List.setIfInBounds_toArray, List.set_cons_zero, List.set_cons_succ]
                refine wpAnyH_take (i := 2) (v := ?_) rfl (by kernel_rfl) (by kernel_rfl) (by kernel_rfl) (fun _ _ _ h => h) (Or.inl ⟨by rfl, ?_⟩) hS ?_
                rotate_left
                · (intro W hs; go_simp; first | done | with_reducible rfl)
                try simp only [Act.put, List.getElem_toArray, List.getElem_cons_zero, List.getElem_cons_succ, List.setIfInBounds_toArray, List.set_cons_zero, List.set_cons_succ]
                refine wpAnyH_take (i := 3) (v := ?_) rfl (by kernel_rfl) (by kernel_rfl) (by kernel_rfl) (fun _ _ _ h => h) (Or.inl ⟨by rfl, ?_⟩) hS ?_
                rotate_left
                · (intro W hs; go_simp; first | done | with_reducible rfl)
                try simp only [Act.put, List.getElem_toArray, List.getElem_cons_zero, List.getElem_cons_succ, List.setIfInBounds_toArray, List.set_cons_zero, List.set_cons_succ]
                refine wpH_one (i := 4) (by kernel_rfl) rfl (fun K hK => ?_)
                go_simp
                refine (paths_any _ HPr.out.eds HRk.out _ _).mono ?_
                rintro e y1 ⟨rfl, hfi⟩
                have HPr := Lib.hid (PartE.no HPr.out hfi)
                have HCc := Lib.hid (RowV.no HCc.out hfi)
                have HZy1 : Hid (y0.heap.size ≤ y1.heap.size) := Lib.hid hfi.size
                have HSy1 : Hid (Fx No y0 y1) := Lib.hid hfi
                refine hK.out _ _ (hS.trans' hfi (fun j h1 _ => h1.elim)) (fun hS' => ?_)
                clear hK K hS hfi 
                have hS := hS'
                clear hS'
                try simp only [Act.put, List.getElem_toArray, List.getElem_cons_zero, List.getElem_cons_succ, List.setIfInBounds_toArray, List.set_cons_zero, List.set_cons_succ]
                refine wpAnyH_take (i := 5) (v := ?_) rfl (by kernel_rfl) (by kernel_rfl) (by kernel_rfl) (fun _ _ _ h => h) (Or.inl ⟨by rfl, ?_⟩) hS ?_
                rotate_left
                · (intro W hs; go_simp; first | done | with_reducible rfl)
                try simp only [Act.put, List.getElem_toArray, List.getElem_cons_zero, List.getElem_cons_succ, List.setIfInBounds_toArray, List.set_cons_zero, List.set_cons_succ]
                refine wpAnyH_take (i := 6) (v := ?_) rfl (by kernel_rfl) (by kernel_rfl) (by kernel_rfl) (fun _ _ _ h => h) (Or.inl ⟨by rfl, ?_⟩) hS ?_
                rotate_left
                · (intro W hs; go_simp; first | done | with_reducible rfl)
                try simp only [Act.put, List.getElem_toArray, List.getElem_cons_zero, List.getElem_cons_succ, List.setIfInBounds_toArray, List.set_cons_zero, List.set_cons_succ]
                refine wpAnyH_take (i := 7) (v := ?_) rfl (by kernel_rfl) (by kernel_rfl) (by kernel_rfl) (fun _ _ _ h => h) (Or.inl ⟨by rfl, ?_⟩) hS ?_
                rotate_left
                · (intro W hs; go_simp; first | done | with_reducible rfl)
                try simp only [Act.put, List.getElem_toArray, List.getElem_cons_zero, List.getElem_cons_succ, List.setIfInBounds_toArray, List.set_cons_zero, List.set_cons_succ]
                refine wpAnyH_take (i := 8) (v := ?_) rfl (by kernel_rfl) (by kernel_rfl) (by kernel_rfl) (fun _ _ _ h => h) (Or.inl ⟨by rfl, ?_⟩) hS ?_
                rotate_left
                · (intro W hs; go_simp; first | done | with_reducible rfl)
                try simp only [Act.put, List.getElem_toArray, List.getElem_cons_zero, List.getElem_cons_succ, List.setIfInBounds_toArray, List.set_cons_zero, List.set_cons_succ]
                refine wpAnyH_take (i := 9) (v := ?_) rfl (by kernel_rfl) (by kernel_rfl) (by kernel_rfl) (fun _ _ _ h => h) (Or.inl ⟨by rfl, ?_⟩) hS ?_
                rotate_left
                · (intro W hs; go_simp; first | done | with_reducible rfl)
                try simp only [Act.put, List.getElem_toArray, List.getElem_cons_zero, List.getElem_cons_succ, List.setIfInBounds_toArray, List.set_cons_zero, List.set_cons_succ]
                refine wpAnyH_take (i := 10) (v := ?_) rfl (by kernel_rfl) (by kernel_rfl) (by kernel_rfl) (fun _ _ _ h => h) (Or.inl ⟨by rfl, ?_⟩) hS ?_
                rotate_left
                · (intro W hs; go_simp; first | done | with_reducible rfl)
                try simp only [Act.put, List.getElem_toArray, List.getElem_cons_zero, List.getElem_cons_succ, List.setIfInBounds_toArray, List.set_cons_zero, List.set_cons_succ]
                refine wpH_one (i := 11) (by kernel_rfl) rfl (fun K hK => ?_)
                go_simp
                refine (paths_any _ HCc.out HCk.out _ _).mono ?_
                rintro e y2 ⟨rfl, hfi⟩
                have HPr := Lib.hid (PartE.no HPr.out hfi)
                have HCc := Lib.hid (RowV.no HCc.out hfi)
                have HZy2 : Hid (y1.heap.size ≤ y2.heap.size) := Lib.hid hfi.size
                have HSy2 : Hid (Fx No y1 y2) := Lib.hid hfi
                refine hK.out _ _ (hS.trans' hfi (fun j h1 _ => h1.elim)) (fun hS' => ?_)
                clear hK K hS hfi 
                have hS := hS'
                clear hS'
                try simp only [Act.put, List.getElem_toArray, List.getElem_cons_zero, List.getElem_cons_succ, List.setIfInBounds_toArray, List.set_cons_zero, List.set_cons_succ]
                refine wpAnyH_take (i := 12) (v := ?_) rfl (by kernel_rfl) (by kernel_rfl) (by kernel_rfl) (fun _ _ _ h => h) (Or.inl ⟨by rfl, ?_⟩) hS ?_
                rotate_left
                · (intro W hs; go_simp; first | done | with_reducible rfl)
                try simp only [Act.put, List.getElem_toArray, List.getElem_cons_zero, List.getElem_cons_succ, List.setIfInBounds_toArray, List.set_cons_zero, List.set_cons_succ]
                refine wpAnyH_take (i := 13) (v := ?_) rfl (by kernel_rfl) (by kernel_rfl) (by kernel_rfl) (fun _ _ _ h => h) (Or.inl ⟨by rfl, ?_⟩) hS ?_
                rotate_left
                · (intro W hs; go_simp; first | done | with_reducible rfl)
                try simp only [Act.put, List.getElem_toArray, List.getElem_cons_zero, List.getElem_cons_succ, List.setIfInBounds_toArray, List.set_cons_zero, List.set_cons_succ]
                refine wpAnyH_take (i := 14) (v := ?_) rfl (by kernel_rfl) (by kernel_rfl) (by kernel_rfl) (fun _ _ _ h => h) (Or.inl ⟨by rfl, ?_⟩) hS ?_
                rotate_left
                · (intro W hs; go_simp; first | done | with_reducible rfl)
                try simp only [Act.put, List.getElem_toArray, List.getElem_cons_zero, List.getElem_cons_succ, List.setIfInBounds_toArray, List.set_cons_zero, List.set_cons_succ]
                refine wpAnyH_take (i := 15) (v := ?_) rfl (by kernel_rfl) (by kernel_rfl) (by kernel_rfl) (fun _ _ _ h => h) (Or.inl ⟨by rfl, ?_⟩) hS ?_
                rotate_left
                · (intro W hs; go_simp; first | done | with_reducible rfl)
                try simp only [Act.put, List.getElem_toArray, List.getElem_cons_zero, List.getElem_cons_succ, List.setIfInBounds_toArray, List.set_cons_zero, List.set_cons_succ]
                refine wpAnyH_take (i := 16) (v := ?_) rfl (by kernel_rfl) (by kernel_rfl) (by kernel_rfl) (fun _ _ _ h => h) (Or.inl ⟨by rfl, ?_⟩) hS ?_
                rotate_left
                · (intro W hs; go_simp; first | done | with_reducible rfl)
                try simp only [Act.put, List.getElem_toArray, List.getElem_cons_zero, List.getElem_cons_succ, List.setIfInBounds_toArray, List.set_cons_zero, List.set_cons_succ]
                refine wpAnyH_take (i := 17) (v := ?_) rfl (by kernel_rfl) (by kernel_rfl) (by kernel_rfl) (fun _ _ _ h => h) (Or.inl ⟨by rfl, ?_⟩) hS ?_
                rotate_left
                · (intro W hs; go_simp; first | done | with_reducible rfl)
                try simp only [Act.put, List.getElem_toArray, List.getElem_cons_zero, List.getElem_cons_succ, List.setIfInBounds_toArray, List.set_cons_zero, List.set_cons_succ]
                refine wpH_one (i := 18) (by kernel_rfl) rfl (fun K hK => ?_)
                go_simp
                refine (HW _ _ _ _ _ _ _ _ HPr.out.eds HRk.out HPr.out.eds HRk.out _).mono ?_
                rintro e y3 ⟨rfl, hfi⟩
                have HPr := Lib.hid (PartE.no HPr.out hfi)
                have HCc := Lib.hid (RowV.no HCc.out hfi)
                have HZy3 : Hid (y2.heap.size ≤ y3.heap.size) := Lib.hid hfi.size
                have HSy3 : Hid (Fx No y2 y3) := Lib.hid hfi
                refine hK.out _ _ (hS.trans' hfi (fun j h1 _ => h1.elim)) (fun hS' => ?_)
                clear hK K hS hfi 
                have hS := hS'
                clear hS'
                try simp only [Act.put, List.getElem_toArray, List.getElem_cons_zero, List.getElem_cons_succ, List.setIfInBounds_toArray, List.set_cons_zero, List.set_cons_succ]
                refine wpAnyH_take (i := 19) (v := ?_) rfl (by kernel_rfl) (by kernel_rfl) (by kernel_rfl) (fun _ _ _ h => h) (Or.inl ⟨by rfl, ?_⟩) hS ?_
                rotate_left
                · (intro W hs; go_simp; first | done | with_reducible rfl)
                try simp only [Act.put, List.getElem_toArray, List.getElem_cons_zero, List.getElem_cons_succ, List.setIfInBounds_toArray, List.set_cons_zero, List.set_cons_succ]
                refine wpAnyH_take (i := 20) (v := ?_) rfl (by kernel_rfl) (by kernel_rfl) (by kernel_rfl) (fun _ _ _ h => h) (Or.inl ⟨by rfl, ?_⟩) hS ?_
                rotate_left
                · (intro W hs; go_simp; first | done | with_reducible rfl)
                try simp only [Act.put, List.getElem_toArray, List.getElem_cons_zero, List.getElem_cons_succ, List.setIfInBounds_toArray, List.set_cons_zero, List.set_cons_succ]
                refine wpAnyH_take (i := 21) (v := ?_) rfl (by kernel_rfl) (by kernel_rfl) (by kernel_rfl) (fun _ _ _ h => h) (Or.inl ⟨by rfl, ?_⟩) hS ?_
                rotate_left
                · (intro W hs; go_simp; first | done | with_reducible rfl)
                try simp only [Act.put, List.getElem_toArray, List.getElem_cons_zero, List.getElem_cons_succ, List.setIfInBounds_toArray, List.set_cons_zero, List.set_cons_succ]
                refine wpAnyH_take (i := 22) (v := ?_) rfl (by kernel_rfl) (by kernel_rfl) (by kernel_rfl) (fun _ _ _ h => h) (Or.inl ⟨by rfl, ?_⟩) hS ?_
                rotate_left
                · (intro W hs; go_simp; first | done | with_reducible rfl)
                try simp only [Act.put, List.getElem_toArray, List.getElem_cons_zero, List.getElem_cons_succ, List.setIfInBounds_toArray, List.set_cons_zero, List.set_cons_succ]
                refine wpAnyH_take (i := 23) (v := ?_) rfl (by kernel_rfl) (by kernel_rfl) (by kernel_rfl) (fun _ _ _ h => h) (Or.inl ⟨by rfl, ?_⟩) hS ?_
                rotate_left
                · (intro W hs; go_simp; first | done | with_reducible rfl)
                try simp only [Act.put, List.getElem_toArray, List.getElem_cons_zero, List.getElem_cons_succ, List.setIfInBounds_toArray, List.set_cons_zero, List.set_cons_succ]
                refine wpAnyH_take (i := 24) (v := ?_) rfl (by kernel_rfl) (by kernel_rfl) (by kernel_rfl) (fun _ _ _ h => h) (Or.inl ⟨by rfl, ?_⟩) hS ?_
                rotate_left
                · (intro W hs; go_simp; first | done | with_reducible rfl)
                try simp only [Act.put, List.getElem_toArray, List.getElem_cons_zero, List.getElem_cons_succ, List.setIfInBounds_toArray, List.set_cons_zero, List.set_cons_succ]
                refine wpAnyH_take (i := 26) (v := ?_) rfl (by kernel_rfl) (by kernel_rfl) (by kernel_rfl) (fun _ _ _ h => h) (Or.inl ⟨by rfl, ?_⟩) hS ?_
                rotate_left
                · (intro W hs; go_simp; first | done | with_reducible rfl)
                try simp only [Act.put, List.getElem_toArray, List.getElem_cons_zero, List.getElem_cons_succ, List.setIfInBounds_toArray, List.set_cons_zero, List.set_cons_succ]
                refine wpAnyH_take (i := 25) (v := ?_) rfl (by kernel_rfl) (by kernel_rfl) (by kernel_rfl) (fun _ _ _ h => h) (Or.inl ⟨by rfl, ?_⟩) hS ?_
                rotate_left
                · (intro W hs; go_simp; first | done | with_reducible rfl)
                try simp only [Act.put, List.getElem_toArray, List.getElem_cons_zero, List.getElem_cons_succ, List.setIfInBounds_toArray, List.set_cons_zero, List.set_cons_succ]
                refine wpAnyH_take (i := 27) (v := ?_) rfl (by kernel_rfl) (by kernel_rfl) (by kernel_rfl) (fun _ _ _ h => h) (Or.inl ⟨by rfl, ?_⟩) hS ?_
                rotate_left
                · (intro W hs; go_simp; first | done | with_reducible rfl)
                try simp only [Act.put, List.getElem_toArray, List.getElem_cons_zero, List.getElem_cons_succ, List.setIfInBounds_toArray, List.set_cons_zero, List.set_cons_succ]
                refine wpH_one (i := 28) (by kernel_rfl) rfl (fun K hK => ?_)
                obtain ⟨z0, z1, z2⟩ := HPr.out.first
                go_simp
                refine hK.out _ _ hS (fun hS' => ?_)
                clear hK K hS
                have hS := hS'
                clear hS'
                clear z0 z1 z2
                try simp only [Act.put, List.getElem_toArray, List.getElem_cons_zero, List.getElem_cons_succ, List.setIfInBounds_toArray, List.set_cons_zero, List.set_cons_succ]
                refine wpH_one (i := 29) (by kernel_rfl) rfl (fun K hK => ?_)
                go_simp
                have hfi : Fx No y3 (y3.alloc (.cells #[.int .i64 r0.f, .int .i64 r0.t, .int .i64 r0.l] 25)) := (Fx.refl No _).alloc _
                refine hK.out _ _ (hS.trans' hfi (fun j h1 _ => h1.elim)) (fun hS' => ?_)
                clear hK K hS
                have hS := hS'
                clear hS'
                try simp only [Act.put, List.getElem_toArray, List.getElem_cons_zero, List.getElem_cons_succ, List.setIfInBounds_toArray, List.set_cons_zero, List.set_cons_succ]
                refine wpAnyH_hold (fun W' => Fx No y3 W' ∧ Fx (fun j => j = g) w2 W' ∧ y3.heap.size < W'.heap.size ∧ W'.cell? ⟨y3.heap.size, 0, none⟩ = some (.int .i64 r0.f) ∧ W'.cell? ((⟨y3.heap.size, 0, none⟩ : Addr).add 1) = some (.int .i64 r0.t) ∧ W'.cell? ((⟨y3.heap.size, 0, none⟩ : Addr).add 2) = some (.int .i64 r0.l)) ⟨hfi, hS, by simp, ⟨(cell_newY rfl).trans rfl, (cell_newY rfl).trans rfl, (cell_newY rfl).trans rfl⟩⟩ ?_
                clear hfi hS
                rintro y5 ⟨hfi, hS, hlt, hHLc⟩
                obtain ⟨lb, hlb⟩ : ∃ q, q = y3.heap.size := ⟨_, rfl⟩
                rw [← hlb] at hHLc hlt ⊢
                have HPr := Lib.hid (PartE.no HPr.out hfi)
                have HCc := Lib.hid (RowV.no HCc.out hfi)
                have HLc := Lib.hid hHLc
                have HLlb : Hid (lb < y5.heap.size) := Lib.hid hlt
                have HElb : Hid (lb = y3.heap.size) := Lib.hid hlb
                have HZy5 : Hid (y3.heap.size ≤ y5.heap.size) := Lib.hid hfi.size
                clear hHLc hlt hlb hfi
                refine wpH_one (i := 30) (by kernel_rfl) rfl (fun K hK => ?_)
                have HT := Lib.hid ((by rw [HM0.out]; exact HPr.out.none_ : PartE y5 25 g 0 m 0 []))
                refine step_append_part ?g0 (.tmp 148) (.tmp 152) 22 ?g1 (x := r0) (c := 1) Tryz.underlying22 hie hze rfl hse hbe rfl HT.out (by omega) HLc.out.1 HLc.out.2.1 HLc.out.2.2 ?g2 ?g3 ?_
                case g0 => rfl
                case g1 => rfl
                case g2 => rfl
                case g3 => rfl
                intro av y6 hav hfi hlow2 hin2 hout2 hpart2
                have HAp := Lib.hid hav
                have HApk := Lib.hid (snoc_ok (by simp : ∀ y ∈ ([] : List Ed), y.ok) (HRk.out r0 (List.mem_cons_self ..)))
                have HPr0 := HPr
                have HPr := Lib.hid (HPr0.out.no (hout2 (by have := HM0.out; omega)).1)
                obtain ⟨ys, hys, hyk⟩ : ∃ ys, EdsV y6 (fun _ => True) cv ys ∧ ∀ y ∈ ys, y.ok := ⟨_, RowV.mono (RowV.keep HCc.out hfi (fun j h1 e => by have e1 : j = g := e; have h2 := h1.1; omega)) (fun _ _ => trivial), HCk.out⟩
                have HCc := Lib.hid hys
                have HCk := Lib.hid hyk
                clear hav hlow2 hin2 hout2 hpart2 hys hyk
                refine hK.out _ _ (Fx.trans hS hfi) (fun hS' => ?_)
                clear hK K hS 
                have hS := hS'
                clear hS'
                try simp only [Act.put, List.getElem_toArray, List.getElem_cons_zero, List.getElem_cons_succ, List.setIfInBounds_toArray, List.set_cons_zero, List.set_cons_succ]
                refine wpH_one (i := 31) (by kernel_rfl) rfl (fun K hK => ?_)
                go_simp
                refine (HW _ _ _ _ _ _ _ _ HPr.out.eds HRk.out HAp.out HApk.out _).mono ?_
                rintro e y7 ⟨rfl, hfi⟩
                have HPr := Lib.hid (PartE.no HPr.out hfi)
                have HCc := Lib.hid (RowV.no HCc.out hfi)
                have HAp := Lib.hid (RowV.no HAp.out hfi)
                have HZy7 : Hid (y6.heap.size ≤ y7.heap.size) := Lib.hid hfi.size
                have HSy7 : Hid (Fx No y6 y7) := Lib.hid hfi
                refine hK.out _ _ (hS.trans' hfi (fun j h1 _ => h1.elim)) (fun hS' => ?_)
                clear hK K hS hfi 
                have hS := hS'
                clear hS'
                try simp only [Act.put, List.getElem_toArray, List.getElem_cons_zero, List.getElem_cons_succ, List.setIfInBounds_toArray, List.set_cons_zero, List.set_cons_succ]
                refine wpAnyH_take (i := 32) (v := ?_) rfl (by kernel_rfl) (by kernel_rfl) (by kernel_rfl) (fun _ _ _ h => h) (Or.inl ⟨by rfl, ?_⟩) hS ?_
                rotate_left
                · (intro W hs; go_simp; first | done | with_reducible rfl)
                try simp only [Act.put, List.getElem_toArray, List.getElem_cons_zero, List.getElem_cons_succ, List.setIfInBounds_toArray, List.set_cons_zero, List.set_cons_succ]
                refine wpAnyH_take (i := 33) (v := ?_) rfl (by kernel_rfl) (by kernel_rfl) (by kernel_rfl) (fun _ _ _ h => h) (Or.inl ⟨by rfl, ?_⟩) hS ?_
                rotate_left
                · (intro W hs; go_simp; first | done | with_reducible rfl)
                try simp only [Act.put, List.getElem_toArray, List.getElem_cons_zero, List.getElem_cons_succ, List.setIfInBounds_toArray, List.set_cons_zero, List.set_cons_succ]
                refine wpAnyH_take (i := 34) (v := ?_) rfl (by kernel_rfl) (by kernel_rfl) (by kernel_rfl) (fun _ _ _ h => h) (Or.inl ⟨by rfl, ?_⟩) hS ?_
                rotate_left
                · (intro W hs; go_simp; first | done | with_reducible rfl)
                try simp only [Act.put, List.getElem_toArray, List.getElem_cons_zero, List.getElem_cons_succ, List.setIfInBounds_toArray, List.set_cons_zero, List.set_cons_succ]
                refine wpAnyH_take (i := 35) (v := ?_) rfl (by kernel_rfl) (by kernel_rfl) (by kernel_rfl) (fun _ _ _ h => h) (Or.inl ⟨by rfl, ?_⟩) hS ?_
                rotate_left
                · (intro W hs; go_simp; first | done | with_reducible rfl)
                try simp only [Act.put, List.getElem_toArray, List.getElem_cons_zero, List.getElem_cons_succ, List.setIfInBounds_toArray, List.set_cons_zero, List.set_cons_succ]
                refine wpAnyH_take (i := 36) (v := ?_) rfl (by kernel_rfl) (by kernel_rfl) (by kernel_rfl) (fun _ _ _ h => h) (Or.inl ⟨by rfl, ?_⟩) hS ?_
                rotate_left
                · (intro W hs; go_simp; first | done | with_reducible rfl)
                try simp only [Act.put, List.getElem_toArray, List.getElem_cons_zero, List.getElem_cons_succ, List.setIfInBounds_toArray, List.set_cons_zero, List.set_cons_succ]
                refine wpAnyH_take (i := 37) (v := ?_) rfl (by kernel_rfl) (by kernel_rfl) (by kernel_rfl) (fun _ _ _ h => h) (Or.inl ⟨by rfl, ?_⟩) hS ?_
                rotate_left
                · (intro W hs; go_simp; first | done | with_reducible rfl)
                try simp only [Act.put, List.getElem_toArray, List.getElem_cons_zero, List.getElem_cons_succ, List.setIfInBounds_toArray, List.set_cons_zero, List.set_cons_succ]
                refine wpAnyH_take (i := 39) (v := ?_) rfl (by kernel_rfl) (by kernel_rfl) (by kernel_rfl) (fun _ _ _ h => h) (Or.inl ⟨by rfl, ?_⟩) hS ?_
                rotate_left
                · (intro W hs; go_simp; first | done | with_reducible rfl)
                try simp only [Act.put, List.getElem_toArray, List.getElem_cons_zero, List.getElem_cons_succ, List.setIfInBounds_toArray, List.set_cons_zero, List.set_cons_succ]
                refine wpH_one (i := 38) (by kernel_rfl) rfl (fun K hK => ?_)
                go_simp
                have hfi : Fx No y7 (y7.alloc (.cells #[.int .i64 0, .int .i64 1, .int .i64 0, .int .i64 1, .int .i64 0, .int .i64 0, .int .i64 0, .int .i64 1, .int .i64 1, .int .i64 1, .int .i64 0, .int .i64 0] 3)) := (Fx.refl No _).alloc _
                refine hK.out _ _ (hS.trans' hfi (fun j h1 _ => h1.elim)) (fun hS' => ?_)
                clear hK K hS
                have hS := hS'
                clear hS'
                try simp only [Act.put, List.getElem_toArray, List.getElem_cons_zero, List.getElem_cons_succ, List.setIfInBounds_toArray, List.set_cons_zero, List.set_cons_succ]
                refine wpAnyH_hold (fun W' => Fx No y7 W' ∧ Fx (fun j => j = g) w2 W' ∧ y7.heap.size < W'.heap.size ∧ IntsV W' (fun _ => True) (.slice (some ⟨y7.heap.size, 0, none⟩) 12 12) [0, 1, 0, 1, 0, 0, 0, 1, 1, 1, 0, 0]) ⟨hfi, hS, by simp, SlV.lit y7 3 #[.int .i64 0, .int .i64 1, .int .i64 0, .int .i64 1, .int .i64 0, .int .i64 0, .int .i64 0, .int .i64 1, .int .i64 1, .int .i64 1, .int .i64 0, .int .i64 0] 1 12 rfl (by unfold maxLen; omega)⟩ ?_
                clear hfi hS
                rintro y8 ⟨hfi, hS, hlt, hHLz⟩
                obtain ⟨lz, hlz⟩ : ∃ q, q = y7.heap.size := ⟨_, rfl⟩
                rw [← hlz] at hHLz hlt ⊢
                have HPr := Lib.hid (PartE.no HPr.out hfi)
                have HCc := Lib.hid (RowV.no HCc.out hfi)
                have HAp := Lib.hid (RowV.no HAp.out hfi)
                have HLz := Lib.hid hHLz
                have HLlz : Hid (lz < y8.heap.size) := Lib.hid hlt
                have HElz : Hid (lz = y7.heap.size) := Lib.hid hlz
                have HZy8 : Hid (y7.heap.size ≤ y8.heap.size) := Lib.hid hfi.size
                clear hHLz hlt hlz hfi
                refine wpH_one (i := 40) (by kernel_rfl) rfl (fun K hK => ?_)
                go_simp
                refine (HLs _ _ _ _ _ _ _ _ HCc.out HCk.out _ HLz.out _ _).mono ?_
                rintro e y9 ⟨rfl, hfi⟩
                have HPr := Lib.hid (PartE.no HPr.out hfi)
                have HCc := Lib.hid (RowV.no HCc.out hfi)
                have HAp := Lib.hid (RowV.no HAp.out hfi)
                have HLz := Lib.hid (IntsV.no HLz.out hfi)
                have HZy9 : Hid (y8.heap.size ≤ y9.heap.size) := Lib.hid hfi.size
                have HSy9 : Hid (Fx No y8 y9) := Lib.hid hfi
                refine hK.out _ _ (hS.trans' hfi (fun j h1 _ => h1.elim)) (fun hS' => ?_)
                clear hK K hS hfi 
                have hS := hS'
                clear hS'
                try simp only [Act.put, List.getElem_toArray, List.getElem_cons_zero, List.getElem_cons_succ, List.setIfInBounds_toArray, List.set_cons_zero, List.set_cons_succ]
                refine wpAnyH_take (i := 41) (v := ?_) rfl (by kernel_rfl) (by kernel_rfl) (by kernel_rfl) (fun _ _ _ h => h) (Or.inl ⟨by rfl, ?_⟩) hS ?_
                rotate_left
                · (intro W hs; go_simp; first | done | with_reducible rfl)
                try simp only [Act.put, List.getElem_toArray, List.getElem_cons_zero, List.getElem_cons_succ, List.setIfInBounds_toArray, List.set_cons_zero, List.set_cons_succ]
                refine wpAnyH_take (i := 42) (v := ?_) rfl (by kernel_rfl) (by kernel_rfl) (by kernel_rfl) (fun _ _ _ h => h) (Or.inl ⟨by rfl, ?_⟩) hS ?_
                rotate_left
                · (intro W hs; go_simp; first | done | with_reducible rfl)
                try simp only [Act.put, List.getElem_toArray, List.getElem_cons_zero, List.getElem_cons_succ, List.setIfInBounds_toArray, List.set_cons_zero, List.set_cons_succ]
                refine wpAnyH_done (by kernel_rfl) ?_ _
                have HZ : Hid (Fx No wo y9) := Lib.hid (HFw.out.trans' hS fun q e1 e2 => by have e3 : q = g := e1; omega)
                clear hS hS0
                go_wp2
                go_roundw
                case rel => exact ⟨(m + 1) + 1, by go_num, by omega, by omega, HFo.out.trans HZ.out⟩
                case measure => simp [intOf]; omega
              · by_cases hroom : m + 1 < cap
                · have HIn := Lib.hid (hin hroom)
                  obtain ⟨_, _, _, hcv2⟩ := HIn.out
                  subst hcv2
                  have HCc := Lib.hid hcv
                  go_wp2
                  refine wp_region_H (fun W => Fx (fun j => j = g) w2 W) (by kernel_rfl) ((Fx.refl _ _).drew) ?_
                  intro hS
                  have HPr := Lib.hid (HPr.out.no ((Fx.refl No _).drew))
                  have HCc := Lib.hid (RowV.no HCc.out ((Fx.refl No _).drew))
                  refine wpAnyH_hold (fun W' => Fx (fun j => j = g) w2 W' ∧ PartE W' 25 g 0 (m + 1) cap (r0 :: Rt) ∧ EdsV W' (fun _ => True) (.slice (some ⟨g, 0, none⟩) (m + 1 + 1) cap) (r0 :: Rt ++ [⟨(h2 : Int), (h3 : Int), 1⟩])) ⟨hS, HPr.out, HCc.out⟩ ?_
                  clear hS
                  rintro y0 ⟨hS, hp0, hc0⟩
                  have HPr := Lib.hid hp0
                  have HCc := Lib.hid hc0
                  have hS0 := hS
                  clear hp0 hc0
                  refine wpAnyH_take (i := 0) (v := ?_) rfl (by kernel_rfl) (by kernel_rfl) (by kernel_rfl) (fun _ _ _ h => h) (Or.inl ⟨by rfl, ?_⟩) hS ?_
                  rotate_left
                  · (intro W hs; go_simp; first | done | with_reducible rfl)
                  try simp only [Act.put, List.getElem_toArray, List.getElem_cons_zero, List.setIfInBounds_toArray, List.set_cons_zero, List.set_cons_succ]
                  refine wpAnyH_take (i := 1) (v := ?_) rfl (by kernel_rfl) (by kernel_rfl) (by kernel_rfl) (fun _ _ _ h => h) (Or.inl ⟨by rfl, ?_⟩) hS ?_
                  rotate_left
                  · (intro W hs; go_simp; first | done | with_reducible rfl)
                  try simp only [Act.put, List.getElem_toArray, List.getElem_cons_zero, List.getElem_cons_succ, List.setIfInBounds_toArray, List.set_cons_zero, List.set_cons_succ]
                  refine wpAnyH_take (i := 2) (v := ?_) rfl (by kernel_rfl) (by kernel_rfl) (by kernel_rfl) (fun _ _ _ h => h) (Or.inl ⟨by rfl, ?_⟩) hS ?_
                  rotate_left
                  · (intro W hs; go_simp; first | done | with_reducible rfl)
                  try simp only [Act.put, List.getElem_toArray, List.getElem_cons_zero, List.getElem_cons_succ, List.setIfInBounds_toArray, List.set_cons_zero, List.set_cons_succ]
                  refine wpAnyH_take (i := 3) (v := ?_) rfl (by kernel_rfl) (by kernel_rfl) (by kernel_rfl) (fun _ _ _ h => h) (Or.inl ⟨by rfl, ?_⟩) hS ?_
                  rotate_left
                  · (intro W hs; go_simp; first | done | with_reducible rfl)
                  try simp only [Act.put, List.getElem_toArray, List.getElem_cons_zero, List.getElem_cons_succ, List.setIfInBounds_toArray, List.set_cons_zero, List.set_cons_succ]
                  refine wpH_one (i := 4) (by kernel_rfl) rfl (fun K hK => ?_)
                  go_simp
                  refine (paths_any _ HPr.out.eds HRk.out _ _).mono ?_
                  rintro e y1 ⟨rfl, hfi⟩
                  have HPr := Lib.hid (PartE.no HPr.out hfi)
                  have HCc := Lib.hid (RowV.no HCc.out hfi)
                  have HZy1 : Hid (y0.heap.size ≤ y1.heap.size) := Lib.hid hfi.size
                  have HSy1 : Hid (Fx No y0 y1) := Lib.hid hfi
                  refine hK.out _ _ (hS.trans' hfi (fun j h1 _ => h1.elim)) (fun hS' => ?_)
                  clear hK K hS hfi 
                  have hS := hS'
                  clear hS'
                  try simp only [Act.put, List.getElem_toArray, List.getElem_cons_zero, List.getElem_cons_succ, List.setIfInBounds_toArray, List.set_cons_zero, List.set_cons_succ]
                  refine wpAnyH_take (i := 5) (v := ?_) rfl (by kernel_rfl) (by kernel_rfl) (by kernel_rfl) (fun _ _ _ h => h) (Or.inl ⟨by rfl, ?_⟩) hS ?_
                  rotate_left
                  · (intro W hs; go_simp; first | done | with_reducible rfl)
                  try simp only [Act.put, List.getElem_toArray, List.getElem_cons_zero, List.getElem_cons_succ, List.setIfInBounds_toArray, List.set_cons_zero, List.set_cons_succ]
                  refine wpAnyH_take (i := 6) (v := ?_) rfl (by kernel_rfl) (by kernel_rfl) (by kernel_rfl) (fun _ _ _ h => h) (Or.inl ⟨by rfl, ?_⟩) hS ?_
                  rotate_left
                  · (intro W hs; go_simp; first | done | with_reducible rfl)
                  try simp only [Act.put, List.getElem_toArray, List.getElem_cons_zero, List.getElem_cons_succ, List.setIfInBounds_toArray, List.set_cons_zero, List.set_cons_succ]
                  refine wpAnyH_take (i := 7) (v := ?_) rfl (by kernel_rfl) (by kernel_rfl) (by kernel_rfl) (fun _ _ _ h => h) (Or.inl ⟨by rfl, ?_⟩) hS ?_
                  rotate_left
                  · (intro W hs; go_simp; first | done | with_reducible rfl)
                  try simp only [Act.put, List.getElem_toArray, List.getElem_cons_zero, List.getElem_cons_succ, List.setIfInBounds_toArray, List.set_cons_zero, List.set_cons_succ]
                  refine wpAnyH_take (i := 8) (v := ?_) rfl (by kernel_rfl) (by kernel_rfl) (by kernel_rfl) (fun _ _ _ h => h) (Or.inl ⟨by rfl, ?_⟩) hS ?_
                  rotate_left
                  · (intro W hs; go_simp; first | done | with_reducible rfl)
                  try simp only [Act.put, List.getElem_toArray, List.getElem_cons_zero, List.getElem_cons_succ, List.setIfInBounds_toArray, List.set_cons_zero, List.set_cons_succ]
                  refine wpAnyH_take (i := 9) (v := ?_) rfl (by kernel_rfl) (by kernel_rfl) (by kernel_rfl) (fun _ _ _ h => h) (Or.inl ⟨by rfl, ?_⟩) hS ?_
                  rotate_left
                  · (intro W hs; go_simp; first | done | with_reducible rfl)
                  try simp only [Act.put, List.getElem_toArray, List.getElem_cons_zero, List.getElem_cons_succ, List.setIfInBounds_toArray, List.set_cons_zero, List.set_cons_succ]
                  refine wpAnyH_take (i := 10) (v := ?_) rfl (by kernel_rfl) (by kernel_rfl) (by kernel_rfl) (fun _ _ _ h => h) (Or.inl ⟨by rfl, ?_⟩) hS ?_
                  rotate_left
                  · (intro W hs; go_simp; first | done | with_reducible rfl)
                  try simp only [Act.put, List.getElem_toArray, List.getElem_cons_zero, List.getElem_cons_succ, List.setIfInBounds_toArray, List.set_cons_zero, List.set_cons_succ]
                  refine wpH_one (i := 11) (by kernel_rfl) rfl (fun K hK => ?_)
                  go_simp
                  refine (paths_any _ HCc.out HCk.out _ _).mono ?_
                  rintro e y2 ⟨rfl, hfi⟩
                  have HPr := Lib.hid (PartE.no HPr.out hfi)
                  have HCc := Lib.hid (RowV.no HCc.out hfi)
                  have HZy2 : Hid (y1.heap.size ≤ y2.heap.size) := Lib.hid hfi.size
                  have HSy2 : Hid (Fx No y1 y2) := Lib.hid hfi
                  refine hK.out _ _ (hS.trans' hfi (fun j h1 _ => h1.elim)) (fun hS' => ?_)
                  clear hK K hS hfi 
                  have hS := hS'
                  clear hS'
                  try simp only [Act.put, List.getElem_toArray, List.getElem_cons_zero, List.getElem_cons_succ, List.setIfInBounds_toArray, List.set_cons_zero, List.set_cons_succ]
                  refine wpAnyH_take (i := 12) (v := ?_) rfl (by kernel_rfl) (by kernel_rfl) (by kernel_rfl) (fun _ _ _ h => h) (Or.inl ⟨by rfl, ?_⟩) hS ?_
                  rotate_left
                  · (intro W hs; go_simp; first | done | with_reducible rfl)
                  try simp only [Act.put, List.getElem_toArray, List.getElem_cons_zero, List.getElem_cons_succ, List.setIfInBounds_toArray, List.set_cons_zero, List.set_cons_succ]
                  refine wpAnyH_take (i := 13) (v := ?_) rfl (by kernel_rfl) (by kernel_rfl) (by kernel_rfl) (fun _ _ _ h => h) (Or.inl ⟨by rfl, ?_⟩) hS ?_
                  rotate_left
                  · (intro W hs; go_simp; first | done | with_reducible rfl)
                  try simp only [Act.put, List.getElem_toArray, List.getElem_cons_zero, List.getElem_cons_succ, List.setIfInBounds_toArray, List.set_cons_zero, List.set_cons_succ]
                  refine wpAnyH_take (i := 14) (v := ?_) rfl (by kernel_rfl) (by kernel_rfl) (by kernel_rfl) (fun _ _ _ h => h) (Or.inl ⟨by rfl, ?_⟩) hS ?_
                  rotate_left
                  · (intro W hs; go_simp; first | done | with_reducible rfl)
                  try simp only [Act.put, List.getElem_toArray, List.getElem_cons_zero, List.getElem_cons_succ, List.setIfInBounds_toArray, List.set_cons_zero, List.set_cons_succ]
                  refine wpAnyH_take (i := 15) (v := ?_) rfl (by kernel_rfl) (by kernel_rfl) (by kernel_rfl) (fun _ _ _ h => h) (Or.inl ⟨by rfl, ?_⟩) hS ?_
                  rotate_left
                  · (intro W hs; go_simp; first | done | with_reducible rfl)
                  try simp only [Act.put, List.getElem_toArray, List.getElem_cons_zero, List.getElem_cons_succ, List.setIfInBounds_toArray, List.set_cons_zero, List.set_cons_succ]
                  refine wpAnyH_take (i := 16) (v := ?_) rfl (by kernel_rfl) (by kernel_rfl) (by kernel_rfl) (fun _ _ _ h => h) (Or.inl ⟨by rfl, ?_⟩) hS ?_
                  rotate_left
                  · (intro W hs; go_simp; first | done | with_reducible rfl)
                  try simp only [Act.put, List.getElem_toArray, List.getElem_cons_zero, List.getElem_cons_succ, List.setIfInBounds_toArray, List.set_cons_zero, List.set_cons_succ]
                  refine wpAnyH_take (i := 17) (v := ?_) rfl (by kernel_rfl) (by kernel_rfl) (by kernel_rfl) (fun _ _ _ h => h) (Or.inl ⟨by rfl, ?_⟩) hS ?_
                  rotate_left
                  · (intro W hs; go_simp; first | done | with_reducible rfl)
                  try simp only [Act.put, List.getElem_toArray, List.getElem_cons_zero, List.getElem_cons_succ, List.setIfInBounds_toArray, List.set_cons_zero, List.set_cons_succ]
                  refine wpH_one (i := 18) (by kernel_rfl) rfl (fun K hK => ?_)
                  go_simp
                  refine (HW _ _ _ _ _ _ _ _ HPr.out.eds HRk.out HPr.out.eds HRk.out _).mono ?_
                  rintro e y3 ⟨rfl, hfi⟩
                  have HPr := Lib.hid (PartE.no HPr.out hfi)
                  have HCc := Lib.hid (RowV.no HCc.out hfi)
                  have HZy3 : Hid (y2.heap.size ≤ y3.heap.size) := Lib.hid hfi.size
                  have HSy3 : Hid (Fx No y2 y3) := Lib.hid hfi
                  refine hK.out _ _ (hS.trans' hfi (fun j h1 _ => h1.elim)) (fun hS' => ?_)
                  clear hK K hS hfi 
                  have hS := hS'
                  clear hS'
                  try simp only [Act.put, List.getElem_toArray, List.getElem_cons_zero, List.getElem_cons_succ, List.setIfInBounds_toArray, List.set_cons_zero, List.set_cons_succ]
                  refine wpAnyH_take (i := 19) (v := ?_) rfl (by kernel_rfl) (by kernel_rfl) (by kernel_rfl) (fun _ _ _ h => h) (Or.inl ⟨by rfl, ?_⟩) hS ?_
                  rotate_left
                  · (intro W hs; go_simp; first | done | with_reducible rfl)
                  try simp only [Act.put, List.getElem_toArray, List.getElem_cons_zero, List.getElem_cons_succ, List.setIfInBounds_toArray, List.set_cons_zero, List.set_cons_succ]
                  refine wpAnyH_take (i := 20) (v := ?_) rfl (by kernel_rfl) (by kernel_rfl) (by kernel_rfl) (fun _ _ _ h => h) (Or.inl ⟨by rfl, ?_⟩) hS ?_
                  rotate_left
                  · (intro W hs; go_simp; first | done | with_reducible rfl)
                  try simp only [Act.put, List.getElem_toArray, List.getElem_cons_zero, List.getElem_cons_succ, List.setIfInBounds_toArray, List.set_cons_zero, List.set_cons_succ]
                  refine wpAnyH_take (i := 21) (v := ?_) rfl (by kernel_rfl) (by kernel_rfl) (by kernel_rfl) (fun _ _ _ h => h) (Or.inl ⟨by rfl, ?_⟩) hS ?_
                  rotate_left
                  · (intro W hs; go_simp; first | done | with_reducible rfl)
                  try simp only [Act.put, List.getElem_toArray, List.getElem_cons_zero, List.getElem_cons_succ, List.setIfInBounds_toArray, List.set_cons_zero, List.set_cons_succ]
                  refine wpAnyH_take (i := 22) (v := ?_) rfl (by kernel_rfl) (by kernel_rfl) (by kernel_rfl) (fun _ _ _ h => h) (Or.inl ⟨by rfl, ?_⟩) hS ?_
                  rotate_left
                  · (intro W hs; go_simp; first | done | with_reducible rfl)
                  try simp only [Act.put, List.getElem_toArray, List.getElem_cons_zero, List.getElem_cons_succ, List.setIfInBounds_toArray, List.set_cons_zero, List.set_cons_succ]
                  refine wpAnyH_take (i := 23) (v := ?_) rfl (by kernel_rfl) (by kernel_rfl) (by kernel_rfl) (fun _ _ _ h => h) (Or.inl ⟨by rfl, ?_⟩) hS ?_
                  rotate_left
                  · (intro W hs; go_simp; first | done | with_reducible rfl)
                  try simp only [Act.put, List.getElem_toArray, List.getElem_cons_zero, List.getElem_cons_succ, List.setIfInBounds_toArray, List.set_cons_zero, List.set_cons_succ]
                  refine wpAnyH_take (i := 24) (v := ?_) rfl (by kernel_rfl) (by kernel_rfl) (by kernel_rfl) (fun _ _ _ h => h) (Or.inl ⟨by rfl, ?_⟩) hS ?_
                  rotate_left
                  · (intro W hs; go_simp; first | done | with_reducible rfl)
                  try simp only [Act.put, List.getElem_toArray, List.getElem_cons_zero, List.getElem_cons_succ, List.setIfInBounds_toArray, List.set_cons_zero, List.set_cons_succ]
                  refine wpAnyH_take (i := 26) (v := ?_) rfl (by kernel_rfl) (by kernel_rfl) (by kernel_rfl) (fun _ _ _ h => h) (Or.inl ⟨by rfl, ?_⟩) hS ?_
                  rotate_left
                  · (intro W hs; go_simp; first | done | with_reducible rfl)
                  try simp only [Act.put, List.getElem_toArray, List.getElem_cons_zero, List.getElem_cons_succ, List.setIfInBounds_toArray, List.set_cons_zero, List.set_cons_succ]
                  refine wpAnyH_take (i := 25) (v := ?_) rfl (by kernel_rfl) (by kernel_rfl) (by kernel_rfl) (fun _ _ _ h => h) (Or.inl ⟨by rfl, ?_⟩) hS ?_
                  rotate_left
                  · (intro W hs; go_simp; first | done | with_reducible rfl)
                  try simp only [Act.put, List.getElem_toArray, List.getElem_cons_zero, List.getElem_cons_succ, List.setIfInBounds_toArray, List.set_cons_zero, List.set_cons_succ]
                  refine wpAnyH_take (i := 27) (v := ?_) rfl (by kernel_rfl) (by kernel_rfl) (by kernel_rfl) (fun _ _ _ h => h) (Or.inl ⟨by rfl, ?_⟩) hS ?_
                  rotate_left
                  · (intro W hs; go_simp; first | done | with_reducible rfl)
                  try simp only [Act.put, List.getElem_toArray, List.getElem_cons_zero, List.getElem_cons_succ, List.setIfInBounds_toArray, List.set_cons_zero, List.set_cons_succ]
                  refine wpH_one (i := 28) (by kernel_rfl) rfl (fun K hK => ?_)
                  obtain ⟨z0, z1, z2⟩ := HPr.out.first
                  go_simp
                  refine hK.out _ _ hS (fun hS' => ?_)
                  clear hK K hS
                  have hS := hS'
                  clear hS'
                  clear z0 z1 z2
                  try simp only [Act.put, List.getElem_toArray, List.getElem_cons_zero, List.getElem_cons_succ, List.setIfInBounds_toArray, List.set_cons_zero, List.set_cons_succ]
                  refine wpH_one (i := 29) (by kernel_rfl) rfl (fun K hK => ?_)
                  go_simp
                  have hfi : Fx No y3 (y3.alloc (.cells #[.int .i64 r0.f, .int .i64 r0.t, .int .i64 r0.l] 25)) := (Fx.refl No _).alloc _
                  refine hK.out _ _ (hS.trans' hfi (fun j h1 _ => h1.elim)) (fun hS' => ?_)
                  clear hK K hS
                  have hS := hS'
                  clear hS'
                  try simp only [Act.put, List.getElem_toArray, List.getElem_cons_zero, List.getElem_cons_succ, List.setIfInBounds_toArray, List.set_cons_zero, List.set_cons_succ]
                  refine wpAnyH_hold (fun W' => Fx No y3 W' ∧ Fx (fun j => j = g) w2 W' ∧ y3.heap.size < W'.heap.size ∧ W'.cell? ⟨y3.heap.size, 0, none⟩ = some (.int .i64 r0.f) ∧ W'.cell? ((⟨y3.heap.size, 0, none⟩ : Addr).add 1) = some (.int .i64 r0.t) ∧ W'.cell? ((⟨y3.heap.size, 0, none⟩ : Addr).add 2) = some (.int .i64 r0.l)) ⟨hfi, hS, by simp, ⟨(cell_newY rfl).trans rfl, (cell_newY rfl).trans rfl, (cell_newY rfl).trans rfl⟩⟩ ?_
                  clear hfi hS
                  rintro y5 ⟨hfi, hS, hlt, hHLc⟩
                  obtain ⟨lb, hlb⟩ : ∃ q, q = y3.heap.size := ⟨_, rfl⟩
                  rw [← hlb] at hHLc hlt ⊢
                  have HPr := Lib.hid (PartE.no HPr.out hfi)
                  have HCc := Lib.hid (RowV.no HCc.out hfi)
                  have HLc := Lib.hid hHLc
                  have HLlb : Hid (lb < y5.heap.size) := Lib.hid hlt
                  have HElb : Hid (lb = y3.heap.size) := Lib.hid hlb
                  have HZy5 : Hid (y3.heap.size ≤ y5.heap.size) := Lib.hid hfi.size
                  clear hHLc hlt hlb hfi
                  refine wpH_one (i := 30) (by kernel_rfl) rfl (fun K hK => ?_)
                  have HT := Lib.hid (HPr.out.tail)
                  refine step_append_part ?g0 (.tmp 148) (.tmp 152) 22 ?g1 (x := r0) (c := 1) Tryz.underlying22 hie hze rfl hse hbe rfl HT.out (by omega) HLc.out.1 HLc.out.2.1 HLc.out.2.2 ?g2 ?g3 ?_
                  case g0 => rfl
                  case g1 => rfl
                  case g2 => rfl
                  case g3 => rfl
                  intro av y6 hav hfi hlow2 hin2 hout2 hpart2
                  have HAp := Lib.hid hav
                  have HApk := Lib.hid (snoc_ok (fun y hy => HRk.out y (List.mem_cons_of_mem _ hy)) (HRk.out r0 (List.mem_cons_self ..)))
                  have HPr0 := HPr
                  have HPr := Lib.hid (hpart2 _ _ _ _ HPr0.out (by omega))
                  obtain ⟨ys, hys, hyk⟩ : ∃ ys, EdsV y6 (fun _ => True) (.slice (some ⟨g, 0, none⟩) (m + 1 + 1) cap) ys ∧ ∀ y ∈ ys, y.ok := chord_in HPr0.out HPr.out hroom (by have h9 := hin2 (by omega); exact ⟨h9.1, h9.2.1, h9.2.2.1, trivial⟩) HRk.out
                  have HCc := Lib.hid hys
                  have HCk := Lib.hid hyk
                  clear hav hlow2 hin2 hout2 hpart2 hys hyk
                  refine hK.out _ _ (Fx.trans hS hfi) (fun hS' => ?_)
                  clear hK K hS 
                  have hS := hS'
                  clear hS'
                  try simp only [Act.put, List.getElem_toArray, List.getElem_cons_zero, List.getElem_cons_succ, List.setIfInBounds_toArray, List.set_cons_zero, List.set_cons_succ]
                  refine wpH_one (i := 31) (by kernel_rfl) rfl (fun K hK => ?_)
                  go_simp
                  refine (HW _ _ _ _ _ _ _ _ HPr.out.eds HRk.out HAp.out HApk.out _).mono ?_
                  rintro e y7 ⟨rfl, hfi⟩
                  have HPr := Lib.hid (PartE.no HPr.out hfi)
                  have HCc := Lib.hid (RowV.no HCc.out hfi)
                  have HAp := Lib.hid (RowV.no HAp.out hfi)
                  have HZy7 : Hid (y6.heap.size ≤ y7.heap.size) := Lib.hid hfi.size
                  have HSy7 : Hid (Fx No y6 y7) := Lib.hid hfi
                  refine hK.out _ _ (hS.trans' hfi (fun j h1 _ => h1.elim)) (fun hS' => ?_)
                  clear hK K hS hfi 
                  have hS := hS'
                  clear hS'
                  try simp only [Act.put, List.getElem_toArray, List.getElem_cons_zero, List.getElem_cons_succ, List.setIfInBounds_toArray, List.set_cons_zero, List.set_cons_succ]
                  refine wpAnyH_take (i := 32) (v := ?_) rfl (by kernel_rfl) (by kernel_rfl) (by kernel_rfl) (fun _ _ _ h => h) (Or.inl ⟨by rfl, ?_⟩) hS ?_
                  rotate_left
                  · (intro W hs; go_simp; first | done | with_reducible rfl)
                  try simp only [Act.put, List.getElem_toArray, List.getElem_cons_zero, List.getElem_cons_succ, List.setIfInBounds_toArray, List.set_cons_zero, List.set_cons_succ]
                  refine wpAnyH_take (i := 33) (v := ?_) rfl (by kernel_rfl) (by kernel_rfl) (by kernel_rfl) (fun _ _ _ h => h) (Or.inl ⟨by rfl, ?_⟩) hS ?_
                  rotate_left
                  · (intro W hs; go_simp; first | done | with_reducible rfl)
                  try simp only [Act.put, List.getElem_toArray, List.getElem_cons_zero, List.getElem_cons_succ, List.setIfInBounds_toArray, List.set_cons_zero, List.set_cons_succ]
                  refine wpAnyH_take (i := 34) (v := ?_) rfl (by kernel_rfl) (by kernel_rfl) (by kernel_rfl) (fun _ _ _ h => h) (Or.inl ⟨by rfl, ?_⟩) hS ?_
                  rotate_left
                  · (intro W hs; go_simp; first | done | with_reducible rfl)
                  try simp only [Act.put, List.getElem_toArray, List.getElem_cons_zero, List.getElem_cons_succ, List.setIfInBounds_toArray, List.set_cons_zero, List.set_cons_succ]
                  refine wpAnyH_take (i := 35) (v := ?_) rfl (by kernel_rfl) (by kernel_rfl) (by kernel_rfl) (fun _ _ _ h => h) (Or.inl ⟨by rfl, ?_⟩) hS ?_
                  rotate_left
                  · (intro W hs; go_simp; first | done | with_reducible rfl)
                  try simp only [Act.put, List.getElem_toArray, List.getElem_cons_zero, List.getElem_cons_succ, List.setIfInBounds_toArray, List.set_cons_zero, List.set_cons_succ]
                  refine wpAnyH_take (i := 36) (v := ?_) rfl (by kernel_rfl) (by kernel_rfl) (by kernel_rfl) (fun _ _ _ h => h) (Or.inl ⟨by rfl, ?_⟩) hS ?_
                  rotate_left
                  · (intro W hs; go_simp; first | done | with_reducible rfl)
                  try simp only [Act.put, List.getElem_toArray, List.getElem_cons_zero, List.getElem_cons_succ, List.setIfInBounds_toArray, List.set_cons_zero, List.set_cons_succ]
                  refine wpAnyH_take (i := 37) (v := ?_) rfl (by kernel_rfl) (by kernel_rfl) (by kernel_rfl) (fun _ _ _ h => h) (Or.inl ⟨by rfl, ?_⟩) hS ?_
                  rotate_left
                  · (intro W hs; go_simp; first | done | with_reducible rfl)
                  try simp only [Act.put, List.getElem_toArray, List.getElem_cons_zero, List.getElem_cons_succ, List.setIfInBounds_toArray, List.set_cons_zero, List.set_cons_succ]
                  refine wpAnyH_take (i := 39) (v := ?_) rfl (by kernel_rfl) (by kernel_rfl) (by kernel_rfl) (fun _ _ _ h => h) (Or.inl ⟨by rfl, ?_⟩) hS ?_
                  rotate_left
                  · (intro W hs; go_simp; first | done | with_reducible rfl)
                  try simp only [Act.put, List.getElem_toArray, List.getElem_cons_zero, List.getElem_cons_succ, List.setIfInBounds_toArray, List.set_cons_zero, List.set_cons_succ]
                  refine wpH_one (i := 38) (by kernel_rfl) rfl (fun K hK => ?_)
                  go_simp
                  have hfi : Fx No y7 (y7.alloc (.cells #[.int .i64 0, .int .i64 1, .int .i64 0, .int .i64 1, .int .i64 0, .int .i64 0, .int .i64 0, .int .i64 1, .int .i64 1, .int .i64 1, .int .i64 0, .int .i64 0] 3)) := (Fx.refl No _).alloc _
                  refine hK.out _ _ (hS.trans' hfi (fun j h1 _ => h1.elim)) (fun hS' => ?_)
                  clear hK K hS
                  have hS := hS'
                  clear hS'
                  try simp only [Act.put, List.getElem_toArray, List.getElem_cons_zero, List.getElem_cons_succ, List.setIfInBounds_toArray, List.set_cons_zero, List.set_cons_succ]
                  refine wpAnyH_hold (fun W' => Fx No y7 W' ∧ Fx (fun j => j = g) w2 W' ∧ y7.heap.size < W'.heap.size ∧ IntsV W' (fun _ => True) (.slice (some ⟨y7.heap.size, 0, none⟩) 12 12) [0, 1, 0, 1, 0, 0, 0, 1, 1, 1, 0, 0]) ⟨hfi, hS, by simp, SlV.lit y7 3 #[.int .i64 0, .int .i64 1, .int .i64 0, .int .i64 1, .int .i64 0, .int .i64 0, .int .i64 0, .int .i64 1, .int .i64 1, .int .i64 1, .int .i64 0, .int .i64 0] 1 12 rfl (by unfold maxLen; omega)⟩ ?_
                  clear hfi hS
                  rintro y8 ⟨hfi, hS, hlt, hHLz⟩
                  obtain ⟨lz, hlz⟩ : ∃ q, q = y7.heap.size := ⟨_, rfl⟩
                  rw [← hlz] at hHLz hlt ⊢
                  have HPr := Lib.hid (PartE.no HPr.out hfi)
                  have HCc := Lib.hid (RowV.no HCc.out hfi)
                  have HAp := Lib.hid (RowV.no HAp.out hfi)
                  have HLz := Lib.hid hHLz
                  have HLlz : Hid (lz < y8.heap.size) := Lib.hid hlt
                  have HElz : Hid (lz = y7.heap.size) := Lib.hid hlz
                  have HZy8 : Hid (y7.heap.size ≤ y8.heap.size) := Lib.hid hfi.size
                  clear hHLz hlt hlz hfi
                  refine wpH_one (i := 40) (by kernel_rfl) rfl (fun K hK => ?_)
                  go_simp
                  refine (HLs _ _ _ _ _ _ _ _ HCc.out HCk.out _ HLz.out _ _).mono ?_
                  rintro e y9 ⟨rfl, hfi⟩
                  have HPr := Lib.hid (PartE.no HPr.out hfi)
                  have HCc := Lib.hid (RowV.no HCc.out hfi)
                  have HAp := Lib.hid (RowV.no HAp.out hfi)
                  have HLz := Lib.hid (IntsV.no HLz.out hfi)
                  have HZy9 : Hid (y8.heap.size ≤ y9.heap.size) := Lib.hid hfi.size
                  have HSy9 : Hid (Fx No y8 y9) := Lib.hid hfi
                  refine hK.out _ _ (hS.trans' hfi (fun j h1 _ => h1.elim)) (fun hS' => ?_)
                  clear hK K hS hfi 
                  have hS := hS'
                  clear hS'
                  try simp only [Act.put, List.getElem_toArray, List.getElem_cons_zero, List.getElem_cons_succ, List.setIfInBounds_toArray, List.set_cons_zero, List.set_cons_succ]
                  refine wpAnyH_take (i := 41) (v := ?_) rfl (by kernel_rfl) (by kernel_rfl) (by kernel_rfl) (fun _ _ _ h => h) (Or.inl ⟨by rfl, ?_⟩) hS ?_
                  rotate_left
                  · (intro W hs; go_simp; first | done | with_reducible rfl)
                  try simp only [Act.put, List.getElem_toArray, List.getElem_cons_zero, List.getElem_cons_succ, List.setIfInBounds_toArray, List.set_cons_zero, List.set_cons_succ]
                  refine wpAnyH_take (i := 42) (v := ?_) rfl (by kernel_rfl) (by kernel_rfl) (by kernel_rfl) (fun _ _ _ h => h) (Or.inl ⟨by rfl, ?_⟩) hS ?_
                  rotate_left
                  · (intro W hs; go_simp; first | done | with_reducible rfl)
                  try simp only [Act.put, List.getElem_toArray, List.getElem_cons_zero, List.getElem_cons_succ, List.setIfInBounds_toArray, List.set_cons_zero, List.set_cons_succ]
                  refine wpAnyH_done (by kernel_rfl) ?_ _
                  have HZ : Hid (Fx No wo y9) := Lib.hid (HFw.out.trans' hS fun q e1 e2 => by have e3 : q = g := e1; omega)
                  clear hS hS0
                  go_wp2
                  go_roundw
                  case rel => exact ⟨(m + 1) + 1, by go_num, by omega, by omega, HFo.out.trans HZ.out⟩
                  case measure => simp [intOf]; omega
                · have HOut := Lib.hid (hout (by omega))
                  have HCc : Hid (EdsV w2 (Iv (wp.heap.size + 1) w2.heap.size) cv _) := Lib.hid (by first | exact HOut.out.2 | (have h9 := HOut.out.2; simp only [World.size_alloc] at h9; exact h9))
                  go_wp2
                  refine wp_region_H (fun W => Fx (fun j => j = g) w2 W) (by kernel_rfl) ((Fx.refl _ _).drew) ?_
                  intro hS
                  have HPr := Lib.hid (HPr.out.no ((Fx.refl No _).drew))
                  have HCc := Lib.hid (RowV.no HCc.out ((Fx.refl No _).drew))
                  refine wpAnyH_hold (fun W' => Fx (fun j => j = g) w2 W' ∧ PartE W' 25 g 0 (m + 1) cap (r0 :: Rt) ∧ EdsV W' (Iv (wp.heap.size + 1) w2.heap.size) cv (r0 :: Rt ++ [⟨(h2 : Int), (h3 : Int), 1⟩])) ⟨hS, HPr.out, HCc.out⟩ ?_
                  clear hS
                  rintro y0 ⟨hS, hp0, hc0⟩
                  have HPr := Lib.hid hp0
                  have HCc := Lib.hid hc0
                  have hS0 := hS
                  clear hp0 hc0
                  refine wpAnyH_take (i := 0) (v := ?_) rfl (by kernel_rfl) (by kernel_rfl) (by kernel_rfl) (fun _ _ _ h => h) (Or.inl ⟨by rfl, ?_⟩) hS ?_
                  rotate_left
                  · (intro W hs; go_simp; first | done | with_reducible rfl)
                  try simp only [Act.put, List.getElem_toArray, List.getElem_cons_zero, List.setIfInBounds_toArray, List.set_cons_zero, List.set_cons_succ]
                  refine wpAnyH_take (i := 1) (v := ?_) rfl (by kernel_rfl) (by kernel_rfl) (by kernel_rfl) (fun _ _ _ h => h) (Or.inl ⟨by rfl, ?_⟩) hS ?_
                  rotate_left
                  · (intro W hs; go_simp; first | done | with_reducible rfl)
                  try simp only [Act.put, List.getElem_toArray, List.getElem_cons_zero, List.getElem_cons_succ, List.setIfInBounds_toArray, List.set_cons_zero, List.set_cons_succ]
                  refine wpAnyH_take (i := 2) (v := ?_) rfl (by kernel_rfl) (by kernel_rfl) (by kernel_rfl) (fun _ _ _ h => h) (Or.inl ⟨by rfl, ?_⟩) hS ?_
                  rotate_left
                  · (intro W hs; go_simp; first | done | with_reducible rfl)
                  try simp only [Act.put, List.getElem_toArray, List.getElem_cons_zero, List.getElem_cons_succ, List.setIfInBounds_toArray, List.set_cons_zero, List.set_cons_succ]
                  refine wpAnyH_take (i := 3) (v := ?_) rfl (by kernel_rfl) (by kernel_rfl) (by kernel_rfl) (fun _ _ _ h => h) (Or.inl ⟨by rfl, ?_⟩) hS ?_
                  rotate_left
                  · (intro W hs; go_simp; first | done | with_reducible rfl)
                  try simp only [Act.put, List.getElem_toArray, List.getElem_cons_zero, List.getElem_cons_succ, List.setIfInBounds_toArray, List.set_cons_zero, List.set_cons_succ]
                  refine wpH_one (i := 4) (by kernel_rfl) rfl (fun K hK => ?_)
                  go_simp
                  refine (paths_any _ HPr.out.eds HRk.out _ _).mono ?_
                  rintro e y1 ⟨rfl, hfi⟩
                  have HPr := Lib.hid (PartE.no HPr.out hfi)
                  have HCc := Lib.hid (RowV.no HCc.out hfi)
                  have HZy1 : Hid (y0.heap.size ≤ y1.heap.size) := Lib.hid hfi.size
                  have HSy1 : Hid (Fx No y0 y1) := Lib.hid hfi
                  refine hK.out _ _ (hS.trans' hfi (fun j h1 _ => h1.elim)) (fun hS' => ?_)
                  clear hK K hS hfi 
                  have hS := hS'
                  clear hS'
                  try simp only [Act.put, List.getElem_toArray, List.getElem_cons_zero, List.getElem_cons_succ, List.setIfInBounds_toArray, List.set_cons_zero, List.set_cons_succ]
                  refine wpAnyH_take (i := 5) (v := ?_) rfl (by kernel_rfl) (by kernel_rfl) (by kernel_rfl) (fun _ _ _ h => h) (Or.inl ⟨by rfl, ?_⟩) hS ?_
                  rotate_left
                  · (intro W hs; go_simp; first | done | with_reducible rfl)
                  try simp only [Act.put, List.getElem_toArray, List.getElem_cons_zero, List.getElem_cons_succ, List.setIfInBounds_toArray, List.set_cons_zero, List.set_cons_succ]
                  refine wpAnyH_take (i := 6) (v := ?_) rfl (by kernel_rfl) (by kernel_rfl) (by kernel_rfl) (fun _ _ _ h => h) (Or.inl ⟨by rfl, ?_⟩) hS ?_
                  rotate_left
                  · (intro W hs; go_simp; first | done | with_reducible rfl)
                  try simp only [Act.put, List.getElem_toArray, List.getElem_cons_zero, List.getElem_cons_succ, List.setIfInBounds_toArray, List.set_cons_zero, List.set_cons_succ]
                  refine wpAnyH_take (i := 7) (v := ?_) rfl (by kernel_rfl) (by kernel_rfl) (by kernel_rfl) (fun _ _ _ h => h) (Or.inl ⟨by rfl, ?_⟩) hS ?_
                  rotate_left
                  · (intro W hs; go_simp; first | done | with_reducible rfl)
                  try simp only [Act.put, List.getElem_toArray, List.getElem_cons_zero, List.getElem_cons_succ, List.setIfInBounds_toArray, List.set_cons_zero, List.set_cons_succ]
                  refine wpAnyH_take (i := 8) (v := ?_) rfl (by kernel_rfl) (by kernel_rfl) (by kernel_rfl) (fun _ _ _ h => h) (Or.inl ⟨by rfl, ?_⟩) hS ?_
                  rotate_left
                  · (intro W hs; go_simp; first | done | with_reducible rfl)
                  try simp only [Act.put, List.getElem_toArray, List.getElem_cons_zero, List.getElem_cons_succ, List.setIfInBounds_toArray, List.set_cons_zero, List.set_cons_succ]
                  refine wpAnyH_take (i := 9) (v := ?_) rfl (by kernel_rfl) (by kernel_rfl) (by kernel_rfl) (fun _ _ _ h => h) (Or.inl ⟨by rfl, ?_⟩) hS ?_
                  rotate_left
                  · (intro W hs; go_simp; first | done | with_reducible rfl)
                  try simp only [Act.put, List.getElem_toArray, List.getElem_cons_zero, List.getElem_cons_succ, List.setIfInBounds_toArray, List.set_cons_zero, List.set_cons_succ]
                  refine wpAnyH_take (i := 10) (v := ?_) rfl (by kernel_rfl) (by kernel_rfl) (by kernel_rfl) (fun _ _ _ h => h) (Or.inl ⟨by rfl, ?_⟩) hS ?_
                  rotate_left
                  · (intro W hs; go_simp; first | done | with_reducible rfl)
                  try simp only [Act.put, List.getElem_toArray, List.getElem_cons_zero, List.getElem_cons_succ, List.setIfInBounds_toArray, List.set_cons_zero, List.set_cons_succ]
                  refine wpH_one (i := 11) (by kernel_rfl) rfl (fun K hK => ?_)
                  go_simp
                  refine (paths_any _ HCc.out HCk.out _ _).mono ?_
                  rintro e y2 ⟨rfl, hfi⟩
                  have HPr := Lib.hid (PartE.no HPr.out hfi)
                  have HCc := Lib.hid (RowV.no HCc.out hfi)
                  have HZy2 : Hid (y1.heap.size ≤ y2.heap.size) := Lib.hid hfi.size
                  have HSy2 : Hid (Fx No y1 y2) := Lib.hid hfi
                  refine hK.out _ _ (hS.trans' hfi (fun j h1 _ => h1.elim)) (fun hS' => ?_)
                  clear hK K hS hfi 
                  have hS := hS'
                  clear hS'
                  try simp only [Act.put, List.getElem_toArray, List.getElem_cons_zero, List.getElem_cons_succ, List.setIfInBounds_toArray, List.set_cons_zero, List.set_cons_succ]
                  refine wpAnyH_take (i := 12) (v := ?_) rfl (by kernel_rfl) (by kernel_rfl) (by kernel_rfl) (fun _ _ _ h => h) (Or.inl ⟨by rfl, ?_⟩) hS ?_
                  rotate_left
                  · (intro W hs; go_simp; first | done | with_reducible rfl)
                  try simp only [Act.put, List.getElem_toArray, List.getElem_cons_zero, List.getElem_cons_succ, List.setIfInBounds_toArray, List.set_cons_zero, List.set_cons_succ]
                  refine wpAnyH_take (i := 13) (v := ?_) rfl (by kernel_rfl) (by kernel_rfl) (by kernel_rfl) (fun _ _ _ h => h) (Or.inl ⟨by rfl, ?_⟩) hS ?_
                  rotate_left
                  · (intro W hs; go_simp; first | done | with_reducible rfl)
                  try simp only [Act.put, List.getElem_toArray, List.getElem_cons_zero, List.getElem_cons_succ, List.setIfInBounds_toArray, List.set_cons_zero, List.set_cons_succ]
                  refine wpAnyH_take (i := 14) (v := ?_) rfl (by kernel_rfl) (by kernel_rfl) (by kernel_rfl) (fun _ _ _ h => h) (Or.inl ⟨by rfl, ?_⟩) hS ?_
                  rotate_left
                  · (intro W hs; go_simp; first | done | with_reducible rfl)
                  try simp only [Act.put, List.getElem_toArray, List.getElem_cons_zero, List.getElem_cons_succ, List.setIfInBounds_toArray, List.set_cons_zero, List.set_cons_succ]
                  refine wpAnyH_take (i := 15) (v := ?_) rfl (by kernel_rfl) (by kernel_rfl) (by kernel_rfl) (fun _ _ _ h => h) (Or.inl ⟨by rfl, ?_⟩) hS ?_
                  rotate_left
                  · (intro W hs; go_simp; first | done | with_reducible rfl)
                  try simp only [Act.put, List.getElem_toArray, List.getElem_cons_zero, List.getElem_cons_succ, List.setIfInBounds_toArray, List.set_cons_zero, List.set_cons_succ]
                  refine wpAnyH_take (i := 16) (v := ?_) rfl (by kernel_rfl) (by kernel_rfl) (by kernel_rfl) (fun _ _ _ h => h) (Or.inl ⟨by rfl, ?_⟩) hS ?_
                  rotate_left
                  · (intro W hs; go_simp; first | done | with_reducible rfl)
                  try simp only [Act.put, List.getElem_toArray, List.getElem_cons_zero, List.getElem_cons_succ, List.setIfInBounds_toArray, List.set_cons_zero, List.set_cons_succ]
                  refine wpAnyH_take (i := 17) (v := ?_) rfl (by kernel_rfl) (by kernel_rfl) (by kernel_rfl) (fun _ _ _ h => h) (Or.inl ⟨by rfl, ?_⟩) hS ?_
                  rotate_left
                  · (intro W hs; go_simp; first | done | with_reducible rfl)
                  try simp only [Act.put, List.getElem_toArray, List.getElem_cons_zero, List.getElem_cons_succ, List.setIfInBounds_toArray, List.set_cons_zero, List.set_cons_succ]
                  refine wpH_one (i := 18) (by kernel_rfl) rfl (fun K hK => ?_)
                  go_simp
                  refine (HW _ _ _ _ _ _ _ _ HPr.out.eds HRk.out HPr.out.eds HRk.out _).mono ?_
                  rintro e y3 ⟨rfl, hfi⟩
                  have HPr := Lib.hid (PartE.no HPr.out hfi)
                  have HCc := Lib.hid (RowV.no HCc.out hfi)
                  have HZy3 : Hid (y2.heap.size ≤ y3.heap.size) := Lib.hid hfi.size
                  have HSy3 : Hid (Fx No y2 y3) := Lib.hid hfi
                  refine hK.out _ _ (hS.trans' hfi (fun j h1 _ => h1.elim)) (fun hS' => ?_)
                  clear hK K hS hfi 
                  have hS := hS'
                  clear hS'
                  try simp only [Act.put, List.getElem_toArray, List.getElem_cons_zero, List.getElem_cons_succ, List.setIfInBounds_toArray, List.set_cons_zero, List.set_cons_succ]
                  refine wpAnyH_take (i := 19) (v := ?_) rfl (by kernel_rfl) (by kernel_rfl) (by kernel_rfl) (fun _ _ _ h => h) (Or.inl ⟨by rfl, ?_⟩) hS ?_
                  rotate_left
                  · (intro W hs; go_simp; first | done | with_reducible rfl)
                  try simp only [Act.put, List.getElem_toArray, List.getElem_cons_zero, List.getElem_cons_succ, List.setIfInBounds_toArray, List.set_cons_zero, List.set_cons_succ]
                  refine wpAnyH_take (i := 20) (v := ?_) rfl (by kernel_rfl) (by kernel_rfl) (by kernel_rfl) (fun _ _ _ h => h) (Or.inl ⟨by rfl, ?_⟩) hS ?_
                  rotate_left
                  · (intro W hs; go_simp; first | done | with_reducible rfl)
                  try simp only [Act.put, List.getElem_toArray, List.getElem_cons_zero, List.getElem_cons_succ, List.setIfInBounds_toArray, List.set_cons_zero, List.set_cons_succ]
                  refine wpAnyH_take (i := 21) (v := ?_) rfl (by kernel_rfl) (by kernel_rfl) (by kernel_rfl) (fun _ _ _ h => h) (Or.inl ⟨by rfl, ?_⟩) hS ?_
                  rotate_left
                  · (intro W hs; go_simp; first | done | with_reducible rfl)
                  try simp only [Act.put, List.getElem_toArray, List.getElem_cons_zero, List.getElem_cons_succ, List.setIfInBounds_toArray, List.set_cons_zero, List.set_cons_succ]
                  refine wpAnyH_take (i := 22) (v := ?_) rfl (by kernel_rfl) (by kernel_rfl) (by kernel_rfl) (fun _ _ _ h => h) (Or.inl ⟨by rfl, ?_⟩) hS ?_
                  rotate_left
                  · (intro W hs; go_simp; first | done | with_reducible rfl)
                  try simp only [Act.put, List.getElem_toArray, List.getElem_cons_zero, List.getElem_cons_succ, List.setIfInBounds_toArray, List.set_cons_zero, List.set_cons_succ]
                  refine wpAnyH_take (i := 23) (v := ?_) rfl (by kernel_rfl) (by kernel_rfl) (by kernel_rfl) (fun _ _ _ h => h) (Or.inl ⟨by rfl, ?_⟩) hS ?_
                  rotate_left
                  · (intro W hs; go_simp; first | done | with_reducible rfl)
                  try simp only [Act.put, List.getElem_toArray, List.getElem_cons_zero, List.getElem_cons_succ, List.setIfInBounds_toArray, List.set_cons_zero, List.set_cons_succ]
                  refine wpAnyH_take (i := 24) (v := ?_) rfl (by kernel_rfl) (by kernel_rfl) (by kernel_rfl) (fun _ _ _ h => h) (Or.inl ⟨by rfl, ?_⟩) hS ?_
                  rotate_left
                  · (intro W hs; go_simp; first | done | with_reducible rfl)
                  try simp only [Act.put, List.getElem_toArray, List.getElem_cons_zero, List.getElem_cons_succ, List.setIfInBounds_toArray, List.set_cons_zero, List.set_cons_succ]
                  refine wpAnyH_take (i := 26) (v := ?_) rfl (by kernel_rfl) (by kernel_rfl) (by kernel_rfl) (fun _ _ _ h => h) (Or.inl ⟨by rfl, ?_⟩) hS ?_
                  rotate_left
                  · (intro W hs; go_simp; first | done | with_reducible rfl)
                  try simp only [Act.put, List.getElem_toArray, List.getElem_cons_zero, List.getElem_cons_succ, List.setIfInBounds_toArray, List.set_cons_zero, List.set_cons_succ]
                  refine wpAnyH_take (i := 25) (v := ?_) rfl (by kernel_rfl) (by kernel_rfl) (by kernel_rfl) (fun _ _ _ h => h) (Or.inl ⟨by rfl, ?_⟩) hS ?_
                  rotate_left
                  · (intro W hs; go_simp; first | done | with_reducible rfl)
                  try simp only [Act.put, List.getElem_toArray, List.getElem_cons_zero, List.getElem_cons_succ, List.setIfInBounds_toArray, List.set_cons_zero, List.set_cons_succ]
                  refine wpAnyH_take (i := 27) (v := ?_) rfl (by kernel_rfl) (by kernel_rfl) (by kernel_rfl) (fun _ _ _ h => h) (Or.inl ⟨by rfl, ?_⟩) hS ?_
                  rotate_left
                  · (intro W hs; go_simp; first | done | with_reducible rfl)
                  try simp only [Act.put, List.getElem_toArray, List.getElem_cons_zero, List.getElem_cons_succ, List.setIfInBounds_toArray, List.set_cons_zero, List.set_cons_succ]
                  refine wpH_one (i := 28) (by kernel_rfl) rfl (fun K hK => ?_)
                  obtain ⟨z0, z1, z2⟩ := HPr.out.first
                  go_simp
                  refine hK.out _ _ hS (fun hS' => ?_)
                  clear hK K hS
                  have hS := hS'
                  clear hS'
                  clear z0 z1 z2
                  try simp only [Act.put, List.getElem_toArray, List.getElem_cons_zero, List.getElem_cons_succ, List.setIfInBounds_toArray, List.set_cons_zero, List.set_cons_succ]
                  refine wpH_one (i := 29) (by kernel_rfl) rfl (fun K hK => ?_)
                  go_simp
                  have hfi : Fx No y3 (y3.alloc (.cells #[.int .i64 r0.f, .int .i64 r0.t, .int .i64 r0.l] 25)) := (Fx.refl No _).alloc _
                  refine hK.out _ _ (hS.trans' hfi (fun j h1 _ => h1.elim)) (fun hS' => ?_)
                  clear hK K hS
                  have hS := hS'
                  clear hS'
                  try simp only [Act.put, List.getElem_toArray, List.getElem_cons_zero, List.getElem_cons_succ, List.setIfInBounds_toArray, List.set_cons_zero, List.set_cons_succ]
                  refine wpAnyH_hold (fun W' => Fx No y3 W' ∧ Fx (fun j => j = g) w2 W' ∧ y3.heap.size < W'.heap.size ∧ W'.cell? ⟨y3.heap.size, 0, none⟩ = some (.int .i64 r0.f) ∧ W'.cell? ((⟨y3.heap.size, 0, none⟩ : Addr).add 1) = some (.int .i64 r0.t) ∧ W'.cell? ((⟨y3.heap.size, 0, none⟩ : Addr).add 2) = some (.int .i64 r0.l)) ⟨hfi, hS, by simp, ⟨(cell_newY rfl).trans rfl, (cell_newY rfl).trans rfl, (cell_newY rfl).trans rfl⟩⟩ ?_
                  clear hfi hS
                  rintro y5 ⟨hfi, hS, hlt, hHLc⟩
                  obtain ⟨lb, hlb⟩ : ∃ q, q = y3.heap.size := ⟨_, rfl⟩
                  rw [← hlb] at hHLc hlt ⊢
                  have HPr := Lib.hid (PartE.no HPr.out hfi)
                  have HCc := Lib.hid (RowV.no HCc.out hfi)
                  have HLc := Lib.hid hHLc
                  have HLlb : Hid (lb < y5.heap.size) := Lib.hid hlt
                  have HElb : Hid (lb = y3.heap.size) := Lib.hid hlb
                  have HZy5 : Hid (y3.heap.size ≤ y5.heap.size) := Lib.hid hfi.size
                  clear hHLc hlt hlb hfi
                  refine wpH_one (i := 30) (by kernel_rfl) rfl (fun K hK => ?_)
                  have HT := Lib.hid (HPr.out.tail)
                  refine step_append_part ?g0 (.tmp 148) (.tmp 152) 22 ?g1 (x := r0) (c := 1) Tryz.underlying22 hie hze rfl hse hbe rfl HT.out (by omega) HLc.out.1 HLc.out.2.1 HLc.out.2.2 ?g2 ?g3 ?_
                  case g0 => rfl
                  case g1 => rfl
                  case g2 => rfl
                  case g3 => rfl
                  intro av y6 hav hfi hlow2 hin2 hout2 hpart2
                  have HAp := Lib.hid hav
                  have HApk := Lib.hid (snoc_ok (fun y hy => HRk.out y (List.mem_cons_of_mem _ hy)) (HRk.out r0 (List.mem_cons_self ..)))
                  have HPr0 := HPr
                  have HPr := Lib.hid (hpart2 _ _ _ _ HPr0.out (by omega))
                  obtain ⟨ys, hys, hyk⟩ : ∃ ys, EdsV y6 (fun _ => True) cv ys ∧ ∀ y ∈ ys, y.ok := ⟨_, RowV.mono (RowV.keep HCc.out hfi (fun j h1 e => by have e1 : j = g := e; have h2 := h1.1; omega)) (fun _ _ => trivial), HCk.out⟩
                  have HCc := Lib.hid hys
                  have HCk := Lib.hid hyk
                  clear hav hlow2 hin2 hout2 hpart2 hys hyk
                  refine hK.out _ _ (Fx.trans hS hfi) (fun hS' => ?_)
                  clear hK K hS 
                  have hS := hS'
                  clear hS'
                  try simp only [Act.put, List.getElem_toArray, List.getElem_cons_zero, List.getElem_cons_succ, List.setIfInBounds_toArray, List.set_cons_zero, List.set_cons_succ]
                  refine wpH_one (i := 31) (by kernel_rfl) rfl (fun K hK => ?_)
                  go_simp
                  refine (HW _ _ _ _ _ _ _ _ HPr.out.eds HRk.out HAp.out HApk.out _).mono ?_
                  rintro e y7 ⟨rfl, hfi⟩
                  have HPr := Lib.hid (PartE.no HPr.out hfi)
                  have HCc := Lib.hid (RowV.no HCc.out hfi)
                  have HAp := Lib.hid (RowV.no HAp.out hfi)
                  have HZy7 : Hid (y6.heap.size ≤ y7.heap.size) := Lib.hid hfi.size
                  have HSy7 : Hid (Fx No y6 y7) := Lib.hid hfi
                  refine hK.out _ _ (hS.trans' hfi (fun j h1 _ => h1.elim)) (fun hS' => ?_)
                  clear hK K hS hfi 
                  have hS := hS'
                  clear hS'
                  try simp only [Act.put, List.getElem_toArray, List.getElem_cons_zero, List.getElem_cons_succ, List.setIfInBounds_toArray, List.set_cons_zero, List.set_cons_succ]
                  refine wpAnyH_take (i := 32) (v := ?_) rfl (by kernel_rfl) (by kernel_rfl) (by kernel_rfl) (fun _ _ _ h => h) (Or.inl ⟨by rfl, ?_⟩) hS ?_
                  rotate_left
                  · (intro W hs; go_simp; first | done | with_reducible rfl)
                  try simp only [Act.put, List.getElem_toArray, List.getElem_cons_zero, List.getElem_cons_succ, List.setIfInBounds_toArray, List.set_cons_zero, List.set_cons_succ]
                  refine wpAnyH_take (i := 33) (v := ?_) rfl (by kernel_rfl) (by kernel_rfl) (by kernel_rfl) (fun _ _ _ h => h) (Or.inl ⟨by rfl, ?_⟩) hS ?_
                  rotate_left
                  · (intro W hs; go_simp; first | done | with_reducible rfl)
                  try simp only [Act.put, List.getElem_toArray, List.getElem_cons_zero, List.getElem_cons_succ, List.setIfInBounds_toArray, List.set_cons_zero, List.set_cons_succ]
                  refine wpAnyH_take (i := 34) (v := ?_) rfl (by kernel_rfl) (by kernel_rfl) (by kernel_rfl) (fun _ _ _ h => h) (Or.inl ⟨by rfl, ?_⟩) hS ?_
                  rotate_left
                  · (intro W hs; go_simp; first | done | with_reducible rfl)
                  try simp only [Act.put, List.getElem_toArray, List.getElem_cons_zero, List.getElem_cons_succ, List.setIfInBounds_toArray, List.set_cons_zero, List.set_cons_succ]
                  refine wpAnyH_take (i := 35) (v := ?_) rfl (by kernel_rfl) (by kernel_rfl) (by kernel_rfl) (fun _ _ _ h => h) (Or.inl ⟨by rfl, ?_⟩) hS ?_
                  rotate_left
                  · (intro W hs; go_simp; first | done | with_reducible rfl)
                  try simp only [Act.put, List.getElem_toArray, List.getElem_cons_zero, List.getElem_cons_succ, List.setIfInBounds_toArray, List.set_cons_zero, List.set_cons_succ]
                  refine wpAnyH_take (i := 36) (v := ?_) rfl (by kernel_rfl) (by kernel_rfl) (by kernel_rfl) (fun _ _ _ h => h) (Or.inl ⟨by rfl, ?_⟩) hS ?_
                  rotate_left
                  · (intro W hs; go_simp; first | done | with_reducible rfl)
                  try simp only [Act.put, List.getElem_toArray, List.getElem_cons_zero, List.getElem_cons_succ, List.setIfInBounds_toArray, List.set_cons_zero, List.set_cons_succ]
                  refine wpAnyH_take (i := 37) (v := ?_) rfl (by kernel_rfl) (by kernel_rfl) (by kernel_rfl) (fun _ _ _ h => h) (Or.inl ⟨by rfl, ?_⟩) hS ?_
                  rotate_left
                  · (intro W hs; go_simp; first | done | with_reducible rfl)
                  try simp only [Act.put, List.getElem_toArray, List.getElem_cons_zero, List.getElem_cons_succ, List.setIfInBounds_toArray, List.set_cons_zero, List.set_cons_succ]
                  refine wpAnyH_take (i := 39) (v := ?_) rfl (by kernel_rfl) (by kernel_rfl) (by kernel_rfl) (fun _ _ _ h => h) (Or.inl ⟨by rfl, ?_⟩) hS ?_
                  rotate_left
                  · (intro W hs; go_simp; first | done | with_reducible rfl)
                  try simp only [Act.put, List.getElem_toArray, List.getElem_cons_zero, List.getElem_cons_succ, List.setIfInBounds_toArray, List.set_cons_zero, List.set_cons_succ]
                  refine wpH_one (i := 38) (by kernel_rfl) rfl (fun K hK => ?_)
                  go_simp
                  have hfi : Fx No y7 (y7.alloc (.cells #[.int .i64 0, .int .i64 1, .int .i64 0, .int .i64 1, .int .i64 0, .int .i64 0, .int .i64 0, .int .i64 1, .int .i64 1, .int .i64 1, .int .i64 0, .int .i64 0] 3)) := (Fx.refl No _).alloc _
                  refine hK.out _ _ (hS.trans' hfi (fun j h1 _ => h1.elim)) (fun hS' => ?_)
                  clear hK K hS
                  have hS := hS'
                  clear hS'
                  try simp only [Act.put, List.getElem_toArray, List.getElem_cons_zero, List.getElem_cons_succ, List.setIfInBounds_toArray, List.set_cons_zero, List.set_cons_succ]
                  refine wpAnyH_hold (fun W' => Fx No y7 W' ∧ Fx (fun j => j = g) w2 W' ∧ y7.heap.size < W'.heap.size ∧ IntsV W' (fun _ => True) (.slice (some ⟨y7.heap.size, 0, none⟩) 12 12) [0, 1, 0, 1, 0, 0, 0, 1, 1, 1, 0, 0]) ⟨hfi, hS, by simp, SlV.lit y7 3 #[.int .i64 0, .int .i64 1, .int .i64 0, .int .i64 1, .int .i64 0, .int .i64 0, .int .i64 0, .int .i64 1, .int .i64 1, .int .i64 1, .int .i64 0, .int .i64 0] 1 12 rfl (by unfold maxLen; omega)⟩ ?_
                  clear hfi hS
                  rintro y8 ⟨hfi, hS, hlt, hHLz⟩
                  obtain ⟨lz, hlz⟩ : ∃ q, q = y7.heap.size := ⟨_, rfl⟩
                  rw [← hlz] at hHLz hlt ⊢
                  have HPr := Lib.hid (PartE.no HPr.out hfi)
                  have HCc := Lib.hid (RowV.no HCc.out hfi)
                  have HAp := Lib.hid (RowV.no HAp.out hfi)
                  have HLz := Lib.hid hHLz
                  have HLlz : Hid (lz < y8.heap.size) := Lib.hid hlt
                  have HElz : Hid (lz = y7.heap.size) := Lib.hid hlz
                  have HZy8 : Hid (y7.heap.size ≤ y8.heap.size) := Lib.hid hfi.size
                  clear hHLz hlt hlz hfi
                  refine wpH_one (i := 40) (by kernel_rfl) rfl (fun K hK => ?_)
                  go_simp
                  refine (HLs _ _ _ _ _ _ _ _ HCc.out HCk.out _ HLz.out _ _).mono ?_
                  rintro e y9 ⟨rfl, hfi⟩
                  have HPr := Lib.hid (PartE.no HPr.out hfi)
                  have HCc := Lib.hid (RowV.no HCc.out hfi)
                  have HAp := Lib.hid (RowV.no HAp.out hfi)
                  have HLz := Lib.hid (IntsV.no HLz.out hfi)
                  have HZy9 : Hid (y8.heap.size ≤ y9.heap.size) := Lib.hid hfi.size
                  have HSy9 : Hid (Fx No y8 y9) := Lib.hid hfi
                  refine hK.out _ _ (hS.trans' hfi (fun j h1 _ => h1.elim)) (fun hS' => ?_)
                  clear hK K hS hfi 
                  have hS := hS'
                  clear hS'
                  try simp only [Act.put, List.getElem_toArray, List.getElem_cons_zero, List.getElem_cons_succ, List.setIfInBounds_toArray, List.set_cons_zero, List.set_cons_succ]
                  refine wpAnyH_take (i := 41) (v := ?_) rfl (by kernel_rfl) (by kernel_rfl) (by kernel_rfl) (fun _ _ _ h => h) (Or.inl ⟨by rfl, ?_⟩) hS ?_
                  rotate_left
                  · (intro W hs; go_simp; first | done | with_reducible rfl)
                  try simp only [Act.put, List.getElem_toArray, List.getElem_cons_zero, List.getElem_cons_succ, List.setIfInBounds_toArray, List.set_cons_zero, List.set_cons_succ]
                  refine wpAnyH_take (i := 42) (v := ?_) rfl (by kernel_rfl) (by kernel_rfl) (by kernel_rfl) (fun _ _ _ h => h) (Or.inl ⟨by rfl, ?_⟩) hS ?_
                  rotate_left
                  · (intro W hs; go_simp; first | done | with_reducible rfl)
                  try simp only [Act.put, List.getElem_toArray, List.getElem_cons_zero, List.getElem_cons_succ, List.setIfInBounds_toArray, List.set_cons_zero, List.set_cons_succ]
                  refine wpAnyH_done (by kernel_rfl) ?_ _
                  have HZ : Hid (Fx No wo y9) := Lib.hid (HFw.out.trans' hS fun q e1 e2 => by have e3 : q = g := e1; omega)
                  clear hS hS0
                  go_wp2
                  go_roundw
                  case rel => exact ⟨(m + 1) + 1, by go_num, by omega, by omega, HFo.out.trans HZ.out⟩
                  case measure => simp [intOf]; omega
        · have dn : decide ((n : Int) < 11) = false := decide_eq_false (by omega)
          clear hnl hn0 hn11
          go_wp2_with fail
          refine (works_any _).mono ?_
          rintro e v1 ⟨rfl, hf⟩
          have HF4 := Lib.hid (HFo.out.trans hf)
          clear hf
          go_wp2
          go_ret
          exact ⟨rfl, HF4.out⟩
#print axioms known_of
end Go.Proofs.YtgacknphjeiojaaGreat
