/- append to a row of the call's own: the row's own cells stay where they are; the other blocks too. For every seat. -/
import Derived.Test.YtpegloapdkfgiaaHeap
namespace Go.Proofs.Ytpegloapdkfgiaa
open Go.RowKit
set_option linter.unusedVariables false

/-- old cells stay, but for the spare ones of the row itself -/
def AppKept (w w' : World) (v : Value) (m : Nat) : Prop := ∀ b i u, w.cell? ⟨b, i, none⟩ = some u → (v.ownBlock = some b → i < m) → w'.cell? ⟨b, i, none⟩ = some u
theorem AppKept.grown {w w' : World} (h : w.grownBy w' none) (v : Value) (m : Nat) : AppKept w w' v m := fun b i u hc _ => by
  rw [World.cell?_of_block (h.block b (World.block_lt_of_cell? w _ hc) (by simp))]; exact hc
theorem cell_drew_alloc {w : World} {o : Obj} {b i : Nat} {u : Value} (h : w.cell? ⟨b, i, none⟩ = some u) : (w.drew.alloc o).cell? ⟨b, i, none⟩ = some u := by
  exact (World.cell?_alloc_lt (w := w.drew) _ _ (World.block_lt_of_cell? w _ h)).trans h
theorem run_append_kept {P : Program} (w : World) (base : Nat) (t ty e : TypeId) (i : TypeInfo) (z : Value) (size bytes : Nat) (ht : P.underlying t = some (.slice e)) (hi : P.info? e = some i) (hz : i.zero = some z)
    (hsize : i.size = size) (hby : i.bytes = bytes) (v : Value) (n : Nat) (xs : List Value) (hown : w.ownsRow base e size v n xs)
    (a : Addr) (m c : Nat) (news : List Value) (hl : news.length = m * size) (hnews : ∀ j u, news[j]? = some u → w.cell? (a.add j) = some u) (h1 : ∀ u ∈ news, u.oneCell' = true)
    (hm : 0 < m) (h63 : n + m ≤ maxLen) (hbytes : (n + m) * bytes ≤ 140737488355328) {v' : Value} {w' : World}
    (hr : (Builtin.append_ #[t, t] ty #[v, .slice (some a) m c]).run P w = .ok v' w') : AppKept w w' v (n * size) ∧ ∀ g, v'.ownBlock = some g → v.ownBlock = some g ∨ w.heap.size ≤ g := by
  subst hsize hby
  have h63' : n + m ≤ 9223372036854775807 := by unfold maxLen at h63; omega
  have hown' := hown
  obtain ⟨hlen, hcase⟩ := hown
  rcases hcase with ⟨rfl, rfl⟩ | ⟨g, cap, cur, rfl, hb, hg, hnc, hcm, hcs, htake⟩
  · have hrun := run_append_nil (P := P) w t ty e i z ht hi hz a m c news hl hnews hm (by omega) (by have := hbytes; rw [Nat.zero_add] at this; omega)
    rw [hrun] at hr
    obtain ⟨rfl, rfl⟩ : v' = _ ∧ w' = _ := by
      simp only [Result.ok.injEq] at hr
      exact ⟨hr.1.symm, hr.2.symm⟩
    exact ⟨fun b j u hc _ => cell_drew_alloc hc, fun g hg => .inr (by simp [Value.ownBlock] at hg; omega)⟩
  · by_cases hroom : n + m ≤ cap
    · have hfit : n * i.size + news.length ≤ cur.size := by rw [hl, hcs, ← Nat.add_mul]; exact Nat.mul_le_mul_right _ hroom
      have hrun := run_append_room (P := P) w t ty e i ht hi g n cap cur hg a m c news hl hnews h1 hroom hfit
      rw [hrun] at hr
      obtain ⟨rfl, rfl⟩ : v' = _ ∧ w' = _ := by
        simp only [Result.ok.injEq] at hr
        exact ⟨hr.1.symm, hr.2.symm⟩
      refine ⟨fun b j u hc hj => ?_, fun g' hg' => .inl (by simpa [Value.ownBlock] using hg')⟩
      by_cases e : b = g
      · subst e
        have hj' : j < n * i.size := hj (by simp [Value.ownBlock])
        rw [cell_of_row _ _ _ _ _ _ hg] at hc
        rw [cell_of_row _ _ _ _ _ _ (setRow_heap w b cur _ _ _ hg)]
        have hle : n * i.size ≤ cur.toList.length := by simp; omega
        have hjc : j < cur.size := by simp at hle; omega
        have : (cur.toList.take (n * i.size) ++ news ++ cur.toList.drop (n * i.size + news.length))[j]? = some u := by
          rw [List.append_assoc, List.getElem?_append_left (by rw [List.length_take]; omega), List.getElem?_take_of_lt hj']
          simpa using hc
        simpa using this
      · rw [World.cell?_of_block (setRow_other w g b _ e)]; exact hc
    · have holds : ∀ j u, xs[j]? = some u → w.cell? ((⟨g, 0, none⟩ : Addr).add j) = some u := hown'.cells (g := g) rfl
      have hrun := run_append_grow (P := P) w t ty e i z ht hi hz ⟨g, 0, none⟩ n cap xs hlen holds a m c news hl hnews (by omega) (by omega) (growslice_fits (by omega) hbytes)
      rw [hrun] at hr
      obtain ⟨rfl, rfl⟩ : v' = _ ∧ w' = _ := by
        simp only [Result.ok.injEq] at hr
        exact ⟨hr.1.symm, hr.2.symm⟩
      exact ⟨fun b j u hc _ => cell_drew_alloc hc, fun g hg => .inr (by simp [Value.ownBlock] at hg; omega)⟩
/-- the walk's law -/
theorem wpList_append_kept {P : Program} {w : World} {ops : Array Oper} {rest : List Oper} {o : Oper} {a : Act} {Q : Exit → Act → World → Prop} (hgd : o.guard = none) (s x : Operand) (t : TypeId)
    (ho : o.op = .call { callee := .builtin .append, args := #[s, x], argTypes := #[t, t] })
    (base : Nat) (e : TypeId) {i : TypeInfo} {z : Value} {size bytes : Nat} (ht : P.underlying t = some (.slice e)) (hi : P.info? e = some i) (hz : i.zero = some z)
    (hsize : i.size = size) (hby : i.bytes = bytes) (hzs : z.cells.size = size) (hsz : 0 < size)
    {v : Value} {n : Nat} {xs : List Value} (hs : a.eval s = v) (hown : w.ownsRow base e size v n xs)
    {D : Nat → Prop} {u : Value} {m : Nat} {news : List Value} (hx : a.eval x = u) (hsl : SlV w D u size m news) (h1 : One news) (hm : 0 < m)
    (h63 : n + m ≤ maxLen) (hbytes : (n + m) * bytes ≤ 140737488355328) (hbase : base ≤ w.heap.size)
    (h : ∀ v' w', w'.ownsRow base e size v' (n + m) (xs ++ news) → Fx (fun k => v.ownBlock = some k) w w' → AppKept w w' v (n * size) → (∀ g, v'.ownBlock = some g → v.ownBlock = some g ∨ w.heap.size ≤ g) → wpList P ops Q rest (a.put o.dst v') w') : wpList P ops Q (o :: rest) a w := by
  obtain ⟨ao, cap, rfl, h2, h3, h4, h5, h6⟩ := hsl
  cases ao with
  | none => have := h5 rfl; omega
  | some ad =>
    obtain ⟨v', w', hr, g1, g2, g3⟩ := run_append_own (P := P) w base t o.type e i z size bytes ht hi hz hsize hby hzs hsz v n xs hown ad m cap news h4 h6.cells h1 h63 hbytes hbase
    obtain ⟨k1, k2⟩ := run_append_kept (P := P) w base t o.type e i z size bytes ht hi hz hsize hby v n xs hown ad m cap news h4 h6.cells h1 hm h63 hbytes hr
    refine wpList_plain hgd fun K hK => ?_
    unfold Oper.wp
    simp [execOp, ho, resolve, invoke, builtin, hs, hx, hr, Result.andThen]
    exact hK _ _ (h v' w' g1 (Fx.ofGrown g2 fun k hk _ => hk) k1 k2)
#print axioms wpList_append_kept
end Go.Proofs.Ytpegloapdkfgiaa
