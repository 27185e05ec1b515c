/- append to an owned row as one step of a region that draws: for every seat. -/
import Derived.Test.YtpegloapdkfgiaaAppend
import Derived.Deep.RegionLaw
namespace Go.Proofs.Ytpegloapdkfgiaa
open Go.RowKit
set_option linter.unusedVariables false

theorem step_append_kept {P : Program} {ops : Array Oper} {o : Oper} {a : Act} {w : World} {K : Act → World → Prop} {Q : Exit → Act → World → Prop} {E : Prop}
    (hg : o.guard = none) (s x : Operand) (t : TypeId) (hop : o.op = Op.call { callee := Callee.builtin Builtin.append, args := #[s, x], argTypes := #[t, t] })
    (base : Nat) (e : TypeId) {i : TypeInfo} {z : Value} {size bytes : Nat} (ht : P.underlying t = some (.slice e)) (hi : P.info? e = some i) (hz : i.zero = some z)
    (hsize : i.size = size) (hby : i.bytes = bytes) (hzs : z.cells.size = size) (hsz : 0 < size)
    (v : Value) (n : Nat) (xs : List Value) (hs : a.eval s = v) (hown : w.ownsRow base e size v n xs)
    (D : Nat → Prop) (u : Value) (m : Nat) (news : List Value) (hx : a.eval x = u) (hsl : SlV w D u size m news) (h1 : One news) (hm : 0 < m)
    (h63 : n + m ≤ maxLen) (hbytes : (n + m) * bytes ≤ 140737488355328) (hbase : base ≤ w.heap.size)
    (hK : ∀ v' w', w'.ownsRow base e size v' (n + m) (xs ++ news) → Fx (fun k => v.ownBlock = some k) w w' → AppKept w w' v (n * size) → (∀ g, v'.ownBlock = some g → v.ownBlock = some g ∨ w.heap.size ≤ g) → K (a.put o.dst v') w') :
    if Region.wanted o (yielded ops a.tmps) = true then Oper.wp P o a w K Q else E := by
  have hw : Region.wanted o (yielded ops a.tmps) = true := by simp [Region.wanted, hg]
  rw [if_pos hw]
  obtain ⟨ao, cap, rfl, h2, h3, h4, h5, h6⟩ := hsl
  cases ao with
  | none => have := h5 rfl; omega
  | some ad =>
    obtain ⟨v', w', hr, g1, g2, g3⟩ := run_append_own (P := P) w base t o.type e i z size bytes ht hi hz hsize hby hzs hsz v n xs hown ad m cap news h4 h6.cells h1 h63 hbytes hbase
    obtain ⟨k1, k2⟩ := run_append_kept (P := P) w base t o.type e i z size bytes ht hi hz hsize hby v n xs hown ad m cap news h4 h6.cells h1 hm h63 hbytes hr
    unfold Oper.wp
    simp [execOp, hop, resolve, invoke, builtin, hs, hx, hr, Result.andThen]
    exact hK _ _ g1 (Fx.ofGrown g2 fun k hk _ => hk) k1 k2
#print axioms step_append_kept
end Go.Proofs.Ytpegloapdkfgiaa
