/- Equality of two structs of uints: what '==' tells. For every seat. -/
import Derived.Test.YtpegloapdkfgiaaAppend
import Derived.ChangeKeysEq
import Derived.Laws.StructEq
namespace Go.Proofs.Ytpegloapdkfgiaa
open Go.RowKit
set_option linter.unusedVariables false

def uints (l : List Int) : List Value := l.map (.int .u64)
theorem run_part_u {P : Program} {t : TypeId} {cs : Array Value} {off : Nat} {v : Value} (w : World) (hu : P.underlying t = some (.int .u64)) (hv : cs[off]? = some v) : (part t cs off).run P w = .ok v w := by
  simp [part, isAgg, run_underlying hu, hv]
theorem run_equ (d : Nat) {P : Program} {t : TypeId} (w : World) (hu : P.underlying t = some (.int .u64)) (a b : Int) : (Op.equalIn (d + 1) t (.int .u64 a) (.int .u64 b)).run P w = .ok (a == b) w := by
  simp [Op.equalIn, run_underlying hu]
/-- two structs of uints: what '==' tells of their fields -/
theorem run_eqFields_u {P : Program} (d : Nat) (w : World) {ti : TypeId} (hu : P.underlying ti = some (.int .u64)) {xs ys : Array Value} : ∀ (fs : List Field) (us zs : List Int), fs.length = us.length → fs.length = zs.length →
    (∀ k, k < fs.length → ∃ f, fs[k]? = some f ∧ f.name ≠ "_" ∧ f.type = ti ∧ xs[f.offset]? = some (.int .u64 (gi us k)) ∧ ys[f.offset]? = some (.int .u64 (gi zs k))) →
    (Op.eqFields (d + 1) xs ys fs).run P w = .ok (us == zs) w
  | [], [], [], _, _, _ => by simp [Op.eqFields]
  | f :: fs, a :: us, b :: zs, h1, h2, h => by
    obtain ⟨f', hf, hn, ht, hx, hy⟩ := h 0 (by simp)
    simp only [List.getElem?_cons_zero, Option.some.injEq] at hf
    subst hf
    have ih := run_eqFields_u d w hu (xs := xs) (ys := ys) fs us zs (by simpa using h1) (by simpa using h2) fun k hk => by
      obtain ⟨g, hg, hr⟩ := h (k + 1) (by simpa using hk)
      exact ⟨g, by simpa using hg, hr.1, hr.2.1, by have := hr.2.2; simpa [gi] using this⟩
    have hx' : xs[f.offset]? = some (.int .u64 a) := hx
    have hy' : ys[f.offset]? = some (.int .u64 b) := hy
    have p1 : (part f.type xs f.offset).run P w = .ok (.int .u64 a) w := by rw [ht]; exact run_part_u w hu hx'
    have p2 : (part f.type ys f.offset).run P w = .ok (.int .u64 b) w := by rw [ht]; exact run_part_u w hu hy'
    have p3 : (Op.equalIn (d + 1) f.type (.int .u64 a) (.int .u64 b)).run P w = .ok (a == b) w := by rw [ht]; exact run_equ d w hu a b
    simp only [Op.eqFields, hn, ne_eq, not_false_eq_true, if_true, Sem.run_bind, p1, p2, p3, Result.andThen_ok]
    rw [List.cons_beq_cons]
    cases a == b
    · simp
    · simpa using ih
theorem run_eqStructU {P : Program} (d : Nat) (w : World) {t ti : TypeId} (hu : P.underlying ti = some (.int .u64)) (ht : P.underlying t = some (.struct (P.fieldsOf t))) (hp : P.stoodInHeld t = false) {ns : List (String × Nat)}
    (hfs : (P.fieldsOf t).toList.map (fun f => (f.name, f.type, f.offset)) = ns.map fun q => (q.1, ti, q.2)) (us zs : List Int) (ha : ns.length = us.length) (hb : ns.length = zs.length) (hns : ∀ k, k < ns.length → (ns.getD k ("", 0)).1 ≠ "_" ∧ (ns.getD k ("", 0)).2 = k) :
    (Op.equalIn (d + 2) t (.agg (uints us).toArray) (.agg (uints zs).toArray)).run P w = .ok (us == zs) w := by
  rw [run_equalIn_struct w (d + 1) t _ _ ht hp]
  have hl : (P.fieldsOf t).toList.length = ns.length := by have := congrArg List.length hfs; simpa using this
  refine run_eqFields_u d w hu _ us zs (by omega) (by omega) fun k hk => ?_
  rw [hl] at hk
  have h1 := congrArg (fun l => l[k]?) hfs
  simp only [List.getElem?_map] at h1
  have h2 : ns[k]? = some (ns.getD k ("", 0)) := by simp [hk]
  rw [h2] at h1
  cases hf : (P.fieldsOf t).toList[k]? with
  | none => rw [hf] at h1; cases h1
  | some f =>
    rw [hf] at h1
    simp only [Option.map_some, Option.some.injEq, Prod.mk.injEq] at h1
    obtain ⟨n1, n2⟩ := hns k hk
    refine ⟨f, rfl, by rw [h1.1]; exact n1, h1.2.1, ?_, ?_⟩
    · rw [h1.2.2, n2]; simp [uints, gi, show k < us.length by omega]
    · rw [h1.2.2, n2]; simp [uints, gi, show k < zs.length by omega]
#print axioms run_eqStructU
end Go.Proofs.Ytpegloapdkfgiaa
