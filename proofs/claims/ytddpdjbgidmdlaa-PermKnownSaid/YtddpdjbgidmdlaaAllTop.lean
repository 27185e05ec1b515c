/- Contract: the reference's All; a row of pairs of the call's own. -/
import Derived.Test.YtddpdjbgidmdlaaAll
namespace Go.Proofs.Ytddpdjbgidmdlaa
open Go.RowKit
set_option linter.unusedVariables false

/-- what All tells, where it may -/
def AllTopR (ps : List (Int × Int)) (N : Nat) (w : World) (e : Ending) (w' : World) : Prop :=
  ∃ v vals, e = .returned (.tuple #[v, .int .i64 0]) ∧ Fx No w w' ∧ w'.ownsRow w.heap.size 29 1 v vals.length vals ∧ RowsOf w' (fun b => w.heap.size ≤ b ∧ b < w'.heap.size) vals (treeT ps N N [])
theorem allTop_any {w : World} {E : Nat → Prop} {u : Value} {ps : List (Int × Int)} {N : Nat} (hN : N ≤ 6) (h' : PairsV w E u ps) (he : mayE (N : Int) ps = 0) (hok : PsOk ps N) :
    Calls Try.prog 29 #[.int .i64 (N : Int), u] w (AllTopR ps N w) := by
  have HP := Lib.hid h'
  have HE := Lib.hid he
  have HOk := Lib.hid hok
  obtain ⟨uo, ucap, rfl, hul, _⟩ := h'.facts
  obtain ⟨ul, hulen⟩ : ∃ k, k = ps.length := ⟨_, rfl⟩
  rw [← hulen] at hul HP ⊢
  clear h' he hok hulen
  go_enter Try.func29, Try.ntmps29
  go_wp2_with fail
  refine (may_any' HP.out (N : Int)).mono ?_
  rintro e w1 ⟨rfl, hf⟩
  have HF1 := Lib.hid hf
  rw [HE.out]
  have hne0 : ((0 : Int) != 0) = false := by simp
  clear hf
  go_wp2_with fail
  refine (all_any hN N _ No _ [] (SlV.nil _ _ _) (HP.out.no HF1.out) (by simp)).mono ?_
  rintro e w2 ⟨v, vals, rfl, hf, hn, ho, hR⟩
  have HF2 : Hid (Fx No w w2) := HF1.out.trans hf
  have hz := HF1.out.size
  have HO : Hid (w2.ownsRow w.heap.size 29 1 v vals.length vals) := ownsRow_base ho hz
  have HR : Hid (RowsOf w2 (fun b => w.heap.size ≤ b ∧ b < w2.heap.size) vals (treeT ps N N [])) := by
    show RowsOf _ _ _ _
    rw [← allL_tree HOk.out VRow.nil (by simp)]
    refine RowsOf.fx (Fx.refl No _) (fun _ _ h => h) (fun b hb => ⟨?_, hb.2.1⟩) hR
    rcases hb.1 with h | h
    · exact h.elim
    · omega
  clear hf hn ho hR
  go_wp2
  go_ret2
  exact ⟨v, vals, rfl, HF2.out, HO.out, HR.out⟩
#print axioms allTop_any
end Go.Proofs.Ytddpdjbgidmdlaa
