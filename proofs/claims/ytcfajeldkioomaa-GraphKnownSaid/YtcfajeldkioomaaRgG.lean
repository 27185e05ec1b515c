/- The laws of graphs: acts; few; Pick; a region in which two operations may come up. -/
import Derived.Test.YtcfajeldkioomaaRgF
import Derived.Test.YtcfajeldkioomaaSameI
import Derived.Deep.CutRange
namespace Go.Proofs.Ytcfajeldkioomaa
open Go.RowKit
set_option linter.unusedVariables false

/-- a call of the law -/
structure ActG where
  d : Int
  l : List Ed
instance : Inhabited ActG := ⟨⟨0, []⟩⟩
def ActsG (w : World) (D : Nat → Prop) (v : Value) (xs : List ActG) : Prop :=
  ∃ ao cap, v = .slice ao xs.length cap ∧ xs.length ≤ 9223372036854775807 ∧ ∀ k, k < xs.length → ∃ b o lv, ao = some ⟨b, o, none⟩ ∧ w.cell? ⟨b, o + k * 2, none⟩ = some (.int .i64 (gt xs k).d) ∧ w.cell? ⟨b, o + k * 2 + 1, none⟩ = some lv ∧ EdsV w D lv (gt xs k).l ∧ ∀ x ∈ (gt xs k).l, x.ok
theorem ActsG.no {w w1 : World} {D : Nat → Prop} {v : Value} {xs : List ActG} (h : ActsG w D v xs) (hf : Fx No w w1) : ActsG w1 D v xs := by
  obtain ⟨ao, cap, h1, h2, h3⟩ := h
  refine ⟨ao, cap, h1, h2, fun k hk => ?_⟩
  obtain ⟨b, o, lv, h4, h5, h6, h7, h8⟩ := h3 k hk
  exact ⟨b, o, lv, h4, hf.cell' h5 (fun h => h), hf.cell' h6 (fun h => h), h7.no hf, h8⟩
def FewG (xs : List ActG) (e : Ending) : Prop := ∃ z, e = .returned (.bool z) ∧ (z = true → xs.length ≤ 20 ∧ ∀ k, k < xs.length → (gt xs k).l.length ≤ 12)
theorem few_any {w : World} {D : Nat → Prop} {v : Value} {xs : List ActG} (h : ActsG w D v xs) :
    Calls Try.prog 20 #[v] w fun e w' => FewG xs e ∧ w = w' := by
  obtain ⟨ao, cap, rfl, hlen, hc⟩ := h
  have HC := Lib.hid hc
  obtain ⟨n, hn⟩ : ∃ n, n = xs.length := ⟨_, rfl⟩
  rw [← hn] at hlen
  rw [← hn]
  have HN := Lib.hid hn
  clear hc hn
  go_enter Try.func20, Try.ntmps20
  go_wp2
  go_loop [3] (fun i => ∃ k : Nat, i = .int .i64 k ∧ k ≤ n ∧ k ≤ 21 ∧ ∀ j, j < k → (gt xs j).l.length ≤ 12) (fun i => n - (intOf i).toNat)
  case atStart => exact ⟨0, rfl, Nat.zero_le _, by omega, fun j hj => by omega⟩
  case round =>
    obtain ⟨k, rfl, hk, hk31, hs⟩ := hrel
    have HS := Lib.hid hs
    clear hs
    by_cases hlt : k < n
    · by_cases h30 : k ≤ 20
      · obtain ⟨b, o, lv, rfl, q0, q1, hl, _⟩ := HC.out k (by rw [← HN.out]; exact hlt)
        obtain ⟨lo, lcap, rfl, _, _, _⟩ := hl.facts
        obtain ⟨ln, hln⟩ : ∃ s, s = (gt xs k).l.length := ⟨_, rfl⟩
        rw [← hln] at q1
        have HX := Lib.hid hln
        clear hln hl q0
        by_cases b1 : ln ≤ 12
        · go_wp2
          go_round
          case rel => exact ⟨k + 1, by go_num, by omega, by omega, fun j hj => by
            by_cases e : j = k
            · subst e; rw [← HX.out]; exact b1
            · exact HS.out j (by omega)⟩
          case measure => simp [intOf]; omega
        · go_wp2
          go_ret
          exact ⟨⟨false, rfl, by simp⟩, rfl⟩
      · go_wp2
        go_ret
        exact ⟨⟨_, rfl, fun hz => by simp at hz; omega⟩, rfl⟩
    · obtain rfl : k = n := by omega
      go_wp2
      go_ret
      exact ⟨⟨_, rfl, fun hz => ⟨by rw [← HN.out]; simp at hz; omega, by rw [← HN.out]; exact HS.out⟩⟩, rfl⟩
theorem pick_any (a : Int) (m : Nat) (hm : 0 < m) (h6 : m ≤ 1000000) (w : World) : Calls Try.prog 24 #[.int .i64 a, .int .i64 (m : Nat)] w fun e w' => ∃ c : Nat, c < m ∧ e = .returned (.int .i64 (c : Nat)) ∧ w = w' := by
  go_enter Try.func24, Try.ntmps24
  have l1 : a.tmod (m : Int) < (m : Int) := Int.tmod_lt_of_pos a (by omega)
  have l2 : -(m : Int) < a.tmod (m : Int) := Int.lt_tmod_of_pos a (by omega)
  obtain ⟨c, hc⟩ : ∃ c : Nat, c < m ∧ (wrap64 (a.tmod (m : Int) + (m : Int))).tmod (m : Int) = (c : Int) := by
    have hw : wrap64 (a.tmod (m : Int) + (m : Int)) = a.tmod (m : Int) + (m : Int) := IntWalk.wrap64_in _ (by omega)
    have h1 : (a.tmod (m : Int) + (m : Int)).tmod (m : Int) < (m : Int) := Int.tmod_lt_of_pos _ (by omega)
    have h2 : 0 ≤ (a.tmod (m : Int) + (m : Int)).tmod (m : Int) := Int.tmod_nonneg _ (by omega)
    rw [hw]
    exact ⟨((a.tmod (m : Int) + (m : Int)).tmod (m : Int)).toNat, by omega, by omega⟩
  have HC := Lib.hid hc
  clear hc l1 l2
  go_wp2
  go_ret
  exact ⟨c, HC.out.1, congrArg (fun z => Ending.returned (Value.int .i64 z)) HC.out.2, rfl⟩
section
variable {P : Program} {ops : Array Oper} {Q : Exit → Act → World → Prop} {md : Region.Mode} {S : World → Prop}
theorem wpH_two {i j : Nat} {oi oj : Oper} {f : Nat} {L : Array Bool} {a : Act} {w : World} (hr : Region.ready md ops L = [i, j]) (hoi : ops[i]? = some oi) (hoj : ops[j]? = some oj)
    (h1 : ∀ K' : Act → World → Prop, Shut (∀ a w, S w → (S w → wpAnyH P md ops Q S f (L.setIfInBounds i true) a w) → K' a w) → if Region.wanted oi (yielded ops a.tmps) = true then Oper.wp P oi a w K' Q else K' (a.put oi.dst undef) w)
    (h2 : ∀ K' : Act → World → Prop, Shut (∀ a w, S w → (S w → wpAnyH P md ops Q S f (L.setIfInBounds j true) a w) → K' a w) → if Region.wanted oj (yielded ops a.tmps) = true then Oper.wp P oj a w K' Q else K' (a.put oj.dst undef) w) :
    wpAnyH P md ops Q S (f + 1) L a w :=
  wpAnyH_all hr (by simp) fun k hk => by
    rw [List.mem_cons, List.mem_singleton] at hk
    rcases hk with rfl | rfl
    · exact wpOp_step hoi (fun K' hK => h1 K' (fun a w hS hW => hK a w ⟨hS, hW hS⟩))
    · exact wpOp_step hoj (fun K' hK => h2 K' (fun a w hS hW => hK a w ⟨hS, hW hS⟩))
end
#print axioms few_any
#print axioms wpH_two
end Go.Proofs.Ytcfajeldkioomaa
