/- The law BitsPlays: acts; few; does, at an act of one number. -/
import Derived.Test.YthbfpcheljaeaaaDoorLawD
namespace Go.Proofs.YthbfpcheljaeaaaDoor
open Go.RowKit
set_option linter.unusedVariables false

structure ActM where
  d : Int
  i : Int
  s : Int
  l : List Int
  m : List Int
  own : Bool
def ga (xs : List ActM) (k : Nat) : ActM := xs.getD k ⟨0, 0, 0, [], [], false⟩
/-- an act's six cells, from an address on -/
structure ActAt (w : World) (D : Nat → Prop) (b o : Nat) (lv mv : Value) (a : ActM) : Prop where
  c0 : w.cell? ⟨b, o, none⟩ = some (.int .i64 a.d)
  c1 : w.cell? ⟨b, o + 1, none⟩ = some (.int .i64 a.i)
  c2 : w.cell? ⟨b, o + 2, none⟩ = some (.int .i64 a.s)
  c3 : w.cell? ⟨b, o + 3, none⟩ = some lv
  c4 : w.cell? ⟨b, o + 4, none⟩ = some mv
  c5 : w.cell? ⟨b, o + 5, none⟩ = some (.bool a.own)
  l : IntsV w D lv a.l
  m : IntsV w D mv a.m
  lo : -9223372036854775808 ≤ a.s
def ActsV (w : World) (D : Nat → Prop) (v : Value) (xs : List ActM) : Prop :=
  ∃ ao cap, v = .slice ao xs.length cap ∧ xs.length ≤ 9223372036854775807 ∧ ∀ k, k < xs.length → ∃ b o lv mv, ao = some ⟨b, o, none⟩ ∧ D b ∧ ActAt w D b (o + k * 6) lv mv (ga xs k)
theorem ActAt.keep {w w1 : World} {D S : Nat → Prop} {b o : Nat} {lv mv : Value} {a : ActM} (h : ActAt w D b o lv mv a) (hb : D b) (hf : Fx S w w1) (hd : ∀ k, D k → ¬ S k) : ActAt w1 D b o lv mv a :=
  ⟨hf.cell' h.c0 (hd b hb), hf.cell' h.c1 (hd b hb), hf.cell' h.c2 (hd b hb), hf.cell' h.c3 (hd b hb), hf.cell' h.c4 (hd b hb), hf.cell' h.c5 (hd b hb), h.l.keep hf hd, h.m.keep hf hd, h.lo⟩
theorem ActsV.keep {w w1 : World} {D S : Nat → Prop} {v : Value} {xs : List ActM} (h : ActsV w D v xs) (hf : Fx S w w1) (hd : ∀ k, D k → ¬ S k) : ActsV w1 D v xs := by
  obtain ⟨ao, cap, h1, h2, h3⟩ := h
  refine ⟨ao, cap, h1, h2, fun k hk => ?_⟩
  obtain ⟨b, o, lv, mv, h4, h5, h6⟩ := h3 k hk
  exact ⟨b, o, lv, mv, h4, h5, h6.keep h5 hf hd⟩
def small (a : ActM) : Prop := a.l.length ≤ 40 ∧ a.m.length ≤ 40 ∧ a.s ≤ 400
def FewR (xs : List ActM) (e : Ending) : Prop := ∃ z, e = .returned (.bool z) ∧ (z = true → xs.length ≤ 30 ∧ ∀ k, k < xs.length → small (ga xs k))
theorem few_any {w : World} {D : Nat → Prop} {v : Value} {xs : List ActM} (h : ActsV w D v xs) :
    Calls Tryd.prog 27 #[v, .int .i64 30] w fun e w' => FewR xs e ∧ w = w' := by
  obtain ⟨ao, cap, rfl, hlen, hc⟩ := h
  have HC := Lib.hid hc
  obtain ⟨n, hn⟩ : ∃ n, n = xs.length := ⟨_, rfl⟩
  rw [← hn] at hlen
  rw [← hn]
  have HN := Lib.hid hn
  clear hc hn
  go_enter Tryd.func27, Tryd.ntmps27
  go_wp2
  go_loop [5] (fun i => ∃ k : Nat, i = .int .i64 k ∧ k ≤ n ∧ k ≤ 31 ∧ ∀ j, j < k → small (ga xs j)) (fun i => n - (intOf i).toNat)
  case atStart => exact ⟨0, rfl, Nat.zero_le _, by omega, fun j hj => by omega⟩
  case round =>
    obtain ⟨k, rfl, hk, hk31, hs⟩ := hrel
    have HS := Lib.hid hs
    clear hs
    by_cases hlt : k < n
    · by_cases h30 : k ≤ 30
      · obtain ⟨b, o, lv, mv, rfl, hD, h⟩ := HC.out k (by rw [← HN.out]; exact hlt)
        obtain ⟨lo, lcap, rfl, _, _⟩ := h.l.facts
        obtain ⟨mo, mcap, rfl, _, _⟩ := h.m.facts
        obtain ⟨q2, q3, q4⟩ : w.cell? ⟨b, o + k * 6 + 2, none⟩ = some (.int .i64 (ga xs k).s) ∧ _ ∧ _ := ⟨h.c2, h.c3, h.c4⟩
        have HX : Hid (small (ga xs k) ↔ (ga xs k).l.length ≤ 40 ∧ (ga xs k).m.length ≤ 40 ∧ (ga xs k).s ≤ 400) := Lib.hid Iff.rfl
        obtain ⟨s, hs⟩ : ∃ s, s = (ga xs k).s := ⟨_, rfl⟩
        obtain ⟨ln, hln⟩ : ∃ s, s = (ga xs k).l.length := ⟨_, rfl⟩
        obtain ⟨mn, hmn⟩ : ∃ s, s = (ga xs k).m.length := ⟨_, rfl⟩
        rw [← hs] at q2
        rw [← hln] at q3
        rw [← hmn] at q4
        have HX : Hid (small (ga xs k) ↔ ln ≤ 40 ∧ mn ≤ 40 ∧ s ≤ 400) := by rw [hs, hln, hmn]; exact Lib.hid Iff.rfl
        clear hs hln hmn h hD
        by_cases b1 : ln ≤ 40
        · by_cases b2 : mn ≤ 40
          · by_cases b3 : s ≤ 400
            · go_wp2
              go_round
              case rel => exact ⟨k + 1, by go_num, by omega, by omega, fun j hj => by
                by_cases e : j = k
                · subst e; exact HX.out.2 ⟨b1, b2, b3⟩
                · exact HS.out j (by omega)⟩
              case measure => simp [intOf]; omega
            · go_wp2
              go_ret
              exact ⟨⟨false, rfl, by simp⟩, rfl⟩
          · go_wp2
            go_ret
            exact ⟨⟨false, rfl, by simp⟩, rfl⟩
        · go_wp2
          go_ret
          exact ⟨⟨false, rfl, by simp⟩, rfl⟩
      · go_wp2
        go_ret
        exact ⟨⟨_, rfl, fun hz => by simp at hz; omega⟩, rfl⟩
    · obtain rfl : k = n := by omega
      go_wp2
      go_ret
      exact ⟨⟨_, rfl, fun hz => ⟨by rw [← HN.out]; simp at hz; omega, by rw [← HN.out]; exact HS.out⟩⟩, rfl⟩
#print axioms few_any
end Go.Proofs.YthbfpcheljaeaaaDoor
