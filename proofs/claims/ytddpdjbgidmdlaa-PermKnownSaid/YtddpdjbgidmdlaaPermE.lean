/- perm.Respects and what it calls. -/
import Derived.Test.YtddpdjbgidmdlaaPermD
namespace Go.Proofs.Ytddpdjbgidmdlaa
open Go.RowKit
set_option linter.unusedVariables false

def inB (n : Nat) (i : Int) : Bool := decide (0 ≤ i ∧ i < n)
theorem there_any {w : World} {A n cap : Nat} {ao : Option Addr} (hc : w.cell? ⟨A, 0, none⟩ = some (.slice ao n cap)) (i : Int) :
    Calls Try.prog 42 #[.int .i64 i, .pointer (some ⟨A, 0, none⟩)] w fun e w' => e = .returned (.bool (inB n i)) ∧ w' = w := by
  by_cases h0 : 0 ≤ i
  · by_cases h1 : i < n
    · have HB : Hid (inB n i = true) := decide_eq_true ⟨h0, h1⟩
      go_enter Try.func42, Try.ntmps42
      go_wp2
      go_ret
      exact ⟨by rw [HB.out]; rfl, rfl⟩
    · have HB : Hid (inB n i = false) := decide_eq_false fun h => h1 h.2
      have hd : decide (i < (n : Int)) = false := decide_eq_false h1
      clear h1
      go_enter Try.func42, Try.ntmps42
      go_wp2
      go_ret
      exact ⟨by rw [HB.out]; rfl, rfl⟩
  · have HB : Hid (inB n i = false) := decide_eq_false fun h => h0 h.1
    have h0' : i < 0 := by omega
    clear h0
    go_enter Try.func42, Try.ntmps42
    go_wp2
    go_ret
    exact ⟨by rw [HB.out]; rfl, rfl⟩
/-- is a pair not respected? -/
def badB (l : List Int) (q : Int × Int) : Bool := !inB l.length q.1 || !inB l.length q.2 || decide (gi l q.2.toNat ≤ gi l q.1.toNat)
set_option maxHeartbeats 1000000 in
theorem bad_any {w : World} {D : Nat → Prop} {A B n cap : Nat} {ao : Option Addr} {l : List Int} (hl : IntsV w D (.slice ao l.length cap) l) (hc : w.cell? ⟨A, 0, none⟩ = some (.slice ao l.length cap))
    (hB : w.cell? ⟨B, 0, none⟩ = some (.func (.func 42) #[] #[.pointer (some ⟨A, 0, none⟩)])) (q : Int × Int) :
    Calls Try.prog 44 #[.agg #[.int .i64 q.1, .int .i64 q.2], .pointer (some ⟨B, 0, none⟩), .pointer (some ⟨A, 0, none⟩)] w fun e w' => e = .returned (.bool (badB l q)) ∧ Fx No w w' := by
  obtain ⟨x, y⟩ := q
  obtain ⟨_, _, e0, hl63, hcell⟩ := hl.facts
  simp only [Value.slice.injEq] at e0
  obtain ⟨rfl, _, rfl⟩ := e0
  have HC := Lib.hid hcell
  obtain ⟨len, hlen⟩ : ∃ k, k = l.length := ⟨_, rfl⟩
  rw [← hlen] at hc hl63
  have HLen := Lib.hid hlen
  obtain ⟨w0, hw0⟩ : ∃ w0, w0 = w.alloc (.cells #[.int .i64 x, .int .i64 y] 47) := ⟨_, rfl⟩
  have hf0 : Fx No w w0 := by rw [hw0]; exact (Fx.refl No w).alloc _
  have x0 : w0.cell? ⟨w.heap.size, 0, none⟩ = some (.int .i64 x) := by rw [hw0]; simp
  have x1 : w0.cell? ⟨w.heap.size, 1, none⟩ = some (.int .i64 y) := by rw [hw0]; simp
  have c5 := hf0.cell' hc (fun h => h)
  have c7 := hf0.cell' hB (fun h => h)
  have HF0 := Lib.hid hf0
  have HW0 := Lib.hid hw0
  clear hlen hcell hl hc hB hf0 hw0
  simp only
  rcases hx : inB len x with _ | _
  · have HX := Lib.hid hx
    have HB : Hid (badB l (x, y) = true) := by show badB l (x, y) = true; unfold badB; rw [← HLen.out, hx]; rfl
    clear hx
    go_enter Try.func44, Try.ntmps44
    go_wp2_with fail
    rw [← HW0.out]
    have K1 : Hid (∀ m, Calls Try.prog 42 #[.int .i64 x, .pointer (some ⟨A, 0, none⟩)] (w0.drewN m) fun e w' => e = .returned (.bool false) ∧ w' = w0.drewN m) := fun m => by
      rw [← HX.out]; exact there_any (w := w0.drewN m) c5 x
    go_quiet ((go_at_call 42; exact Calls.quiet_of_same (K1.out _)))
    go_wp2
    go_ret
    exact ⟨by rw [HB.out]; rfl, HF0.out.drewN _⟩
  · have HX := Lib.hid hx
    rcases hy : inB len y with _ | _
    · have HY := Lib.hid hy
      have HB : Hid (badB l (x, y) = true) := by show badB l (x, y) = true; unfold badB; rw [← HLen.out, hx, hy]; rfl
      clear hx hy
      go_enter Try.func44, Try.ntmps44
      go_wp2_with fail
      rw [← HW0.out]
      have K1 : Hid (∀ m, Calls Try.prog 42 #[.int .i64 x, .pointer (some ⟨A, 0, none⟩)] (w0.drewN m) fun e w' => e = .returned (.bool true) ∧ w' = w0.drewN m) := fun m => by
        rw [← HX.out]; exact there_any (w := w0.drewN m) c5 x
      have K2 : Hid (∀ m, Calls Try.prog 42 #[.int .i64 y, .pointer (some ⟨A, 0, none⟩)] (w0.drewN m) fun e w' => e = .returned (.bool false) ∧ w' = w0.drewN m) := fun m => by
        rw [← HY.out]; exact there_any (w := w0.drewN m) c5 y
      go_quiet ((go_at_call 42; first | with_reducible exact Calls.quiet_of_same (K1.out _) | with_reducible exact Calls.quiet_of_same (K2.out _)))
      go_wp2
      go_ret
      exact ⟨by rw [HB.out]; rfl, HF0.out.drewN _⟩
    · have HY := Lib.hid hy
      have HB : Hid (badB l (x, y) = decide (gi l y.toNat ≤ gi l x.toNat)) := by show badB l (x, y) = _; unfold badB; rw [← HLen.out, hx, hy]; simp
      obtain ⟨x0, x2⟩ : 0 ≤ x ∧ x < len := by simpa [inB] using hx
      obtain ⟨y0, y2⟩ : 0 ≤ y ∧ y < len := by simpa [inB] using hy
      obtain ⟨a, rfl⟩ := Int.eq_ofNat_of_zero_le x0
      obtain ⟨c, rfl⟩ := Int.eq_ofNat_of_zero_le y0
      have ha : a < len := by omega
      have hc : c < len := by omega
      obtain ⟨g, o, rfl, _, m1⟩ := HC.out a (by rw [← HLen.out]; exact ha)
      obtain ⟨g', o', e2, _, m2⟩ := HC.out c (by rw [← HLen.out]; exact hc)
      obtain ⟨rfl, rfl⟩ : g = g' ∧ o = o' := by simpa using e2
      have m1 := HF0.out.cell' m1 (fun h => h)
      have m2 := HF0.out.cell' m2 (fun h => h)
      have HB : Hid (badB l ((a : Int), (c : Int)) = decide (gi l c ≤ gi l a)) := by
        have := HB.out
        exact Lib.hid (by simpa only [Int.toNat_natCast] using this)
      clear hx hy e2 ha hc
      obtain ⟨ga', hga⟩ : ∃ z, z = gi l a := ⟨_, rfl⟩
      obtain ⟨gc', hgc⟩ : ∃ z, z = gi l c := ⟨_, rfl⟩
      rw [← hga] at m1
      rw [← hgc] at m2
      have HB : Hid (badB l ((a : Int), (c : Int)) = decide (gc' ≤ ga')) := by rw [hga, hgc]; exact HB
      clear hga hgc
      go_enter Try.func44, Try.ntmps44
      go_wp2_with fail
      rw [← HW0.out]
      have K1 : Hid (∀ m, Calls Try.prog 42 #[.int .i64 (a : Int), .pointer (some ⟨A, 0, none⟩)] (w0.drewN m) fun e w' => e = .returned (.bool true) ∧ w' = w0.drewN m) := fun m => by
        rw [← HX.out]; exact there_any (w := w0.drewN m) c5 (a : Int)
      have K2 : Hid (∀ m, Calls Try.prog 42 #[.int .i64 (c : Int), .pointer (some ⟨A, 0, none⟩)] (w0.drewN m) fun e w' => e = .returned (.bool true) ∧ w' = w0.drewN m) := fun m => by
        rw [← HY.out]; exact there_any (w := w0.drewN m) c5 (c : Int)
      go_quiet ((go_at_call 42; first | with_reducible exact Calls.quiet_of_same (K1.out _) | with_reducible exact Calls.quiet_of_same (K2.out _)))
      go_wp2
      go_ret
      exact ⟨by rw [HB.out]; rfl, HF0.out.drewN _⟩
#print axioms bad_any
end Go.Proofs.Ytddpdjbgidmdlaa
