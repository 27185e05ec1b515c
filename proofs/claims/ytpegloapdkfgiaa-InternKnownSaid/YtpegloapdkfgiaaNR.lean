/- intern: pairs compared; the closure that a table of pairs is sorted by. -/
import Derived.Test.YtpegloapdkfgiaaNM
import Derived.Test.YtpegloapdkfgiaaRegH
import Derived.Deep.RegionWith
namespace Go.Proofs.Ytpegloapdkfgiaa
open Go.RowKit Go.Sort Go.Shelf Go.Lib
set_option linter.unusedVariables false

/-- blocks may have been laid, draws made, and nothing else -/
def Gr (W W' : World) : Prop := ∃ q os, W' = grow (W.drewN q) os
theorem Gr.refl (W : World) : Gr W W := ⟨0, #[], by rw [grow_empty]; rfl⟩
theorem Gr.trans {W W1 W2 : World} (h : Gr W W1) (k : Gr W1 W2) : Gr W W2 := by
  obtain ⟨q, os, rfl⟩ := h
  obtain ⟨q', os', rfl⟩ := k
  refine ⟨q + q', os ++ os', ?_⟩
  show grow (grow ((W.drewN q).drewN q') os) os' = _
  rw [grow_grow]
  unfold World.drewN
  simp only [Nat.add_assoc]
theorem Gr.alloc {W W1 : World} (h : Gr W W1) (o : Obj) : Gr W (W1.alloc o) := h.trans ⟨0, #[o], by rw [alloc_eq_grow]; rfl⟩
theorem Gr.drew {W W1 : World} (h : Gr W W1) : Gr W W1.drew := h.trans ⟨1, #[], by rw [grow_empty]; rfl⟩
theorem Gr.drewN {W W1 : World} (h : Gr W W1) (n : Nat) : Gr W (W1.drewN n) := h.trans ⟨n, #[], by rw [grow_empty]⟩
theorem Gr.fx {W W1 : World} (h : Gr W W1) : Fx No W W1 := by
  obtain ⟨q, os, rfl⟩ := h
  refine ⟨rfl, rfl, rfl, by simp [World.drewN], fun k hk _ => ?_⟩
  exact heap_grow_old (W.drewN q) os hk
def cmpP (a b : Int × Int) : Int := if cmpU a.1 b.1 ≠ 0 then cmpU a.1 b.1 else cmpU a.2 b.2
theorem cmpP_lt (a b : Int × Int) : decide (cmpP a b < 0) = lessP a b := by
  rw [Bool.eq_iff_iff, decide_eq_true_iff, lessP_iff]
  unfold cmpP cmpU
  by_cases h1 : a.1 < b.1
  · simp [h1]
  · by_cases h2 : b.1 < a.1
    · have : ¬ a.1 = b.1 := by omega
      simp [h1, h2, this]
    · have : a.1 = b.1 := by omega
      by_cases h3 : a.2 < b.2
      · simp [h1, h2, h3, this]
      · by_cases h4 : b.2 < a.2 <;> simp [h1, h2, h3, h4, this]
theorem or_any {W : World} {g : Nat} {x y : Int} (h0 : W.cell? ⟨g, 0, none⟩ = some (.int .i64 x)) (h1 : W.cell? ⟨g, 1, none⟩ = some (.int .i64 y)) : Calls Try.prog 41 #[.slice (some ⟨g, 0, none⟩) 2 2] W fun e w' => e = .returned (.int .i64 (if x ≠ 0 then x else y)) ∧ w' = W := by
  by_cases hx : x = 0
  · have hxn : (x != 0) = false := by simpa using hx
    by_cases hy : y = 0
    · have hyn : (y != 0) = false := by simpa using hy
      subst hx hy
      go_enter Try.func41, Try.ntmps41
      go_wp2
      refine wp_loop_rounds 3 ?_
      rw [rounds_succ]
      go_wp2
      rw [rounds_succ]
      go_wp2
      rw [rounds_succ]
      go_wp2
      go_ret
      exact ⟨rfl, rfl⟩
    · have hyn : (y != 0) = true := by simpa using hy
      subst hx
      go_enter Try.func41, Try.ntmps41
      go_wp2
      refine wp_loop_rounds 2 ?_
      rw [rounds_succ]
      go_wp2
      rw [rounds_succ]
      go_wp2
      go_ret
      exact ⟨rfl, rfl⟩
  · have hxn : (x != 0) = true := by simpa using hx
    have he : (if x ≠ 0 then x else y) = x := if_pos hx
    rw [he]
    clear he
    go_enter Try.func41, Try.ntmps41
    go_wp2
    refine wp_loop_rounds 1 ?_
    rw [rounds_succ]
    go_wp2
    go_ret
    exact ⟨rfl, rfl⟩
theorem wpAnyH_hold {P : Program} {md : Region.Mode} {ops : Array Oper} {Q : Exit → Act → World → Prop} {S : World → Prop} {f : Nat} {L : Array Bool} {a : Act} {W : World} (R : World → Prop) (hR : R W) (h : ∀ W', R W' → wpAnyH P md ops Q S f L a W') : wpAnyH P md ops Q S f L a W := h W hR
set_option maxRecDepth 100000 in
set_option maxHeartbeats 4000000 in
theorem by_any (a b : Int × Int) (W : World) : Calls Try.prog 40 #[.agg #[.int .u64 a.1, .int .u64 a.2], .agg #[.int .u64 b.1, .int .u64 b.2]] W fun e w' => e = .returned (.int .i64 (cmpP a b)) ∧ Gr W w' := by
  obtain ⟨x, hx⟩ : ∃ x, x = cmpU a.1 b.1 := ⟨_, rfl⟩
  obtain ⟨y0, hy⟩ : ∃ y, y = cmpU a.2 b.2 := ⟨_, rfl⟩
  obtain ⟨z, hz⟩ : ∃ z, z = if x ≠ 0 then x else y0 := ⟨_, rfl⟩
  have HQ : Hid (cmpP a b = z) := Lib.hid (by rw [hz, hx, hy]; rfl)
  have KO : Hid (∀ (W : World) (g : Nat), W.cell? ⟨g, 0, none⟩ = some (.int .i64 x) → W.cell? ⟨g, 1, none⟩ = some (.int .i64 y0) → Calls Try.prog 41 #[.slice (some ⟨g, 0, none⟩) 2 2] W fun e w' => e = .returned (.int .i64 z) ∧ w' = W) := Lib.hid fun W g h0 h1 => by rw [hz]; exact or_any h0 h1
  have K1 : Hid (∀ W, Calls Try.prog 36 #[.int .u64 a.1, .int .u64 b.1] W fun e w' => e = .returned (.int .i64 x) ∧ w' = W) := Lib.hid fun W => by rw [hx]; exact compareU_any _ _ W
  have K2 : Hid (∀ W, Calls Try.prog 36 #[.int .u64 a.2, .int .u64 b.2] W fun e w' => e = .returned (.int .i64 y0) ∧ w' = W) := Lib.hid fun W => by rw [hy]; exact compareU_any _ _ W
  clear hx hy hz
  have h1 : ∀ W', Gr ((W.alloc (.cells #[.int .u64 a.1, .int .u64 a.2] 60)).alloc (.cells #[.int .u64 b.1, .int .u64 b.2] 60)) W' → W'.cell? ⟨W.heap.size, 0, none⟩ = some (.int .u64 a.1) := fun W' q => q.fx.cell' (by go_simp) (fun h => h)
  have h2 : ∀ W', Gr ((W.alloc (.cells #[.int .u64 a.1, .int .u64 a.2] 60)).alloc (.cells #[.int .u64 b.1, .int .u64 b.2] 60)) W' → W'.cell? ⟨W.heap.size, 1, none⟩ = some (.int .u64 a.2) := fun W' q => q.fx.cell' (by go_simp) (fun h => h)
  have h3 : ∀ W', Gr ((W.alloc (.cells #[.int .u64 a.1, .int .u64 a.2] 60)).alloc (.cells #[.int .u64 b.1, .int .u64 b.2] 60)) W' → W'.cell? ⟨W.heap.size + 1, 0, none⟩ = some (.int .u64 b.1) := fun W' q => q.fx.cell' (by go_simp) (fun h => h)
  have h4 : ∀ W', Gr ((W.alloc (.cells #[.int .u64 a.1, .int .u64 a.2] 60)).alloc (.cells #[.int .u64 b.1, .int .u64 b.2] 60)) W' → W'.cell? ⟨W.heap.size + 1, 1, none⟩ = some (.int .u64 b.2) := fun W' q => q.fx.cell' (by go_simp) (fun h => h)
  go_enter Try.func40, Try.ntmps40
  go_wp2
  refine wp_region_H (fun W' => Gr ((W.alloc (.cells #[.int .u64 a.1, .int .u64 a.2] 60)).alloc (.cells #[.int .u64 b.1, .int .u64 b.2] 60)) W') (by kernel_rfl) (Gr.refl _).drew ?_
  intro hS
  refine wpAnyH_take (i := 0) (v := ?_) rfl (by kernel_rfl) (by kernel_rfl) (by kernel_rfl) (fun _ _ _ h => h) (Or.inl ⟨by rfl, ?_⟩) hS ?_
  rotate_left
  · (intro W hs; go_simp; first | done | with_reducible rfl)
  try simp only [Act.put, List.getElem_toArray, List.getElem_cons_zero, List.getElem_cons_succ, List.setIfInBounds_toArray, List.set_cons_zero, List.set_cons_succ]
  refine wpAnyH_take (i := 2) (v := ?_) rfl (by kernel_rfl) (by kernel_rfl) (by kernel_rfl) (fun _ _ _ h => h) (Or.inl ⟨by rfl, ?_⟩) hS ?_
  rotate_left
  · (intro W hs; go_simp; first | done | with_reducible rfl)
  try simp only [Act.put, List.getElem_toArray, List.getElem_cons_zero, List.getElem_cons_succ, List.setIfInBounds_toArray, List.set_cons_zero, List.set_cons_succ]
  refine wpAnyH_take (i := 5) (v := ?_) rfl (by kernel_rfl) (by kernel_rfl) (by kernel_rfl) (fun _ _ _ h => h) (Or.inl ⟨by rfl, ?_⟩) hS ?_
  rotate_left
  · (intro W hs; go_simp; first | done | with_reducible rfl)
  try simp only [Act.put, List.getElem_toArray, List.getElem_cons_zero, List.getElem_cons_succ, List.setIfInBounds_toArray, List.set_cons_zero, List.set_cons_succ]
  refine wpAnyH_take (i := 7) (v := ?_) rfl (by kernel_rfl) (by kernel_rfl) (by kernel_rfl) (fun _ _ _ h => h) (Or.inl ⟨by rfl, ?_⟩) hS ?_
  rotate_left
  · (intro W hs; go_simp; first | done | with_reducible rfl)
  try simp only [Act.put, List.getElem_toArray, List.getElem_cons_zero, List.getElem_cons_succ, List.setIfInBounds_toArray, List.set_cons_zero, List.set_cons_succ]
  refine wpAnyH_take (i := 1) (v := ?_) rfl (by kernel_rfl) (by kernel_rfl) (by kernel_rfl) (fun _ _ _ h => h) (Or.inl ⟨by rfl, ?_⟩) hS ?_
  rotate_left
  · (intro W hs; go_simp; first | done | with_reducible rfl)
  try simp only [Act.put, List.getElem_toArray, List.getElem_cons_zero, List.getElem_cons_succ, List.setIfInBounds_toArray, List.set_cons_zero, List.set_cons_succ]
  refine wpAnyH_take (i := 3) (v := ?_) rfl (by kernel_rfl) (by kernel_rfl) (by kernel_rfl) (fun _ _ _ h => h) (Or.inl ⟨by rfl, ?_⟩) hS ?_
  rotate_left
  · (intro W hs; go_simp; first | done | with_reducible rfl)
  try simp only [Act.put, List.getElem_toArray, List.getElem_cons_zero, List.getElem_cons_succ, List.setIfInBounds_toArray, List.set_cons_zero, List.set_cons_succ]
  refine wpAnyH_take (i := 6) (v := ?_) rfl (by kernel_rfl) (by kernel_rfl) (by kernel_rfl) (fun _ _ _ h => h) (Or.inl ⟨by rfl, ?_⟩) hS ?_
  rotate_left
  · (intro W hs; go_simp; first | done | with_reducible rfl)
  try simp only [Act.put, List.getElem_toArray, List.getElem_cons_zero, List.getElem_cons_succ, List.setIfInBounds_toArray, List.set_cons_zero, List.set_cons_succ]
  refine wpAnyH_take (i := 8) (v := ?_) rfl (by kernel_rfl) (by kernel_rfl) (by kernel_rfl) (fun _ _ _ h => h) (Or.inl ⟨by rfl, ?_⟩) hS ?_
  rotate_left
  · (intro W hs; go_simp; first | done | with_reducible rfl)
  try simp only [Act.put, List.getElem_toArray, List.getElem_cons_zero, List.getElem_cons_succ, List.setIfInBounds_toArray, List.set_cons_zero, List.set_cons_succ]
  refine wpH_one (i := 4) (by kernel_rfl) rfl (fun K hK => ?_)
  go_simp
  refine (K1.out _).mono ?_
  rintro e y ⟨rfl, rfl⟩
  refine hK.out _ _ hS (fun hS' => ?_)
  clear hK K hS
  have hS := hS'
  clear hS'
  try simp only [Act.put, List.getElem_toArray, List.getElem_cons_zero, List.getElem_cons_succ, List.setIfInBounds_toArray, List.set_cons_zero, List.set_cons_succ]
  refine wpH_one (i := 9) (by kernel_rfl) rfl (fun K hK => ?_)
  go_simp
  refine (K2.out _).mono ?_
  rintro e y ⟨rfl, rfl⟩
  refine hK.out _ _ hS (fun hS' => ?_)
  clear hK K hS
  have hS := hS'
  clear hS'
  try simp only [Act.put, List.getElem_toArray, List.getElem_cons_zero, List.getElem_cons_succ, List.setIfInBounds_toArray, List.set_cons_zero, List.set_cons_succ]
  refine wpH_one (i := 10) (by kernel_rfl) rfl (fun K hK => ?_)
  go_simp
  refine hK.out _ _ (hS.alloc _) (fun hS' => ?_)
  clear hK K hS
  have hS := hS'
  clear hS'
  try simp only [Act.put, List.getElem_toArray, List.getElem_cons_zero, List.getElem_cons_succ, List.setIfInBounds_toArray, List.set_cons_zero, List.set_cons_succ]
  refine wpH_one (i := 11) (by kernel_rfl) rfl (fun K hK => ?_)
  go_simp
  refine (KO.out _ _ (by go_simp) (by go_simp)).mono ?_
  rintro e y ⟨rfl, rfl⟩
  refine hK.out _ _ hS (fun hS' => ?_)
  clear hK K hS
  have hS := hS'
  clear hS'
  try simp only [Act.put, List.getElem_toArray, List.getElem_cons_zero, List.getElem_cons_succ, List.setIfInBounds_toArray, List.set_cons_zero, List.set_cons_succ]
  refine wpAnyH_take (i := 12) (v := ?_) rfl (by kernel_rfl) (by kernel_rfl) (by kernel_rfl) (fun _ _ _ h => h) (Or.inl ⟨by rfl, ?_⟩) hS ?_
  rotate_left
  · (intro W hs; go_simp; first | done | with_reducible rfl)
  try simp only [Act.put, List.getElem_toArray, List.getElem_cons_zero, List.getElem_cons_succ, List.setIfInBounds_toArray, List.set_cons_zero, List.set_cons_succ]
  refine wpAnyH_done (by kernel_rfl) ?_ _
  clear h1 h2 h3 h4
  go_wp2
  go_ret
  exact ⟨by rw [HQ.out]; rfl, (((Gr.refl W).alloc _).alloc _).trans hS⟩
/-- the closure that compares two numbers' pairs -/
theorem closP_any {W : World} {bb cb b : Nat} {nao : Option Addr} {n ncap x y : Nat} {a c : Int × Int} (h1 : W.cell? ⟨bb, 0, none⟩ = some (.func (.func 40) #[] #[])) (h2 : W.cell? ⟨cb, 0, none⟩ = some (.pointer (some ⟨b, 0, none⟩)))
    (h3 : W.cell? ⟨b, 1, none⟩ = some (.slice nao n ncap)) (hx : x < n) (hy : y < n) (hxc : ∃ g o, nao = some ⟨g, o, none⟩ ∧ (W.cell? ⟨g, o + x * 2, none⟩ = some (.int .u64 a.1) ∧ W.cell? ⟨g, o + x * 2 + 1, none⟩ = some (.int .u64 a.2)) ∧ W.cell? ⟨g, o + y * 2, none⟩ = some (.int .u64 c.1) ∧ W.cell? ⟨g, o + y * 2 + 1, none⟩ = some (.int .u64 c.2)) :
    Calls Try.prog 47 #[.int .i64 (x : Nat), .int .i64 (y : Nat), .pointer (some ⟨bb, 0, none⟩), .pointer (some ⟨cb, 0, none⟩)] W fun e w' => e = .returned (.int .i64 (cmpP a c)) ∧ Gr W w' := by
  obtain ⟨g, o, rfl, ⟨h4, h5⟩, h6, h7⟩ := hxc
  have x0 : (0 : Int) ≤ (x : Int) := by omega
  have x1 : (x : Int) < (n : Int) := by omega
  have y0 : (0 : Int) ≤ (y : Int) := by omega
  have y1 : (y : Int) < (n : Int) := by omega
  have q1 : ∀ W', Gr W W' → W'.cell? ⟨bb, 0, none⟩ = some (.func (.func 40) #[] #[]) := fun W' q => q.fx.cell' h1 (fun h => h)
  have q2 : ∀ W', Gr W W' → W'.cell? ⟨cb, 0, none⟩ = some (.pointer (some ⟨b, 0, none⟩)) := fun W' q => q.fx.cell' h2 (fun h => h)
  have q3 : ∀ W', Gr W W' → W'.cell? ⟨b, 1, none⟩ = some (.slice (some ⟨g, o, none⟩) n ncap) := fun W' q => q.fx.cell' h3 (fun h => h)
  have q4 : ∀ W', Gr W W' → W'.cell? ⟨g, o + x * 2, none⟩ = some (.int .u64 a.1) := fun W' q => q.fx.cell' h4 (fun h => h)
  have q5 : ∀ W', Gr W W' → W'.cell? ⟨g, o + x * 2 + 1, none⟩ = some (.int .u64 a.2) := fun W' q => q.fx.cell' h5 (fun h => h)
  have q6 : ∀ W', Gr W W' → W'.cell? ⟨g, o + y * 2, none⟩ = some (.int .u64 c.1) := fun W' q => q.fx.cell' h6 (fun h => h)
  have q7 : ∀ W', Gr W W' → W'.cell? ⟨g, o + y * 2 + 1, none⟩ = some (.int .u64 c.2) := fun W' q => q.fx.cell' h7 (fun h => h)
  clear h1 h2 h3 h4 h5 h6 h7
  go_enter Try.func47, Try.ntmps47
  go_wp2
  refine wp_region_H (fun W' => Gr W W') (by kernel_rfl) (Gr.refl _).drew ?_
  intro hS
  refine wpAnyH_take (i := 0) (v := ?_) rfl (by kernel_rfl) (by kernel_rfl) (by kernel_rfl) (fun _ _ _ h => h) (Or.inl ⟨by rfl, ?_⟩) hS ?_
  rotate_left
  · (intro W hs; go_simp; first | done | with_reducible rfl)
  try simp only [Act.put, List.getElem_toArray, List.getElem_cons_zero, List.getElem_cons_succ, List.setIfInBounds_toArray, List.set_cons_zero, List.set_cons_succ]
  refine wpAnyH_take (i := 1) (v := ?_) rfl (by kernel_rfl) (by kernel_rfl) (by kernel_rfl) (fun _ _ _ h => h) (Or.inl ⟨by rfl, ?_⟩) hS ?_
  rotate_left
  · (intro W hs; go_simp; first | done | with_reducible rfl)
  try simp only [Act.put, List.getElem_toArray, List.getElem_cons_zero, List.getElem_cons_succ, List.setIfInBounds_toArray, List.set_cons_zero, List.set_cons_succ]
  refine wpAnyH_take (i := 5) (v := ?_) rfl (by kernel_rfl) (by kernel_rfl) (by kernel_rfl) (fun _ _ _ h => h) (Or.inl ⟨by rfl, ?_⟩) hS ?_
  rotate_left
  · (intro W hs; go_simp; first | done | with_reducible rfl)
  try simp only [Act.put, List.getElem_toArray, List.getElem_cons_zero, List.getElem_cons_succ, List.setIfInBounds_toArray, List.set_cons_zero, List.set_cons_succ]
  refine wpAnyH_take (i := 8) (v := ?_) rfl (by kernel_rfl) (by kernel_rfl) (by kernel_rfl) (fun _ _ _ h => h) (Or.inl ⟨by rfl, ?_⟩) hS ?_
  rotate_left
  · (intro W hs; go_simp; first | done | with_reducible rfl)
  try simp only [Act.put, List.getElem_toArray, List.getElem_cons_zero, List.getElem_cons_succ, List.setIfInBounds_toArray, List.set_cons_zero, List.set_cons_succ]
  refine wpAnyH_take (i := 12) (v := ?_) rfl (by kernel_rfl) (by kernel_rfl) (by kernel_rfl) (fun _ _ _ h => h) (Or.inl ⟨by rfl, ?_⟩) hS ?_
  rotate_left
  · (intro W hs; go_simp; first | done | with_reducible rfl)
  try simp only [Act.put, List.getElem_toArray, List.getElem_cons_zero, List.getElem_cons_succ, List.setIfInBounds_toArray, List.set_cons_zero, List.set_cons_succ]
  refine wpAnyH_take (i := 2) (v := ?_) rfl (by kernel_rfl) (by kernel_rfl) (by kernel_rfl) (fun _ _ _ h => h) (Or.inl ⟨by rfl, ?_⟩) hS ?_
  rotate_left
  · (intro W hs; go_simp; first | done | with_reducible rfl)
  try simp only [Act.put, List.getElem_toArray, List.getElem_cons_zero, List.getElem_cons_succ, List.setIfInBounds_toArray, List.set_cons_zero, List.set_cons_succ]
  refine wpAnyH_take (i := 3) (v := ?_) rfl (by kernel_rfl) (by kernel_rfl) (by kernel_rfl) (fun _ _ _ h => h) (Or.inl ⟨by rfl, ?_⟩) hS ?_
  rotate_left
  · (intro W hs; go_simp; first | done | with_reducible rfl)
  try simp only [Act.put, List.getElem_toArray, List.getElem_cons_zero, List.getElem_cons_succ, List.setIfInBounds_toArray, List.set_cons_zero, List.set_cons_succ]
  refine wpAnyH_take (i := 4) (v := ?_) rfl (by kernel_rfl) (by kernel_rfl) (by kernel_rfl) (fun _ _ _ h => h) (Or.inl ⟨by rfl, ?_⟩) hS ?_
  rotate_left
  · (intro W hs; go_simp; first | done | with_reducible rfl)
  try simp only [Act.put, List.getElem_toArray, List.getElem_cons_zero, List.getElem_cons_succ, List.setIfInBounds_toArray, List.set_cons_zero, List.set_cons_succ]
  refine wpAnyH_take (i := 6) (v := ?_) rfl (by kernel_rfl) (by kernel_rfl) (by kernel_rfl) (fun _ _ _ h => h) (Or.inl ⟨by rfl, ?_⟩) hS ?_
  rotate_left
  · (intro W hs; go_simp; first | done | with_reducible rfl)
  try simp only [Act.put, List.getElem_toArray, List.getElem_cons_zero, List.getElem_cons_succ, List.setIfInBounds_toArray, List.set_cons_zero, List.set_cons_succ]
  refine wpAnyH_take (i := 7) (v := ?_) rfl (by kernel_rfl) (by kernel_rfl) (by kernel_rfl) (fun _ _ _ h => h) (Or.inl ⟨by rfl, ?_⟩) hS ?_
  rotate_left
  · (intro W hs; go_simp; first | done | with_reducible rfl)
  try simp only [Act.put, List.getElem_toArray, List.getElem_cons_zero, List.getElem_cons_succ, List.setIfInBounds_toArray, List.set_cons_zero, List.set_cons_succ]
  refine wpAnyH_take (i := 9) (v := ?_) rfl (by kernel_rfl) (by kernel_rfl) (by kernel_rfl) (fun _ _ _ h => h) (Or.inl ⟨by rfl, ?_⟩) hS ?_
  rotate_left
  · (intro W hs; go_simp; first | done | with_reducible rfl)
  try simp only [Act.put, List.getElem_toArray, List.getElem_cons_zero, List.getElem_cons_succ, List.setIfInBounds_toArray, List.set_cons_zero, List.set_cons_succ]
  refine wpAnyH_take (i := 10) (v := ?_) rfl (by kernel_rfl) (by kernel_rfl) (by kernel_rfl) (fun _ _ _ h => h) (Or.inl ⟨by rfl, ?_⟩) hS ?_
  rotate_left
  · (intro W hs; go_simp; first | done | with_reducible rfl)
  try simp only [Act.put, List.getElem_toArray, List.getElem_cons_zero, List.getElem_cons_succ, List.setIfInBounds_toArray, List.set_cons_zero, List.set_cons_succ]
  refine wpAnyH_take (i := 11) (v := ?_) rfl (by kernel_rfl) (by kernel_rfl) (by kernel_rfl) (fun _ _ _ h => h) (Or.inl ⟨by rfl, ?_⟩) hS ?_
  rotate_left
  · (intro W hs; go_simp; first | done | with_reducible rfl)
  try simp only [Act.put, List.getElem_toArray, List.getElem_cons_zero, List.getElem_cons_succ, List.setIfInBounds_toArray, List.set_cons_zero, List.set_cons_succ]
  refine wpAnyH_take (i := 13) (v := ?_) rfl (by kernel_rfl) (by kernel_rfl) (by kernel_rfl) (fun _ _ _ h => h) (Or.inl ⟨by rfl, ?_⟩) hS ?_
  rotate_left
  · (intro W hs; go_simp; first | done | with_reducible rfl)
  try simp only [Act.put, List.getElem_toArray, List.getElem_cons_zero, List.getElem_cons_succ, List.setIfInBounds_toArray, List.set_cons_zero, List.set_cons_succ]
  refine wpAnyH_take (i := 14) (v := ?_) rfl (by kernel_rfl) (by kernel_rfl) (by kernel_rfl) (fun _ _ _ h => h) (Or.inl ⟨by rfl, ?_⟩) hS ?_
  rotate_left
  · (intro W hs; go_simp; first | done | with_reducible rfl)
  try simp only [Act.put, List.getElem_toArray, List.getElem_cons_zero, List.getElem_cons_succ, List.setIfInBounds_toArray, List.set_cons_zero, List.set_cons_succ]
  refine wpH_one (i := 15) (by kernel_rfl) rfl (fun K hK => ?_)
  go_simp
  refine (by_any a c _).mono ?_
  rintro e y ⟨rfl, hg⟩
  refine hK.out _ _ (hS.trans hg) (fun hS' => ?_)
  clear hg
  clear hK K hS
  have hS := hS'
  clear hS'
  try simp only [Act.put, List.getElem_toArray, List.getElem_cons_zero, List.getElem_cons_succ, List.setIfInBounds_toArray, List.set_cons_zero, List.set_cons_succ]
  refine wpAnyH_take (i := 16) (v := ?_) rfl (by kernel_rfl) (by kernel_rfl) (by kernel_rfl) (fun _ _ _ h => h) (Or.inl ⟨by rfl, ?_⟩) hS ?_
  rotate_left
  · (intro W hs; go_simp; first | done | with_reducible rfl)
  try simp only [Act.put, List.getElem_toArray, List.getElem_cons_zero, List.getElem_cons_succ, List.setIfInBounds_toArray, List.set_cons_zero, List.set_cons_succ]
  refine wpAnyH_done (by kernel_rfl) ?_ _
  clear q1 q2 q3 q4 q5 q6 q7
  go_wp2
  go_ret
  exact ⟨rfl, hS⟩
#print axioms closP_any
end Go.Proofs.Ytpegloapdkfgiaa
