/- closure's made: sets of no numbers. -/
import Derived.Test.YtfpggeiphbekoaaDoorFamB
namespace Go.Proofs.YtfpggeiphbekoaaDoor
open Go.RowKit
set_option linter.unusedVariables false

/-- the world under a name, with what is known of it -/
theorem wp_hold {P : Program} {c : Code} {Q : Exit → Act → World → Prop} {a : Act} {W : World} (R : World → Prop) (hR : R W) (h : ∀ W', R W' → c.wp P Q a W') : c.wp P Q a W := h W hR
theorem info_setp : (Tryd.prog.info? 82).map (fun i => (i.zero, i.size, i.bytes)) = some (some (.pointer none), 1, 8) := by kernel_rfl
def nilPtrs (k : Nat) : Array Value := Array.replicate k (.pointer none)
theorem makePtrs {E : Int} {k : Nat} (h0 : 0 ≤ E) (h1 : E ≤ 1000000) (hk : E.toNat = k) (w : World) :
    (Instr.makeSlice 69 (.int .i64 E) (.int .i64 E)).run Tryd.prog w = .ok (.slice (some ⟨w.heap.size, 0, none⟩) k k) (w.alloc (.cells (nilPtrs k) 82)) := by
  obtain ⟨i, hi, hz, hs, hb⟩ := info_parts info_setp
  have := run_make (P := Tryd.prog) w 69 82 i _ Tryd.underlying69 hi hz .i64 .i64 E E h0 (Int.le_refl _) (by rw [hb]; omega) (by omega)
  rw [this, hk, hs]
  have e : madeCells (Value.pointer none).cells (k * 1) = nilPtrs k := by
    apply Array.ext'
    rw [show (Value.pointer none).cells = #[.pointer none] from rfl, toList_madeCells_one]
    simp [nilPtrs]
  rw [e]
/-- cells of a block that read as a function's pointers, and may be written -/
def CellsQ (w : World) (g n : Nat) (P : Nat → Option Addr) : Prop := ∀ k, k < n → w.cell? ⟨g, k, none⟩ = some (.pointer (P k)) ∧ w.frozen? ⟨g, k, none⟩ = false
theorem CellsQ.fx {S : Nat → Prop} {w w' : World} {g n : Nat} {P : Nat → Option Addr} (h : CellsQ w g n P) (hf : Fx S w w') (hn : ¬ S g) : CellsQ w' g n P := fun k hk => hf.cellF (h k hk).1 (h k hk).2 hn
theorem CellsQ.set {w : World} {g n x : Nat} {P : Nat → Option Addr} (h : CellsQ w g n P) (hx : x < n) (a : Option Addr) : CellsQ (w.setCell ⟨g, x, none⟩ (.pointer a)) g n (fun k => if k = x then a else P k) := by
  intro k hk
  refine ⟨?_, by simpa using (h k hk).2⟩
  by_cases e : k = x
  · subst e; simp only [↓reduceIte]; exact World.cell?_setCell_same _ _ _ (h k hk).1
  · simp only [if_neg e]
    rw [World.cell?_setCell_other _ _ _ _ (by intro e2; injection e2; omega)]
    exact (h k hk).1
theorem CellsQ.congr {w : World} {g n : Nat} {P Q : Nat → Option Addr} (h : CellsQ w g n P) (e : ∀ k, k < n → P k = Q k) : CellsQ w g n Q := fun k hk => by rw [← e k hk]; exact h k hk
/-- the first k sets are made -/
structure MadeS (w ws : World) (n k sb rb qb : Nat) (B L : Nat → Nat) : Prop where
  fx : Fx No w ws
  cells : CellsQ ws sb n (fun j => if j < k then some ⟨B j, 0, none⟩ else none)
  rc : ws.cell? ⟨rb, 0, none⟩ = some (.slice (some ⟨sb, 0, none⟩) n n)
  qc : ∃ u, ws.cell? ⟨qb, 0, none⟩ = some u ∧ ws.frozen? ⟨qb, 0, none⟩ = false
  set : ∀ j, j < k → SetIn ws (Iv (L j) (L (j + 1))) (B j) n 0
  mono : ∀ j, j < k → L j ≤ L (j + 1)
  top : L k ≤ ws.heap.size
  lo : w.heap.size ≤ sb ∧ sb < L 0 ∧ rb < L 0 ∧ qb < L 0 ∧ sb ≠ rb ∧ sb ≠ qb ∧ rb ≠ qb ∧ w.heap.size ≤ qb
theorem mono_le {L : Nat → Nat} {k : Nat} (h : ∀ j, j < k → L j ≤ L (j + 1)) : ∀ i j, i ≤ j → j ≤ k → L i ≤ L j := by
  intro i j hij
  induction hij with
  | refl => exact fun _ => Nat.le_refl _
  | step hij ih => exact fun hj => Nat.le_trans (ih (by omega)) (h _ (by omega))
theorem MadeS.step {w ws w1 : World} {n k sb rb qb b s0 : Nat} {B L : Nat → Nat} (h : MadeS w ws n k sb rb qb B L) (hk : k < n) (hf : Fx No ws w1) (h0 : ws.heap.size ≤ s0) (hs0 : s0 ≤ w1.heap.size) (hs : SetIn w1 (Iv s0 w1.heap.size) b n 0) :
    MadeS w (w1.setCell ⟨sb, k, none⟩ (.pointer (some ⟨b, 0, none⟩))) n (k + 1) sb rb qb (fun j => if j = k then b else B j) (fun j => if j ≤ k then L j else w1.heap.size) := by
  obtain ⟨l1, l2, l3, l4, l5, l6, l7, l8⟩ := h.lo
  have hL := mono_le h.mono
  have hf2 : Fx (fun j => j = sb) w1 (w1.setCell ⟨sb, k, none⟩ (.pointer (some ⟨b, 0, none⟩))) := Fx.put _ _ _ _
  have htop := h.top
  refine ⟨(h.fx.trans hf).setCell (.inl l1) _, ?_, ?_, ?_, fun j hj => ?_, fun j hj => ?_, ?_, by simpa using h.lo⟩
  · refine ((h.cells.fx hf (fun h => h)).set hk _).congr fun j hj => ?_
    by_cases e : j = k
    · subst e; simp
    · rw [if_neg e]
      by_cases e2 : j < k
      · simp [e2, show j < k + 1 by omega, e]
      · simp [e2, show ¬ j < k + 1 by omega]
  · exact hf2.cell' (hf.cell' h.rc (fun h => h)) (fun e => l5 e.symm)
  · obtain ⟨u, h1, h2⟩ := h.qc
    obtain ⟨h3, h4⟩ := hf.cellF h1 h2 (fun h => h)
    exact ⟨u, hf2.cellF h3 h4 (fun e => l6 e.symm)⟩
  · by_cases e : j = k
    · subst e
      simp only [Nat.le_refl, if_true, show ¬ j + 1 ≤ j by omega, if_false]
      exact (hs.keep hf2 (by rintro x ⟨hx, _⟩ e; have := hL 0 j (Nat.zero_le _) (Nat.le_refl _); omega)).mono fun x hx => ⟨by have := hx.1; omega, by have := hx.2; exact this⟩
    · have hjk : j < k := by omega
      simp only [if_neg e, show j ≤ k by omega, show j + 1 ≤ k by omega, if_true]
      exact ((h.set j hjk).no hf).keep hf2 (by rintro x ⟨hx, _⟩ e; have := hL 0 j (Nat.zero_le _) (by omega); omega)
  · by_cases e : j = k
    · subst e
      simp only [Nat.le_refl, if_true, show ¬ j + 1 ≤ j by omega, if_false]
      have := hf.size; omega
    · simp only [show j ≤ k by omega, show j + 1 ≤ k by omega, if_true]
      exact h.mono j (by omega)
  · simp only [show ¬ k + 1 ≤ k by omega, if_false]
    simp [World.setCell]
theorem MadeS.put {w ws : World} {n k sb rb qb : Nat} {B L : Nat → Nat} (h : MadeS w ws n k sb rb qb B L) (v : Value) : MadeS w (ws.setCell ⟨qb, 0, none⟩ v) n k sb rb qb B L := by
  obtain ⟨l1, l2, l3, l4, l5, l6, l7, l8⟩ := h.lo
  have hL := mono_le h.mono
  have hf2 : Fx (fun j => j = qb) ws (ws.setCell ⟨qb, 0, none⟩ v) := Fx.put _ _ _ _
  obtain ⟨u, h1, h2⟩ := h.qc
  exact ⟨h.fx.setCell (.inl l8) _, h.cells.fx hf2 l6, hf2.cell' h.rc l7, ⟨v, World.cell?_setCell_same _ _ _ h1, by simpa using h2⟩,
    fun j hj => (h.set j hj).keep hf2 (by rintro x ⟨hx, _⟩ e; have := hL 0 j (Nat.zero_le _) (by omega); omega), h.mono, by simpa [World.setCell] using h.top, h.lo⟩
theorem MadeS.fam {w ws : World} {n sb rb qb : Nat} {B L : Nat → Nat} (h : MadeS w ws n n sb rb qb B L) (hn : n ≤ 1024) :
    Fam ws (Iv w.heap.size ws.heap.size) n (fun _ => 0) ⟨.slice (some ⟨sb, 0, none⟩) n n, B, fun k => k = sb, fun i k => i < n ∧ Iv (L i) (L (i + 1)) k⟩ := by
  obtain ⟨l1, l2, l3, l4, l5, l6, l7, l8⟩ := h.lo
  have hL := mono_le h.mono
  have htop := h.top
  have hsb : L 0 ≤ L n := hL 0 n (Nat.zero_le _) (Nat.le_refl _)
  refine ⟨?_, fun i hi => (h.set i hi).mono fun k hk => ⟨hi, hk⟩, ?_, ?_, ?_, ?_⟩
  · refine ⟨_, n, rfl, Nat.le_refl _, by unfold maxLen; omega, by rw [bptr_length]; omega, by simp, .inr ⟨sb, 0, rfl, rfl, fun i hi => ?_⟩⟩
    rw [bptr_length] at hi
    rw [Nat.zero_add, (h.cells i hi).1]
    simp [List.getD, bptr_at hi, hi]
  · rintro i j k ⟨hi, h1, h2⟩ ⟨hj, h3, h4⟩
    apply Classical.byContradiction
    intro hne
    rcases Nat.lt_or_gt_of_ne hne with hlt | hlt
    · have := hL (i + 1) j (by omega) (by omega); omega
    · have := hL (j + 1) i (by omega) (by omega); omega
  · rintro i k ⟨hi, h1, h2⟩ e
    have := hL 0 i (Nat.zero_le _) (by omega)
    have e : k = sb := e
    omega
  · rintro k rfl
    exact ⟨l1, by omega⟩
  · rintro i k ⟨hi, h1, h2⟩
    have := hL 0 i (Nat.zero_le _) (by omega)
    have := hL (i + 1) n (by omega) (by omega)
    exact ⟨by omega, by omega⟩
theorem madeS_start (w : World) (n : Nat) (t1 t2 : TypeId) (u : Value) :
    MadeS w (((w.alloc (.cells #[u] t1)).alloc (.cells (nilPtrs n) 82)).alloc (.cells #[.slice (some ⟨w.heap.size + 1, 0, none⟩) n n] t2)) n 0 (w.heap.size + 1) (w.heap.size + 2) w.heap.size (fun _ => 0) (fun _ => w.heap.size + 3) := by
  refine ⟨((((Fx.refl No w).alloc _).alloc _).alloc _), fun k hk => ?_, ?_, ⟨u, ?_, ?_⟩, fun j hj => by omega, fun j hj => by omega, ?_, by omega, by omega, by omega, by omega, by omega, by omega, by omega, by omega⟩
  · have h1 := heap_alloc_new (w.alloc (.cells #[u] t1)) (.cells (nilPtrs n) 82)
    have h2 := ((Fx.refl No ((w.alloc (.cells #[u] t1)).alloc (.cells (nilPtrs n) 82))).alloc (.cells #[.slice (some ⟨w.heap.size + 1, 0, none⟩) n n] t2)).at_ h1 (fun h => h)
    rw [World.size_alloc] at h2
    exact ⟨by rw [cell_of_row _ _ _ _ _ _ h2]; simp [nilPtrs, hk], frozen_of_row _ _ _ _ _ h2⟩
  · have h1 := heap_alloc_new ((w.alloc (.cells #[u] t1)).alloc (.cells (nilPtrs n) 82)) (.cells #[.slice (some ⟨w.heap.size + 1, 0, none⟩) n n] t2)
    rw [World.size_alloc, World.size_alloc] at h1
    rw [cell_of_row _ _ _ _ _ _ h1]; rfl
  · have h1 := heap_alloc_new w (.cells #[u] t1)
    have h2 := (((Fx.refl No (w.alloc (.cells #[u] t1))).alloc (.cells (nilPtrs n) 82)).alloc (.cells #[.slice (some ⟨w.heap.size + 1, 0, none⟩) n n] t2)).at_ h1 (fun h => h)
    rw [cell_of_row _ _ _ _ _ _ h2]; rfl
  · have h1 := heap_alloc_new w (.cells #[u] t1)
    have h2 := (((Fx.refl No (w.alloc (.cells #[u] t1))).alloc (.cells (nilPtrs n) 82)).alloc (.cells #[.slice (some ⟨w.heap.size + 1, 0, none⟩) n n] t2)).at_ h1 (fun h => h)
    exact frozen_of_row _ _ _ _ _ h2
  · simp
theorem newN_nat {n : Nat} (h : n ≤ 65536) : newN (n : Int) = n := by unfold newN; omega
set_option maxHeartbeats 1000000 in
theorem made_any (n : Nat) (w : World) (hn : n ≤ 1024) :
    Calls Tryd.prog 35 #[.int .i64 (n : Int)] w fun e w' => ∃ c : FC, e = .returned (.agg #[c.v]) ∧ Fx No w w' ∧ Fam w' (Iv w.heap.size w'.heap.size) n (fun _ => 0) c := by
  have hm := makePtrs (E := (n : Int)) (k := n) (by omega) (by omega) (by omega)
  go_enter Tryd.func35, Tryd.ntmps35
  go_wp2
  refine wp_hold (fun W => MadeS w W n 0 (w.heap.size + 1) (w.heap.size + 1 + 1) w.heap.size (fun _ => 0) (fun _ => w.heap.size + 3)) (madeS_start w n _ _ _) ?_
  rintro W0 hR
  have HR := Lib.hid hR
  clear hR hm
  obtain ⟨qb, hqb⟩ : ∃ sb, sb = w.heap.size := ⟨_, rfl⟩
  rw [← hqb] at HR ⊢
  obtain ⟨rb, hrb⟩ : ∃ sb, sb = qb + 1 + 1 := ⟨_, rfl⟩
  rw [← hrb] at HR ⊢
  obtain ⟨sb, hsb⟩ : ∃ sb, sb = qb + 1 := ⟨_, rfl⟩
  rw [← hsb] at HR ⊢
  clear hqb hrb hsb
  go_loopw [4, 9] (fun _ i ws => ∃ (k : Nat) (B L : Nat → Nat), i = .int .i64 k ∧ k ≤ n ∧ MadeS w ws n k sb rb qb B L) (fun _ i _ => n - (intOf i).toNat)
  case atStart => exact ⟨0, _, _, rfl, Nat.zero_le _, HR.out⟩
  case round =>
    obtain ⟨k, B, L, rfl, hk, hM⟩ := hrel
    have HM := Lib.hid hM
    have rc := hM.rc
    clear hM
    by_cases hlt : k < n
    · have hkn : (k : Int) < (n : Int) := by omega
      obtain ⟨c1, c2⟩ := HM.out.cells k hlt
      go_wp2_with fail
      go_region_with (go_at_call 61; refine (new_any _ _).mono ?_; rintro e w1 ⟨b, rfl, hf1, hs1⟩; rw [newN_nat (by omega)] at hs1; have rc' := hf1.cell' rc (fun h => h); obtain ⟨c1', c2'⟩ := hf1.cellF c1 c2 (fun h => h); have HF1 := Lib.hid hf1; have HS1 := Lib.hid hs1; clear hf1 hs1)
      all_goals
        have HM2 := Lib.hid (HM.out.step hlt (((Fx.refl No wr).drew).trans HF1.out) (Nat.le_refl _) (by have := HF1.out.size; simpa using this) (by simpa using HS1.out))
        clear c1 c2 c1' c2' rc rc'
        go_wp2
        go_roundw
        case rel => exact ⟨k + 1, _, _, by go_num, by omega, HM2.out⟩
        case measure => simp [intOf]; omega
    · obtain rfl : k = n := by omega
      obtain ⟨u, g1, g2⟩ := HM.out.qc
      have HM2 := Lib.hid (HM.out.put (.slice (some ⟨sb, 0, none⟩) k k))
      have hsq : ¬ sb = qb := HM.out.lo.2.2.2.2.2.1
      have hrq : ¬ rb = qb := HM.out.lo.2.2.2.2.2.2.1
      go_wp2
      exact bodyPost_ret (v := .agg #[.slice (some ⟨sb, 0, none⟩) k k]) (by simp [results, Tryd.results35, go_sem, g1]) rfl ⟨_, rfl, HM2.out.fx, HM2.out.fam hn⟩
#print axioms made_any
end Go.Proofs.YtfpggeiphbekoaaDoor
