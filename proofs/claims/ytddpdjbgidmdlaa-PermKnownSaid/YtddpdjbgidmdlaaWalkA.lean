/- A walk's relation in memory; who stands ahead of whom; contract: put. -/
import Derived.Test.YtddpdjbgidmdlaaPermD
import Derived.Test.YtddpdjbgidmdlaaSub
namespace Go.Proofs.Ytddpdjbgidmdlaa
open Go.RowKit
set_option linter.unusedVariables false

/-- who must stand behind each one -/
def bhL (ps : List (Int × Int)) (i : Int) : List Int := (ps.filter fun q => q.1 == i).map (·.2)
/-- how many must stand ahead of each one, and do not yet -/
def ahN (ps : List (Int × Int)) (row : List Int) (k : Int) : Nat := ps.countP fun q => q.2 == k && !(decide (q.1 ∈ row))
def PsOk (ps : List (Int × Int)) (n : Nat) : Prop := ∀ q ∈ ps, 0 ≤ q.1 ∧ q.1 < n ∧ 0 ≤ q.2 ∧ q.2 < n
theorem ahN_le (ps : List (Int × Int)) (row : List Int) (k : Int) : ahN ps row k ≤ ps.length := List.countP_le_length
theorem bhL_length (ps : List (Int × Int)) (i : Int) : (bhL ps i).length ≤ ps.length := by unfold bhL; rw [List.length_map]; exact List.length_filter_le _ _
theorem bhL_range {ps : List (Int × Int)} {n : Nat} (h : PsOk ps n) (i : Int) : ∀ k ∈ bhL ps i, 0 ≤ k ∧ k < n := by
  intro k hk
  obtain ⟨q, hq, rfl⟩ := List.mem_map.1 hk
  have := h q (List.mem_filter.1 hq).1
  omega
/-- one more stands -/
theorem ahN_snoc (ps : List (Int × Int)) (row : List Int) (i k : Int) (h : i ∉ row) : ahN ps (row ++ [i]) k + (bhL ps i).count k = ahN ps row k := by
  induction ps with
  | nil => rfl
  | cons q ps ih =>
    unfold ahN bhL at ih ⊢
    rw [List.countP_cons, List.countP_cons, List.filter_cons]
    by_cases e1 : q.1 = i
    · have e2 : (q.1 == i) = true := by simpa using e1
      have e3 : q.1 ∉ row := by rw [e1]; exact h
      have e4 : q.1 ∈ row ++ [i] := by rw [e1]; simp
      rw [if_pos e2, List.map_cons, List.count_cons]
      by_cases e5 : q.2 = k
      · simp only [e5, e3, e4, decide_true, decide_false, Bool.not_true, Bool.not_false, Bool.and_true, Bool.and_false, Bool.false_eq_true, ↓reduceIte, beq_self_eq_true]
        omega
      · have e6 : (q.2 == k) = false := by simpa using e5
        simp only [e6, Bool.false_and, Bool.false_eq_true, ↓reduceIte]
        omega
    · have e2 : (q.1 == i) = false := by simpa using e1
      rw [e2]
      have e3 : decide (q.1 ∈ row ++ [i]) = decide (q.1 ∈ row) := by
        rw [decide_eq_decide, List.mem_append, List.mem_singleton]
        exact ⟨fun h => h.resolve_right e1, .inl⟩
      rw [e3]
      simp only [Bool.false_eq_true, ↓reduceIte]
      omega

/-- where a walk lies -/
structure WC where
  n : Nat
  r : Nat
  bB : Nat
  aB : Nat
  D : Nat → Prop
  ps : List (Int × Int)
/-- the relation's part that stays -/
structure RelS (w : World) (c : WC) : Prop where
  r0 : w.cell? ⟨c.r, 0, none⟩ = some (.int .i64 (c.n : Int))
  r1 : w.cell? ⟨c.r, 1, none⟩ = some (.slice (some ⟨c.bB, 0, none⟩) c.n c.n)
  r2 : w.cell? ⟨c.r, 2, none⟩ = some (.slice (some ⟨c.aB, 0, none⟩) c.n c.n)
  bh : ∀ i, i < c.n → ∃ v, w.cell? ⟨c.bB, i, none⟩ = some v ∧ IntsV w c.D v (bhL c.ps (i : Int))
  Dr : c.D c.r
  Db : c.D c.bB
  Da : ¬ c.D c.aB
  ok : PsOk c.ps c.n
  len : c.ps.length ≤ 100000
  nle : c.n ≤ 100000
theorem RelS.keep {w w' : World} {c : WC} {S : Nat → Prop} (h : RelS w c) (hf : Fx S w w') (hd : ∀ k, c.D k → ¬ S k) : RelS w' c :=
  ⟨hf.cell' h.r0 (hd _ h.Dr), hf.cell' h.r1 (hd _ h.Dr), hf.cell' h.r2 (hd _ h.Dr),
    fun i hi => let ⟨v, h1, h2⟩ := h.bh i hi; ⟨v, hf.cell' h1 (hd _ h.Db), h2.keep hf hd⟩, h.Dr, h.Db, h.Da, h.ok, h.len, h.nle⟩
/-- cells of a block that read as a function's numbers, and may be written -/
def CellsF (w : World) (g n : Nat) (A : Nat → Int) : Prop := ∀ k, k < n → w.cell? ⟨g, k, none⟩ = some (.int .i64 (A k)) ∧ w.frozen? ⟨g, k, none⟩ = false
theorem CellsF.fx {S : Nat → Prop} {w w' : World} {g n : Nat} {A : Nat → Int} (h : CellsF w g n A) (hf : Fx S w w') (hn : ¬ S g) : CellsF w' g n A := fun k hk => hf.cellF (h k hk).1 (h k hk).2 hn
theorem CellsF.set {w : World} {g n x : Nat} {A : Nat → Int} (h : CellsF w g n A) (hx : x < n) (a : Int) : CellsF (w.setCell ⟨g, x, none⟩ (.int .i64 a)) g n (fun k => if k = x then a else A k) := by
  intro k hk
  refine ⟨?_, by simpa using (h k hk).2⟩
  by_cases e : k = x
  · subst e; simp only [↓reduceIte]; exact World.cell?_setCell_same _ _ _ (h k hk).1
  · simp only [if_neg e]
    rw [World.cell?_setCell_other _ _ _ _ (by intro e2; injection e2; omega)]
    exact (h k hk).1
theorem CellsF.congr {w : World} {g n : Nat} {A B : Nat → Int} (h : CellsF w g n A) (e : ∀ k, k < n → A k = B k) : CellsF w g n B := fun k hk => by rw [← e k hk]; exact h k hk

set_option maxHeartbeats 1000000 in
theorem put_core {w : World} {c : WC} (hR : RelS w c) {A : Nat → Int} (hA : CellsF w c.aB c.n A) (hb : ∀ k, k < c.n → -1000000 ≤ A k ∧ A k ≤ 1000000) {i : Nat} (hi : i < c.n) {by_ σ : Int} (hy : by_ = 1 ∨ by_ = -1) (hσ : Hid (σ = by_)) :
    Calls Try.prog 46 #[.pointer (some ⟨c.r, 0, none⟩), .int .i64 (i : Int), .int .i64 by_] w fun e w' => e = .returned (.tuple #[]) ∧ Fx (fun k => k = c.aB) w w' ∧ CellsF w' c.aB c.n (fun k => A k - σ * ((bhL c.ps (i : Int)).count (k : Int) : Nat)) := by
  obtain ⟨v, hv, hrow⟩ := hR.bh i hi
  obtain ⟨ao, cap, rfl, hl, hc⟩ := hrow.facts
  obtain ⟨L, hL⟩ : ∃ L, L = bhL c.ps (i : Int) := ⟨_, rfl⟩
  have hlen := bhL_length c.ps (i : Int)
  have hrange := bhL_range hR.ok (i : Int)
  have hps := hR.len
  have hnl := hR.nle
  rw [← hL] at hv hc hl hlen hrange ⊢
  have HC := Lib.hid hc
  have HR := Lib.hid hR
  have HA := Lib.hid hA
  have HB := Lib.hid hb
  have HRg := Lib.hid hrange
  obtain ⟨len, hlen'⟩ : ∃ k, k = L.length := ⟨_, rfl⟩
  rw [← hlen'] at hv hl hlen
  have HLen := Lib.hid hlen'
  have r1 := hR.r1
  have r2 := hR.r2
  have HDa : Hid (∀ k, c.D k → ¬ k = c.aB) := fun k hk e => hR.Da (by rw [← e]; exact hk)
  have hle : len ≤ 100000 := by omega
  clear hc hR hA hb hrange hlen' hL hrow
  have HCase : Hid (σ = 1 ∨ σ = -1) := by show _ ∨ _; rw [hσ.out]; exact hy
  have HSig : Hid (σ = by_) := hσ
  clear hσ
  rcases hy with rfl | rfl
  all_goals
    go_enter Try.func46, Try.ntmps46
    go_wp2
    go_loopw [16] (fun t wr => ∃ τ : Nat, t = .int .i64 τ ∧ τ ≤ len ∧ Fx (fun k => k = c.aB) w wr ∧ ∃ E : Nat → Int, CellsF wr c.aB c.n E ∧ (∀ k, k < c.n → -2000000 ≤ E k ∧ E k ≤ 2000000) ∧ ∀ k, k < c.n → E k = A k - σ * (((L.take τ).count (k : Int) : Nat) : Int)) (fun t _ => len - (intOf t).toNat)
    case atStart => exact ⟨0, rfl, Nat.zero_le _, Fx.refl _ _, A, HA.out, fun k hk => by have := HB.out k hk; omega, fun k hk => by simp⟩
    case round =>
      obtain ⟨τ, rfl, hτ, hf, E, hE, hEb, hEq⟩ := hrel
      have HF := Lib.hid hf
      have HE := Lib.hid hE
      have HEb := Lib.hid hEb
      have HEq := Lib.hid hEq
      clear hf hE hEb hEq
      by_cases hlt : τ < len
      · obtain ⟨b, o, rfl, hDb, hcell⟩ := HC.out τ (by rw [← HLen.out]; exact hlt)
        have hmem : gi L τ ∈ L := gi_mem (by rw [← HLen.out]; exact hlt)
        have hrg := HRg.out _ hmem
        obtain ⟨x, hx⟩ := Int.eq_ofNat_of_zero_le hrg.1
        have HX := Lib.hid hx
        have hxn : x < c.n := by omega
        rw [hx] at hcell
        have q1 := HF.out.cell' hcell (HDa.out _ hDb)
        have q2 := HF.out.cell' r2 (HDa.out _ HR.out.Dr)
        obtain ⟨q3, q4⟩ := HE.out x hxn
        obtain ⟨a, ha⟩ : ∃ a, a = E x := ⟨_, rfl⟩
        obtain ⟨b1, b2⟩ := HEb.out x hxn
        rw [← ha] at q3 b1 b2
        have HAx := Lib.hid ha
        clear hcell hmem hrg hx hDb ha
        have HSt : Hid (CellsF (wr.setCell ⟨c.aB, x, none⟩ (.int .i64 (a - σ))) c.aB c.n (fun k => if k = x then a - σ else E k)) := HE.out.set hxn _
        have HNew : Hid ((∀ k, k < c.n → -2000000 ≤ (fun k => if k = x then a - σ else E k) k ∧ (fun k => if k = x then a - σ else E k) k ≤ 2000000) ∧ ∀ k, k < c.n → (fun k => if k = x then a - σ else E k) k = A k - σ * (((L.take (τ + 1)).count (k : Int) : Nat) : Int)) := by
          have key : ∀ k, k < c.n → (fun k => if k = x then a - σ else E k) k = A k - σ * (((L.take (τ + 1)).count (k : Int) : Nat) : Int) := by
            intro k hk
            have h1 := HEq.out k hk
            have h2 := HSig.out
            have h3 := HX.out
            have h4 := HAx.out
            rw [count_take_succ (k : Int) (show τ < L.length by rw [← HLen.out]; exact hlt), h3]
            by_cases e : k = x
            · subst e
              simp only [↓reduceIte]
              rw [h4, h1]
              rcases HCase.out with h5 | h5 <;> rw [h5] <;> omega
            · simp only [if_neg e]
              rw [if_neg (by omega), Nat.add_zero]; exact h1
          refine ⟨fun k hk => ?_, key⟩
          rw [key k hk]
          have h1 := HB.out k hk
          have h2 : (L.take (τ + 1)).count (k : Int) ≤ 100000 := Nat.le_trans List.count_le_length (Nat.le_trans (List.length_take_le _ _) (by omega))
          rcases HCase.out with h5 | h5 <;> rw [h5] <;> omega
        have HWr : Hid (Fx (fun k => k = c.aB) w (wr.setCell ⟨c.aB, x, none⟩ (.int .i64 (a - σ)))) := HF.out.setCell (.inr rfl) _
        rw [HSig.out] at HSt HWr
        go_wp2
        go_roundw
        case rel => exact ⟨τ + 1, by go_num, by omega, HWr.out, _, HSt.out, by have := HNew.out.1; rw [HSig.out] at this; exact this, by have := HNew.out.2; rw [HSig.out] at this ⊢; exact this⟩
        case measure => simp [intOf]; omega
      · obtain rfl : τ = len := by omega
        have ht : L.take τ = L := by rw [HLen.out, List.take_length]
        have HFin : Hid (CellsF wr c.aB c.n (fun k => A k - σ * ((L.count (k : Int) : Nat) : Int))) := HE.out.congr fun k hk => by rw [HEq.out k hk, ht]
        clear ht
        go_wp2
        go_end0
        exact ⟨rfl, HF.out, HFin.out⟩
theorem put_any {w : World} {c : WC} (hR : RelS w c) {A : Nat → Int} (hA : CellsF w c.aB c.n A) (hb : ∀ k, k < c.n → -1000000 ≤ A k ∧ A k ≤ 1000000) {i : Nat} (hi : i < c.n) {by_ : Int} (hy : by_ = 1 ∨ by_ = -1) :
    Calls Try.prog 46 #[.pointer (some ⟨c.r, 0, none⟩), .int .i64 (i : Int), .int .i64 by_] w fun e w' => e = .returned (.tuple #[]) ∧ Fx (fun k => k = c.aB) w w' ∧ CellsF w' c.aB c.n (fun k => A k - by_ * ((bhL c.ps (i : Int)).count (k : Int) : Nat)) :=
  put_core hR hA hb hi hy (Lib.hid rfl)
#print axioms put_any
end Go.Proofs.Ytddpdjbgidmdlaa
