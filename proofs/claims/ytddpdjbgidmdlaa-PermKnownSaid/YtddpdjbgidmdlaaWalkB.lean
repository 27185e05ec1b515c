/- A walk in memory; contracts: push, pop. -/
import Derived.Test.YtddpdjbgidmdlaaWalkA
import Derived.Test.YtddpdjbgidmdlaaStepApp
import Derived.BigRegion
namespace Go.Proofs.Ytddpdjbgidmdlaa
open Go.RowKit
set_option linter.unusedVariables false

def CellsB (w : World) (g n : Nat) (A : Nat → Bool) : Prop := ∀ k, k < n → w.cell? ⟨g, k, none⟩ = some (.bool (A k)) ∧ w.frozen? ⟨g, k, none⟩ = false
theorem CellsB.fx {S : Nat → Prop} {w w' : World} {g n : Nat} {A : Nat → Bool} (h : CellsB w g n A) (hf : Fx S w w') (hn : ¬ S g) : CellsB w' g n A := fun k hk => hf.cellF (h k hk).1 (h k hk).2 hn
theorem CellsB.set {w : World} {g n x : Nat} {A : Nat → Bool} (h : CellsB w g n A) (hx : x < n) (a : Bool) : CellsB (w.setCell ⟨g, x, none⟩ (.bool a)) g n (fun k => if k = x then a else A k) := by
  intro k hk
  refine ⟨?_, by simpa using (h k hk).2⟩
  by_cases e : k = x
  · subst e; simp only [↓reduceIte]; exact World.cell?_setCell_same _ _ _ (h k hk).1
  · simp only [if_neg e]
    rw [World.cell?_setCell_other _ _ _ _ (by intro e2; injection e2; omega)]
    exact (h k hk).1
theorem CellsB.congr {w : World} {g n : Nat} {A B : Nat → Bool} (h : CellsB w g n A) (e : ∀ k, k < n → A k = B k) : CellsB w g n B := fun k hk => by rw [← e k hk]; exact h k hk
structure WK extends WC where
  wk : Nat
  iB : Nat
/-- a walk: its row (in a block of its own), who stands, whether there is an order, whether it has begun -/
structure WalkP (w : World) (k : WK) (v : Value) (row : List Int) (any begun : Bool) (A : Nat → Int) : Prop where
  rel : RelS w k.toWC
  c0 : w.cell? ⟨k.wk, 0, none⟩ = some (.pointer (some ⟨k.r, 0, none⟩))
  c1 : w.cell? ⟨k.wk, 1, none⟩ = some v ∧ w.frozen? ⟨k.wk, 1, none⟩ = false
  c2 : w.cell? ⟨k.wk, 2, none⟩ = some (.slice (some ⟨k.iB, 0, none⟩) k.n k.n)
  c3 : w.cell? ⟨k.wk, 3, none⟩ = some (.bool any) ∧ w.frozen? ⟨k.wk, 3, none⟩ = false
  c4 : w.cell? ⟨k.wk, 4, none⟩ = some (.bool begun) ∧ w.frozen? ⟨k.wk, 4, none⟩ = false
  own : OwnI w 0 v row
  ah : CellsF w k.aB k.n A
  ins : CellsB w k.iB k.n (fun j => decide ((j : Int) ∈ row))
  nd : row.Nodup
  rg : ∀ x ∈ row, 0 ≤ x ∧ x < k.n
  dwk : ¬ k.D k.wk
  diB : ¬ k.D k.iB
  ne1 : k.wk ≠ k.aB
  ne2 : k.wk ≠ k.iB
  ne3 : k.aB ≠ k.iB
  sep : ∀ g, v.ownBlock = some g → g ≠ k.wk ∧ g ≠ k.aB ∧ g ≠ k.iB ∧ ¬ k.D g
  dlt : ∀ b, k.D b → b < w.heap.size
  blt : k.wk < w.heap.size ∧ k.aB < w.heap.size ∧ k.iB < w.heap.size
abbrev WalkS (w : World) (k : WK) (v : Value) (row : List Int) (any begun : Bool) : Prop := WalkP w k v row any begun (fun j => ((ahN k.ps row (j : Int) : Nat) : Int))
/-- what a walk's calls may turn -/
def Sx (k : WK) (v : Value) : Nat → Prop := fun b => b = k.wk ∨ b = k.aB ∨ b = k.iB ∨ v.ownBlock = some b
theorem WalkP.fx {w w' : World} {k : WK} {v : Value} {row : List Int} {any begun : Bool} {A : Nat → Int} {S : Nat → Prop} (h : WalkP w k v row any begun A) (hf : Fx S w w') (hs : ∀ b, Sx k v b ∨ k.D b → ¬ S b) : WalkP w' k v row any begun A := by
  have nS : ∀ b, b = k.wk ∨ b = k.aB ∨ b = k.iB → ¬ S b := fun b hb => hs b (.inl (by rcases hb with h | h | h; exact .inl h; exact .inr (.inl h); exact .inr (.inr (.inl h))))
  have nw := nS _ (.inl rfl)
  have hz := hf.size
  exact ⟨h.rel.keep hf fun b hb => hs b (.inr hb), hf.cell' h.c0 nw, hf.cellF h.c1.1 h.c1.2 nw, hf.cell' h.c2 nw, hf.cellF h.c3.1 h.c3.2 nw, hf.cellF h.c4.1 h.c4.2 nw,
    OwnI.fx h.own hf (fun b hb => hs b (.inl (.inr (.inr (.inr hb))))), h.ah.fx hf (nS _ (.inr (.inl rfl))), h.ins.fx hf (nS _ (.inr (.inr rfl))), h.nd, h.rg, h.dwk, h.diB, h.ne1, h.ne2, h.ne3, h.sep,
    fun b hb => Nat.lt_of_lt_of_le (h.dlt b hb) hz, ⟨Nat.lt_of_lt_of_le h.blt.1 hz, Nat.lt_of_lt_of_le h.blt.2.1 hz, Nat.lt_of_lt_of_le h.blt.2.2 hz⟩⟩
theorem WalkP.no {w w' : World} {k : WK} {v : Value} {row : List Int} {any begun : Bool} {A : Nat → Int} (h : WalkP w k v row any begun A) (hf : Fx No w w') : WalkP w' k v row any begun A := h.fx hf fun _ _ h => h
theorem nodup_range_le {n : Nat} : ∀ {row : List Int}, row.Nodup → (∀ x ∈ row, 0 ≤ x ∧ x < (n : Int)) → row.length ≤ n := by
  induction n with
  | zero =>
    intro row _ h
    cases row with
    | nil => exact Nat.zero_le _
    | cons x l => have := h x (by simp); omega
  | succ n ih =>
    intro row hn h
    have h1 := ih (row := row.erase (n : Int)) (hn.erase _) (fun x hx => by
      have h2 := h x (List.mem_of_mem_erase hx)
      have h3 : x ≠ (n : Int) := by
        intro e
        subst e
        exact (List.Nodup.mem_erase_iff hn).1 hx |>.1 rfl
      omega)
    have := List.length_erase (a := (n : Int)) (l := row)
    split at this <;> omega
theorem WalkP.le {w : World} {k : WK} {v : Value} {row : List Int} {any begun : Bool} {A : Nat → Int} (h : WalkP w k v row any begun A) : row.length ≤ k.n := nodup_range_le h.nd h.rg
/-- behind put -/
theorem WalkP.put {w w' : World} {k : WK} {v : Value} {row : List Int} {any begun : Bool} {A B : Nat → Int} (h : WalkP w k v row any begun A) (hf : Fx (fun b => b = k.aB) w w') (hB : CellsF w' k.aB k.n B) : WalkP w' k v row any begun B := by
  have hz := hf.size
  have n1 : ¬ k.wk = k.aB := h.ne1
  exact ⟨h.rel.keep hf (fun b hb e => h.rel.Da (by rw [← e]; exact hb)), hf.cell' h.c0 n1, hf.cellF h.c1.1 h.c1.2 n1, hf.cell' h.c2 n1, hf.cellF h.c3.1 h.c3.2 n1, hf.cellF h.c4.1 h.c4.2 n1,
    OwnI.fx h.own hf (fun b hb e => (h.sep b hb).2.1 e), hB, h.ins.fx hf (fun e => h.ne3 e.symm), h.nd, h.rg, h.dwk, h.diB, h.ne1, h.ne2, h.ne3, h.sep,
    fun b hb => Nat.lt_of_lt_of_le (h.dlt b hb) hz, ⟨Nat.lt_of_lt_of_le h.blt.1 hz, Nat.lt_of_lt_of_le h.blt.2.1 hz, Nat.lt_of_lt_of_le h.blt.2.2 hz⟩⟩
theorem WalkP.congr {w : World} {k : WK} {v : Value} {row : List Int} {any begun : Bool} {A B : Nat → Int} (h : WalkP w k v row any begun A) (e : ∀ j, j < k.n → A j = B j) : WalkP w k v row any begun B :=
  ⟨h.rel, h.c0, h.c1, h.c2, h.c3, h.c4, h.own, h.ah.congr e, h.ins, h.nd, h.rg, h.dwk, h.diB, h.ne1, h.ne2, h.ne3, h.sep, h.dlt, h.blt⟩
theorem cell_other_off {w : World} {b i j : Nat} {v : Value} (h : i ≠ j) : (w.setCell ⟨b, i, none⟩ v).cell? ⟨b, j, none⟩ = w.cell? ⟨b, j, none⟩ := World.cell?_setCell_other _ _ _ _ (by intro e; injection e; omega)
theorem cell_other_block {w : World} {b c i j : Nat} {v : Value} (h : b ≠ c) : (w.setCell ⟨b, i, none⟩ v).cell? ⟨c, j, none⟩ = w.cell? ⟨c, j, none⟩ := World.cell?_setCell_other _ _ _ _ (by intro e; injection e; omega)
theorem push_step {w W w2 : World} {k : WK} {v v' : Value} {row : List Int} {any begun : Bool} {i : Nat} (h : WalkS w k v row any begun) (hi : i < k.n) (hir : (i : Int) ∉ row) (hW : Fx No w W)
    (ho : w2.ownsRow 0 3 1 v' (row.length + 1) (ints row ++ ints [(i : Int)])) (hfx : Fx (fun b => v.ownBlock = some b) W w2) (hb : ∀ g, v'.ownBlock = some g → v.ownBlock = some g ∨ W.heap.size ≤ g) :
    Fx (Sx k v) w ((w2.setCell ⟨k.wk, 1, none⟩ v').setCell ⟨k.iB, i, none⟩ (.bool true)) ∧
    WalkP ((w2.setCell ⟨k.wk, 1, none⟩ v').setCell ⟨k.iB, i, none⟩ (.bool true)) k v' (row ++ [(i : Int)]) any begun (fun j => ((ahN k.ps row (j : Int) : Nat) : Int)) := by
  have g := h.no hW
  have sw : ¬ v.ownBlock = some k.wk := fun e => (h.sep _ e).1 rfl
  have sa : ¬ v.ownBlock = some k.aB := fun e => (h.sep _ e).2.1 rfl
  have si : ¬ v.ownBlock = some k.iB := fun e => (h.sep _ e).2.2.1 rfl
  have sep' : ∀ g, v'.ownBlock = some g → g ≠ k.wk ∧ g ≠ k.aB ∧ g ≠ k.iB ∧ ¬ k.D g := fun b e => by
    rcases hb b e with e | e
    · exact h.sep b e
    · have hz := hW.size
      obtain ⟨b1, b2, b3⟩ := h.blt
      exact ⟨by omega, by omega, by omega, fun hd => by have := h.dlt b hd; omega⟩
  have f3 : Fx (fun b => b = k.wk ∨ b = k.iB) w2 ((w2.setCell ⟨k.wk, 1, none⟩ v').setCell ⟨k.iB, i, none⟩ (.bool true)) := ((Fx.refl _ w2).setCell (.inr (.inl rfl)) _).setCell (.inr (.inr rfl)) _
  have fAll : Fx (fun b => v.ownBlock = some b ∨ b = k.wk ∨ b = k.iB) w ((w2.setCell ⟨k.wk, 1, none⟩ v').setCell ⟨k.iB, i, none⟩ (.bool true)) :=
    (hW.no.trans (hfx.mono fun _ _ e => .inl e)).trans (f3.mono fun _ _ e => .inr e)
  have hz := fAll.size
  have hne := h.ne2
  have cw : ∀ j u, j ≠ 1 → W.cell? ⟨k.wk, j, none⟩ = some u → ((w2.setCell ⟨k.wk, 1, none⟩ v').setCell ⟨k.iB, i, none⟩ (.bool true)).cell? ⟨k.wk, j, none⟩ = some u := fun j u hj hu => by
    rw [cell_other_block (fun e => hne e.symm), cell_other_off (fun e => hj e.symm)]
    exact hfx.cell' hu sw
  have fw : ∀ j u, W.cell? ⟨k.wk, j, none⟩ = some u → W.frozen? ⟨k.wk, j, none⟩ = false → ((w2.setCell ⟨k.wk, 1, none⟩ v').setCell ⟨k.iB, i, none⟩ (.bool true)).frozen? ⟨k.wk, j, none⟩ = false := fun j u hu hj => by
    have := (hfx.cellF hu hj sw).2
    simpa using this
  refine ⟨fAll.mono fun b _ e => ?_, ?_⟩
  · rcases e with e | e | e
    · exact .inr (.inr (.inr e))
    · exact .inl e
    · exact .inr (.inr (.inl e))
  · refine ⟨h.rel.keep fAll fun b hb e => ?_, cw 0 _ (by omega) g.c0, ⟨?_, fw 1 _ g.c1.1 g.c1.2⟩, cw 2 _ (by omega) g.c2, ⟨cw 3 _ (by omega) g.c3.1, fw 3 _ g.c3.1 g.c3.2⟩, ⟨cw 4 _ (by omega) g.c4.1, fw 4 _ g.c4.1 g.c4.2⟩, ?_,
      h.ah.fx fAll (by rintro (e | e | e); exact sa e; exact h.ne1 e.symm; exact h.ne3 e), ?_, ?_, ?_, h.dwk, h.diB, h.ne1, h.ne2, h.ne3, sep', fun b hb => Nat.lt_of_lt_of_le (h.dlt b hb) hz, ⟨Nat.lt_of_lt_of_le h.blt.1 hz, Nat.lt_of_lt_of_le h.blt.2.1 hz, Nat.lt_of_lt_of_le h.blt.2.2 hz⟩⟩
    · rcases e with e | e | e
      · exact (h.sep b e).2.2.2 hb
      · exact h.dwk (by rw [← e]; exact hb)
      · exact h.diB (by rw [← e]; exact hb)
    · rw [cell_other_block (fun e => hne e.symm)]
      exact World.cell?_setCell_same _ _ _ (hfx.cell' g.c1.1 sw)
    · have ho' : OwnI w2 0 v' (row ++ [(i : Int)]) := by unfold OwnI; rw [List.length_append]; simpa [ints] using ho
      exact OwnI.fx ho' f3 fun b hb e => by
        have := sep' b hb
        rcases e with e | e
        · exact this.1 e
        · exact this.2.2.1 e
    · have h1 : CellsB w2 k.iB k.n (fun j => decide ((j : Int) ∈ row)) := (g.ins).fx hfx si
      have h2 : CellsB (w2.setCell ⟨k.wk, 1, none⟩ v') k.iB k.n (fun j => decide ((j : Int) ∈ row)) := h1.fx (Fx.put _ _ _ _) (fun e => hne e.symm)
      refine (h2.set hi true).congr fun j hj => ?_
      by_cases e : j = i
      · subst e; simp
      · rw [if_neg e, decide_eq_decide, List.mem_append, List.mem_singleton]
        exact ⟨.inl, fun hm => hm.resolve_right (by omega)⟩
    · rw [List.nodup_append]
      exact ⟨h.nd, by simp, fun a ha b hb e => by
        rw [List.mem_singleton] at hb
        subst hb; subst e
        exact hir ha⟩
    · intro x hx
      rw [List.mem_append, List.mem_singleton] at hx
      rcases hx with hx | rfl
      · exact h.rg x hx
      · omega
set_option maxHeartbeats 2000000 in
theorem push_any {w : World} {k : WK} {v : Value} {row : List Int} {any begun : Bool} (h : WalkS w k v row any begun) {i : Nat} (hi : i < k.n) (hir : (i : Int) ∉ row) :
    Calls Try.prog 37 #[.pointer (some ⟨k.wk, 0, none⟩), .int .i64 (i : Int)] w fun e w' => e = .returned (.tuple #[]) ∧ Fx (Sx k v) w w' ∧ ∃ v', WalkS w' k v' (row ++ [(i : Int)]) any begun ∧ (∀ g, v'.ownBlock = some g → v.ownBlock = some g ∨ w.heap.size ≤ g) := by
  obtain ⟨ii, hif, hz, hs, hb⟩ := info_parts info_int
  obtain ⟨ao, rc, rfl, _⟩ := h.own.ints.facts
  have H := Lib.hid h
  obtain ⟨hwlt, _, hilt⟩ := h.blt
  have hle := h.le
  have hnl := h.rel.nle
  have c0 := h.c0
  obtain ⟨c1, f1⟩ := h.c1
  have c2 := h.c2
  obtain ⟨x1, x2⟩ := h.ins i hi
  have hrl : row.length ≤ 100000 := by omega
  have HO : Hid (∀ W, Fx No w W → W.ownsRow 0 3 1 (.slice ao row.length rc) row.length (ints row)) := fun W hf => OwnI.fx h.own hf fun _ _ h => h
  have HIr := Lib.hid hir
  have HK2 : Hid (∀ W w2, Fx No w W → Fx (fun b => (Value.slice ao row.length rc).ownBlock = some b) W w2 → (w2.cell? ⟨k.wk, 1, none⟩ = some (.slice ao row.length rc) ∧ w2.frozen? ⟨k.wk, 1, none⟩ = false) ∧ w2.cell? ⟨k.wk, 2, none⟩ = some (.slice (some ⟨k.iB, 0, none⟩) k.n k.n) ∧
      (w2.cell? ⟨k.iB, i, none⟩ = some (.bool (decide ((i : Int) ∈ row))) ∧ w2.frozen? ⟨k.iB, i, none⟩ = false) ∧ w2.cell? ⟨k.wk, 0, none⟩ = some (.pointer (some ⟨k.r, 0, none⟩))) := fun W w2 h1 h2 =>
    have s1 : ∀ b, b = k.wk ∨ b = k.iB → ¬ (Value.slice ao row.length rc).ownBlock = some b := fun b hb e => by
      have := h.sep b e
      rcases hb with hb | hb
      · exact this.1 hb
      · exact this.2.2.1 hb
    have g := h.no h1
    ⟨h2.cellF g.c1.1 g.c1.2 (s1 _ (.inl rfl)), h2.cell' g.c2 (s1 _ (.inl rfl)), h2.cellF (g.ins i hi).1 (g.ins i hi).2 (s1 _ (.inr rfl)), h2.cell' g.c0 (s1 _ (.inl rfl))⟩
  have hil : (i : Int) < (k.n : Int) := by omega
  have hne : ¬ k.wk = k.iB := h.ne2
  have hne' : ¬ k.iB = k.wk := fun e => h.ne2 e.symm
  clear h hir
  go_enter Try.func37, Try.ntmps37
  go_wp2
  go_region_law (refine step_append_kept rfl (.tmp 13) (.tmp 15) 29 rfl 0 3 Try.underlying29 hif hz hs hb rfl (by decide) (.slice ao row.length rc) row.length (ints row) (by simp [Act.eval, Act.put]) (HO.out _ (by repeat (first | exact Fx.refl _ _ | apply Fx.drew | apply Fx.drewN | apply Fx.alloc))) (Up w) (.slice (some ⟨w.heap.size, 0, none⟩) 1 1) 1 (ints [(i : Int)]) (by simp [Act.eval, Act.put]) (by first | exact SlV.new w 3 #[.int .i64 (i : Int)] 1 1 rfl (by unfold maxLen; omega) | exact (SlV.new w 3 #[.int .i64 (i : Int)] 1 1 rfl (by unfold maxLen; omega)).keep ((Fx.refl No _).drewN _) No.disj) (ints_one _) (by omega) (by unfold maxLen; omega) (by omega) (Nat.zero_le _) ?_; intro v' w2 ho hfx hk hb2; obtain ⟨g, gcap, rfl, hg1, hg2⟩ := ownsRow_pos ho (by omega); obtain ⟨⟨d1, d2⟩, d3, ⟨d4, d5⟩, d6⟩ := HK2.out _ w2 (by repeat (first | exact Fx.refl _ _ | apply Fx.drew | apply Fx.drewN | apply Fx.alloc)) hfx)
  all_goals
    have hst := push_step H.out hi HIr.out (by repeat (first | exact Fx.refl _ _ | apply Fx.drew | apply Fx.drewN | apply Fx.alloc)) ho hfx hb2
    have HS1 := Lib.hid hst.1
    have HS2 := Lib.hid hst.2
    have HBk : Hid (∀ b, (Value.slice (some ⟨g, 0, none⟩) (row.length + 1) gcap).ownBlock = some b → (Value.slice ao row.length rc).ownBlock = some b ∨ w.heap.size ≤ b) := fun b e => (hb2 b e).imp id fun h => by first | omega | (simp at h; omega)
    clear hst ho hfx hk d1 d2 d3 d4 d5
    go_wp2_with fail
    refine (put_any HS2.out.rel HS2.out.ah (fun j hj => by have := ahN_le k.ps row (j : Int); have := H.out.rel.len; exact ⟨by omega, by omega⟩) hi (.inl rfl)).mono ?_
    rintro e w4 ⟨rfl, hf4, hA4⟩
    have HW4 : Hid (WalkS w4 k (.slice (some ⟨g, 0, none⟩) (row.length + 1) gcap) (row ++ [(i : Int)]) any begun) := (HS2.out.put hf4 hA4).congr fun j hj => by
      have := ahN_snoc k.ps row (i : Int) (j : Int) HIr.out
      omega
    have HF4 : Hid (Fx (Sx k (.slice ao row.length rc)) w w4) := HS1.out.trans (hf4.mono fun b _ e => .inr (.inl e))
    clear hf4 hA4
    go_wp2
    go_end0
    exact ⟨rfl, HF4.out, _, HW4.out, HBk.out⟩
theorem ownI_shrink {w : World} {g n cap : Nat} {row : List Int} {x : Int} (h : OwnI w 0 (.slice (some ⟨g, 0, none⟩) n cap) (row ++ [x])) : n = row.length + 1 ∧ OwnI w 0 (.slice (some ⟨g, 0, none⟩) row.length cap) row := by
  obtain ⟨h1, h2⟩ := h
  rcases h2 with ⟨h2, _⟩ | ⟨g', c, cur, hv, hb, hg, h3, h4, h5, h6⟩
  · simp at h2
  · simp only [Value.slice.injEq, Option.some.injEq, Addr.mk.injEq, and_true] at hv
    obtain ⟨rfl, h7, rfl⟩ := hv
    rw [List.length_append] at h7 h3 h6
    refine ⟨by simpa using h7, by simp [ints], .inr ⟨g, cap, cur, rfl, hb, hg, by omega, h4, h5, ?_⟩⟩
    have h8 : ints (row ++ [x]) = ints row ++ [.int .i64 x] := by simp [ints]
    rw [h8] at h6
    have h9 := congrArg (List.take row.length) h6
    rw [List.take_take] at h9
    have h10 : (ints row ++ [Value.int .i64 x]).take row.length = ints row := by
      rw [List.take_append_of_le_length (by simp [ints])]
      exact List.take_of_length_le (by simp [ints])
    rw [h10] at h9
    rw [← h9]
    congr 1
    simp
theorem pop_step {w : World} {k : WK} {row : List Int} {any begun : Bool} {i g n cap : Nat} (h : WalkS w k (.slice (some ⟨g, 0, none⟩) n cap) (row ++ [(i : Int)]) any begun) (hi : i < k.n) :
    Fx (Sx k (.slice (some ⟨g, 0, none⟩) n cap)) w ((w.setCell ⟨k.wk, 1, none⟩ (.slice (some ⟨g, 0, none⟩) row.length cap)).setCell ⟨k.iB, i, none⟩ (.bool false)) ∧
    WalkP ((w.setCell ⟨k.wk, 1, none⟩ (.slice (some ⟨g, 0, none⟩) row.length cap)).setCell ⟨k.iB, i, none⟩ (.bool false)) k (.slice (some ⟨g, 0, none⟩) row.length cap) row any begun (fun j => ((ahN k.ps (row ++ [(i : Int)]) (j : Int) : Nat) : Int)) := by
  obtain ⟨hn, ho⟩ := ownI_shrink h.own
  have hne := h.ne2
  have f3 : Fx (fun b => b = k.wk ∨ b = k.iB) w ((w.setCell ⟨k.wk, 1, none⟩ (.slice (some ⟨g, 0, none⟩) row.length cap)).setCell ⟨k.iB, i, none⟩ (.bool false)) := ((Fx.refl _ w).setCell (.inr (.inl rfl)) _).setCell (.inr (.inr rfl)) _
  have hz := f3.size
  have sep := h.sep g rfl
  have cw : ∀ j u, j ≠ 1 → w.cell? ⟨k.wk, j, none⟩ = some u → ((w.setCell ⟨k.wk, 1, none⟩ (.slice (some ⟨g, 0, none⟩) row.length cap)).setCell ⟨k.iB, i, none⟩ (.bool false)).cell? ⟨k.wk, j, none⟩ = some u := fun j u hj hu => by
    rw [cell_other_block (fun e => hne e.symm), cell_other_off (fun e => hj e.symm)]
    exact hu
  have fw : ∀ j, w.frozen? ⟨k.wk, j, none⟩ = false → ((w.setCell ⟨k.wk, 1, none⟩ (.slice (some ⟨g, 0, none⟩) row.length cap)).setCell ⟨k.iB, i, none⟩ (.bool false)).frozen? ⟨k.wk, j, none⟩ = false := fun j hj => by simpa using hj
  have hnd := List.nodup_append.1 h.nd
  refine ⟨f3.mono fun b _ e => ?_, ?_⟩
  · rcases e with e | e
    · exact .inl e
    · exact .inr (.inr (.inl e))
  · refine ⟨h.rel.keep f3 fun b hb e => ?_, cw 0 _ (by omega) h.c0, ⟨?_, fw 1 h.c1.2⟩, cw 2 _ (by omega) h.c2, ⟨cw 3 _ (by omega) h.c3.1, fw 3 h.c3.2⟩, ⟨cw 4 _ (by omega) h.c4.1, fw 4 h.c4.2⟩, ?_,
      h.ah.fx f3 (by rintro (e | e); exact h.ne1 e.symm; exact h.ne3 e), ?_, hnd.1, fun x hx => h.rg x (by simp [hx]), h.dwk, h.diB, h.ne1, h.ne2, h.ne3, fun b e => h.sep b (by simpa [Value.ownBlock] using e), fun b hb => Nat.lt_of_lt_of_le (h.dlt b hb) hz, ⟨Nat.lt_of_lt_of_le h.blt.1 hz, Nat.lt_of_lt_of_le h.blt.2.1 hz, Nat.lt_of_lt_of_le h.blt.2.2 hz⟩⟩
    · rcases e with e | e
      · exact h.dwk (by rw [← e]; exact hb)
      · exact h.diB (by rw [← e]; exact hb)
    · rw [cell_other_block (fun e => hne e.symm)]
      exact World.cell?_setCell_same _ _ _ h.c1.1
    · exact OwnI.fx ho f3 fun b hb e => by
        simp only [Value.ownBlock, Option.some.injEq] at hb
        subst hb
        rcases e with e | e
        · exact sep.1 e
        · exact sep.2.2.1 e
    · have h2 := (h.ins).fx (Fx.put w k.wk 1 (.slice (some ⟨g, 0, none⟩) row.length cap)) (fun e => hne e.symm)
      refine (h2.set hi false).congr fun j hj => ?_
      by_cases e : j = i
      · subst e
        have : (j : Int) ∉ row := fun hm => hnd.2.2 _ hm _ (by simp) rfl
        simp [this]
      · rw [if_neg e, decide_eq_decide, List.mem_append, List.mem_singleton]
        exact ⟨fun hm => hm.resolve_right (by omega), .inl⟩
set_option maxHeartbeats 2000000 in
theorem pop_any {w : World} {k : WK} {v : Value} {row : List Int} {any begun : Bool} {i : Nat} (h : WalkS w k v (row ++ [(i : Int)]) any begun) :
    Calls Try.prog 35 #[.pointer (some ⟨k.wk, 0, none⟩)] w fun e w' => e = .returned (.int .i64 (i : Int)) ∧ Fx (Sx k v) w w' ∧ ∃ v', WalkS w' k v' row any begun ∧ v'.ownBlock = v.ownBlock := by
  have hi : i < k.n := by have := h.rg (i : Int) (by simp); omega
  obtain ⟨g, cap, rfl, _, _, hc1, hc2⟩ := h.own.place (by simp)
  have hcell := (h.own.ints.part.2.2.2 (by simp)).2 row.length (by simp)
  have hgi : gi (row ++ [(i : Int)]) row.length = (i : Int) := by simp [gi]
  rw [hgi, Nat.zero_add] at hcell
  have hst : ∀ W, Fx No w W → Fx (Sx k (.slice (some ⟨g, 0, none⟩) (row ++ [(i : Int)]).length cap)) W ((W.setCell ⟨k.wk, 1, none⟩ (.slice (some ⟨g, 0, none⟩) row.length cap)).setCell ⟨k.iB, i, none⟩ (.bool false)) ∧
    WalkP ((W.setCell ⟨k.wk, 1, none⟩ (.slice (some ⟨g, 0, none⟩) row.length cap)).setCell ⟨k.iB, i, none⟩ (.bool false)) k (.slice (some ⟨g, 0, none⟩) row.length cap) row any begun (fun j => ((ahN k.ps (row ++ [(i : Int)]) (j : Int) : Nat) : Int)) := fun W hf => pop_step (h.no hf) hi
  have hle := h.le
  have hnl := h.rel.nle
  rw [List.length_append, List.length_singleton] at h hc1 hst hle ⊢
  have HS := Lib.hid hst
  have H := Lib.hid h
  have c0 := h.c0
  obtain ⟨c1, f1⟩ := h.c1
  have c2 := h.c2
  obtain ⟨x1, x2⟩ := h.ins i hi
  have hil : (i : Int) < (k.n : Int) := by omega
  have hne : ¬ k.wk = k.iB := h.ne2
  have hne' : ¬ k.iB = k.wk := fun e => h.ne2 e.symm
  have HIr : Hid ((i : Int) ∉ row) := fun hm => (List.nodup_append.1 h.nd).2.2 _ hm _ (by simp) rfl
  obtain ⟨rl, hrl⟩ : ∃ r, r = row.length := ⟨_, rfl⟩
  rw [← hrl] at hcell c1 hc1 hle HS H ⊢
  clear h hst hgi hrl
  go_enter Try.func35, Try.ntmps35
  go_wp2
  go_quiet (fail)
  go_wp2
  go_region
  all_goals
    obtain ⟨hs1, hs2⟩ := HS.out (w.drewN (nq + 1)) ((Fx.refl No _).drewN _)
    have HS1 := Lib.hid hs1
    have HS2 := Lib.hid hs2
    have q0 : (((w.drewN (nq + 1)).setCell ⟨k.wk, 1, none⟩ (.slice (some ⟨g, 0, none⟩) rl cap)).setCell ⟨k.iB, i, none⟩ (.bool false)).cell? ⟨k.wk, 0, none⟩ = some (.pointer (some ⟨k.r, 0, none⟩)) := hs2.c0
    clear hs1 hs2
    go_wp2_with fail
    refine (put_any HS2.out.rel HS2.out.ah (fun j hj => by have := ahN_le k.ps (row ++ [(i : Int)]) (j : Int); have := H.out.rel.len; exact ⟨by omega, by omega⟩) hi (.inr rfl)).mono ?_
    rintro e w4 ⟨rfl, hf4, hA4⟩
    have HW4 : Hid (WalkS w4 k (.slice (some ⟨g, 0, none⟩) rl cap) row any begun) := (HS2.out.put hf4 hA4).congr fun j hj => by
      have := ahN_snoc k.ps row (i : Int) (j : Int) HIr.out
      omega
    have HF4 : Hid (Fx (Sx k (.slice (some ⟨g, 0, none⟩) (rl + 1) cap)) w w4) := (((Fx.refl _ w).drewN (nq + 1)).trans HS1.out).trans (hf4.mono fun b _ e => .inr (.inl e))
    clear hf4 hA4 q0
    go_wp2
    go_ret
    exact ⟨rfl, HF4.out, _, HW4.out, rfl⟩
#print axioms push_any
#print axioms pop_any
end Go.Proofs.Ytddpdjbgidmdlaa
