/- Sets behind a slice, one for each node; what the methods of closure's rows tell and do. -/
import Derived.Test.YtfpggeiphbekoaaDoorLawA
import Derived.Test.YtfpggeiphbekoaaDoorIterC
import Derived.Test.YtfpggeiphbekoaaDoorTRows
namespace Go.Proofs.YtfpggeiphbekoaaDoor
open Go.RowKit
set_option linter.unusedVariables false

/-- where a family of sets lies: its slice, the sets' blocks, the slice's own block, each set's blocks -/
structure FC where
  v : Value
  B : Nat → Nat
  G : Nat → Prop
  Ds : Nat → Nat → Prop
def bptr (B : Nat → Nat) (n : Nat) : List Value := (List.range n).map fun i => .pointer (some ⟨B i, 0, none⟩)
theorem bptr_length (B : Nat → Nat) (n : Nat) : (bptr B n).length = n := by simp [bptr]
theorem bptr_at {B : Nat → Nat} {n i : Nat} (h : i < n) : (bptr B n)[i]? = some (.pointer (some ⟨B i, 0, none⟩)) := by simp [bptr, h]
theorem bptr_succ (B : Nat → Nat) (n : Nat) : bptr B (n + 1) = bptr B n ++ [.pointer (some ⟨B n, 0, none⟩)] := by simp [bptr, List.range_succ]
theorem bptr_congr {B C : Nat → Nat} {n : Nat} (h : ∀ i, i < n → B i = C i) : bptr B n = bptr C n := by
  unfold bptr
  refine List.map_congr_left fun i hi => ?_
  rw [h i (List.mem_range.1 hi)]
/-- a family of n sets, of the numbers M -/
structure Fam (w : World) (D : Nat → Prop) (n : Nat) (M : Nat → Nat) (c : FC) : Prop where
  row : SlV w c.G c.v 1 n (bptr c.B n)
  set : ∀ i, i < n → SetIn w (c.Ds i) (c.B i) n (M i)
  dj : ∀ i j k, c.Ds i k → c.Ds j k → i = j
  dg : ∀ i k, c.Ds i k → ¬ c.G k
  gD : ∀ k, c.G k → D k
  sD : ∀ i k, c.Ds i k → D k
theorem Fam.keep {w w' : World} {S D : Nat → Prop} {n : Nat} {M : Nat → Nat} {c : FC} (h : Fam w D n M c) (hf : Fx S w w') (hd : ∀ k, D k → ¬ S k) : Fam w' D n M c :=
  ⟨h.row.keep hf fun k hk => hd k (h.gD k hk), fun i hi => (h.set i hi).keep hf fun k hk => hd k (h.sD i k hk), h.dj, h.dg, h.gD, h.sD⟩
theorem Fam.no {w w' : World} {D : Nat → Prop} {n : Nat} {M : Nat → Nat} {c : FC} (h : Fam w D n M c) (hf : Fx No w w') : Fam w' D n M c := h.keep hf No.disj
theorem Fam.mono {w : World} {D T : Nat → Prop} {n : Nat} {M : Nat → Nat} {c : FC} (h : Fam w D n M c) (hd : ∀ k, D k → T k) : Fam w T n M c :=
  ⟨h.row, h.set, h.dj, h.dg, fun k hk => hd k (h.gD k hk), fun i k hk => hd k (h.sD i k hk)⟩
theorem Fam.congr {w : World} {D : Nat → Prop} {n : Nat} {M M' : Nat → Nat} {c : FC} (h : Fam w D n M c) (e : ∀ i, i < n → M i = M' i) : Fam w D n M' c :=
  ⟨h.row, fun i hi => by rw [← e i hi]; exact h.set i hi, h.dj, h.dg, h.gD, h.sD⟩
/-- one of the sets is turned -/
theorem Fam.put {w w' : World} {D : Nat → Prop} {n X i : Nat} {M : Nat → Nat} {c : FC} (h : Fam w D n M c) (hi : i < n) (hf : Fx (c.Ds i) w w') (hs : SetIn w' (c.Ds i) (c.B i) n X) : Fam w' D n (fun j => if j = i then X else M j) c := by
  refine ⟨h.row.keep hf fun k hk hs => h.dg i k hs hk, fun j hj => ?_, h.dj, h.dg, h.gD, h.sD⟩
  by_cases e : j = i
  · subst e; rw [if_pos rfl]; exact hs
  · rw [if_neg e]; exact (h.set j hj).keep hf fun k hk hk' => e (h.dj j i k hk hk')
theorem Fam.le {w : World} {D : Nat → Prop} {n : Nat} {M : Nat → Nat} {c : FC} (h : Fam w D n M c) : n ≤ 65536 := by
  by_cases e : n = 0
  · omega
  · exact (h.set 0 (by omega)).le
theorem Fam.facts {w : World} {D : Nat → Prop} {n : Nat} {M : Nat → Nat} {c : FC} (h : Fam w D n M c) : ∃ ao cap, c.v = .slice ao n cap ∧
    ∀ i, i < n → ∃ b o, ao = some ⟨b, o, none⟩ ∧ c.G b ∧ w.cell? ⟨b, o + i, none⟩ = some (.pointer (some ⟨c.B i, 0, none⟩)) := by
  obtain ⟨ao, cap, h1, h2, h3, h4, h5, h6⟩ := h.row
  refine ⟨ao, cap, h1, fun i hi => ?_⟩
  obtain ⟨b, o, h7, h8, h9⟩ := h6.addr (by rw [bptr_length]; omega)
  refine ⟨b, o, h7, h8, ?_⟩
  rw [h9 i (by rw [bptr_length]; exact hi)]
  simp [List.getD, bptr_at hi]

/-- a node's set; nil, where there is no such node -/
def ofP (c : FC) (n : Nat) (i : Int) : Option Addr := if 0 ≤ i ∧ i < n then some ⟨c.B i.toNat, 0, none⟩ else none
def ofN (n : Nat) (i : Int) : Nat := if 0 ≤ i ∧ i < n then n else 0
def ofM (n : Nat) (M : Nat → Nat) (i : Int) : Nat := if 0 ≤ i ∧ i < n then M i.toNat else 0
theorem Fam.of {w : World} {D : Nat → Prop} {n : Nat} {M : Nat → Nat} {c : FC} (h : Fam w D n M c) (i : Int) : SetP w D (ofP c n i) (ofN n i) (ofM n M i) := by
  unfold ofP ofN ofM
  by_cases hi : 0 ≤ i ∧ i < n
  · rw [if_pos hi, if_pos hi, if_pos hi]
    exact ((h.set i.toNat (by omega)).mono fun k hk => h.sD _ k hk).p
  · rw [if_neg hi, if_neg hi, if_neg hi]
    exact .inl ⟨rfl, rfl, rfl⟩
theorem rowsOf_any {w : World} {D : Nat → Prop} {n : Nat} {M : Nat → Nat} {c : FC} (h : Fam w D n M c) (i : Int) :
    Calls Tryd.prog 39 #[.agg #[c.v], .int .i64 i] w fun e w' => e = .returned (.pointer (ofP c n i)) ∧ Fx No w w' := by
  obtain ⟨ao, cap, hv, hc⟩ := h.facts
  rw [hv]
  have HC := Lib.hid hc
  have HP : Hid (ofP c n i = if 0 ≤ i ∧ i < n then some ⟨c.B i.toNat, 0, none⟩ else none) := Lib.hid rfl
  have hle := h.le
  clear hc h hv
  by_cases h0 : i < 0
  · have d0 : decide (i < 0) = true := decide_eq_true h0
    go_enter Tryd.func39, Tryd.ntmps39
    go_wp2
    go_ret
    exact ⟨by rw [HP.out, if_neg (by omega)]; rfl, (Fx.refl No w).alloc _⟩
  · obtain ⟨k, rfl⟩ := Int.eq_ofNat_of_zero_le (by omega : 0 ≤ i)
    by_cases h1 : k < n
    · have d0 : decide ((k : Int) < 0) = false := decide_eq_false (by omega)
      have d1 : decide ((n : Int) ≤ (k : Int)) = false := decide_eq_false (by omega)
      have d2 : decide (n ≤ k) = false := decide_eq_false (by omega)
      obtain ⟨b, o, rfl, _, hcell⟩ := HC.out k h1
      have hb : b < w.heap.size := World.block_lt_of_cell? w _ hcell
      clear h0
      go_enter Tryd.func39, Tryd.ntmps39
      go_wp2
      go_ret
      refine ⟨?_, (Fx.refl No w).alloc _⟩
      rw [HP.out, if_pos (by omega)]
      rfl
    · have d0 : decide ((k : Int) < 0) = false := decide_eq_false (by omega)
      have d1 : decide ((n : Int) ≤ (k : Int)) = true := decide_eq_true (by omega)
      have d2 : decide (n ≤ k) = true := decide_eq_true (by omega)
      clear h0
      go_enter Tryd.func39, Tryd.ntmps39
      go_wp2
      go_ret
      exact ⟨by rw [HP.out, if_neg (by omega)]; rfl, (Fx.refl No w).alloc _⟩
#print axioms rowsOf_any
end Go.Proofs.YtfpggeiphbekoaaDoor
