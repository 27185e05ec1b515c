/- Plain: ways over edges; an edge more; pairs joined until nothing is new; which edges are needed. | Sets behind a slice, one for each node; what the methods of closure's rows tell and do. | closure's rows: join. | closure's made: sets of no numbers. | closure's copied. -/
import Derived.Test.YtfpggeiphbekoaaGreatDoorA3
import Derived.Test.YtfpggeiphbekoaaGreatDoorA1

namespace Go.Proofs.YtfpggeiphbekoaaGreatDoor
set_option linter.unusedVariables false

/-- there is a way of at least one edge -/
inductive Way (e : Nat → Nat → Prop) : Nat → Nat → Prop
  | one {i j : Nat} : e i j → Way e i j
  | more {i j k : Nat} : e i j → Way e j k → Way e i k
theorem Way.trans {e : Nat → Nat → Prop} {i j k : Nat} (h : Way e i j) (h' : Way e j k) : Way e i k := by
  induction h with
  | one h => exact .more h h'
  | more h _ ih => exact .more h (ih h')
theorem Way.mono {e e' : Nat → Nat → Prop} (hs : ∀ i j, e i j → e' i j) {i j : Nat} (h : Way e i j) : Way e' i j := by
  induction h with
  | one h => exact .one (hs _ _ h)
  | more h _ ih => exact .more (hs _ _ h) ih
theorem Way.congr {e e' : Nat → Nat → Prop} (hs : ∀ i j, e i j ↔ e' i j) {i j : Nat} : Way e i j ↔ Way e' i j :=
  ⟨fun h => h.mono fun i j => (hs i j).1, fun h => h.mono fun i j => (hs i j).2⟩
theorem Way.lt {e : Nat → Nat → Prop} {n : Nat} (hn : ∀ i j, e i j → i < n ∧ j < n) {i j : Nat} (h : Way e i j) : i < n ∧ j < n := by
  induction h with
  | one h => exact hn _ _ h
  | more h _ ih => exact ⟨(hn _ _ h).1, ih.2⟩
/-- the first edge of a way -/
theorem Way.first {e : Nat → Nat → Prop} {i j : Nat} (h : Way e i j) : ∃ k, e i k ∧ (k = j ∨ Way e k j) := by
  cases h with
  | one h => exact ⟨_, h, .inl rfl⟩
  | more h h' => exact ⟨_, h, .inr h'⟩

/-- an edge more -/
def addE (e : Nat → Nat → Prop) (f t : Nat) : Nat → Nat → Prop := fun i j => e i j ∨ (i = f ∧ j = t)
theorem way_add {e : Nat → Nat → Prop} {f t i j : Nat} : Way (addE e f t) i j ↔ Way e i j ∨ ((i = f ∨ Way e i f) ∧ (j = t ∨ Way e t j)) := by
  constructor
  · intro h
    induction h with
    | one h =>
      rcases h with h | ⟨rfl, rfl⟩
      · exact .inl (.one h)
      · exact .inr ⟨.inl rfl, .inl rfl⟩
    | more h _ ih =>
      rcases h with h | ⟨rfl, rfl⟩
      · rcases ih with ih | ⟨ih1, ih2⟩
        · exact .inl (.more h ih)
        · refine .inr ⟨.inr ?_, ih2⟩
          rcases ih1 with rfl | ih1
          · exact .one h
          · exact .more h ih1
      · rcases ih with ih | ⟨ih1, ih2⟩
        · exact .inr ⟨.inl rfl, .inr ih⟩
        · exact .inr ⟨.inl rfl, ih2⟩
  · intro h
    have m : ∀ {a b}, Way e a b → Way (addE e f t) a b := fun h => h.mono fun _ _ h => .inl h
    have o : Way (addE e f t) f t := .one (.inr ⟨rfl, rfl⟩)
    rcases h with h | ⟨h1, h2⟩
    · exact m h
    · have h3 : Way (addE e f t) i t := by
        rcases h1 with rfl | h1
        · exact o
        · exact (m h1).trans o
      rcases h2 with rfl | h2
      · exact h3
      · exact h3.trans (m h2)
theorem way_add_same {e : Nat → Nat → Prop} {f t i j : Nat} (h : Way e f t) : Way (addE e f t) i j ↔ Way e i j := by
  rw [way_add]
  constructor
  · rintro (h' | ⟨h1, h2⟩)
    · exact h'
    · have h3 : Way e i t := by
        rcases h1 with rfl | h1
        · exact h
        · exact h1.trans h
      rcases h2 with rfl | h2
      · exact h3
      · exact h3.trans h2
  · exact .inl

/-- pairs, joined by the nodes below k -/
def WK (e : Nat → Nat → Prop) : Nat → Nat → Nat → Prop
  | 0 => e
  | k + 1 => fun i j => WK e k i j ∨ (WK e k i k ∧ WK e k k j)
theorem WK.le {e : Nat → Nat → Prop} {k : Nat} : ∀ {m : Nat} {i j : Nat}, k ≤ m → WK e k i j → WK e m i j := by
  intro m
  induction m with
  | zero => intro i j hk h; obtain rfl : k = 0 := by omega
            exact h
  | succ m ih =>
    intro i j hk h
    by_cases e : k = m + 1
    · subst e; exact h
    · exact .inl (ih (by omega) h)
theorem WK.trans {e : Nat → Nat → Prop} : ∀ {k m i j : Nat}, m < k → WK e k i m → WK e k m j → WK e k i j := by
  intro k
  induction k with
  | zero => intro m i j h; omega
  | succ k ih =>
    intro m i j hm h h'
    by_cases e : m = k
    · subst e
      have h1 : WK e m i m := by rcases h with h | ⟨h, _⟩ <;> exact h
      have h2 : WK e m m j := by rcases h' with h' | ⟨_, h'⟩ <;> exact h'
      exact .inr ⟨h1, h2⟩
    · have hm' : m < k := by omega
      rcases h with h | ⟨h1, h2⟩
      · rcases h' with h' | ⟨h3, h4⟩
        · exact .inl (ih hm' h h')
        · exact .inr ⟨ih hm' h h3, h4⟩
      · rcases h' with h' | ⟨h3, h4⟩
        · exact .inr ⟨h1, ih hm' h2 h'⟩
        · exact .inr ⟨h1, h4⟩
theorem WK.way {e : Nat → Nat → Prop} : ∀ {k i j : Nat}, WK e k i j → Way e i j := by
  intro k
  induction k with
  | zero => intro i j h; exact .one h
  | succ k ih =>
    intro i j h
    rcases h with h | ⟨h1, h2⟩
    · exact ih h
    · exact (ih h1).trans (ih h2)
theorem way_WK {e : Nat → Nat → Prop} {n : Nat} (hn : ∀ i j, e i j → i < n ∧ j < n) {i j : Nat} : Way e i j ↔ WK e n i j := by
  refine ⟨fun h => ?_, WK.way⟩
  induction h with
  | one h => exact WK.le (k := 0) (Nat.zero_le _) h
  | more h h' ih => exact WK.trans (hn _ _ h).2 (WK.le (k := 0) (Nat.zero_le _) h) ih

/-! An edge that is needed -/
/-- edges but one -/
def subE (e : Nat → Nat → Prop) (f t : Nat) : Nat → Nat → Prop := fun i j => e i j ∧ ¬ (i = f ∧ j = t)
/-- of edges without a closed walk: there is a way about one just if some other edge from where it begins leads to where it ends -/
theorem way_about {e : Nat → Nat → Prop} {f t : Nat} (hc : ∀ i, ¬ Way e i i) (h : e f t) : Way (subE e f t) f t ↔ ∃ k, e f k ∧ k ≠ t ∧ Way e k t := by
  constructor
  · intro h
    obtain ⟨k, ⟨h1, h2⟩, h3⟩ := h.first
    refine ⟨k, h1, fun e => h2 ⟨rfl, e⟩, ?_⟩
    rcases h3 with rfl | h3
    · exact absurd ⟨rfl, rfl⟩ h2
    · exact h3.mono fun _ _ h => h.1
  · rintro ⟨k, h1, h2, h3⟩
    -- no way from k goes over the edge: else f would lead to itself
    have key : ∀ i j, Way e i j → (∀ x, (i = x ∨ Way e i x) → x ≠ f) → Way (subE e f t) i j := by
      intro i j hw
      induction hw with
      | one h => intro hx; exact .one ⟨h, fun e => hx _ (.inl rfl) e.1⟩
      | more h h' ih =>
        intro hx
        refine .more ⟨h, fun e => hx _ (.inl rfl) e.1⟩ (ih fun x hx' => hx x (.inr ?_))
        rcases hx' with rfl | hx'
        · exact .one h
        · exact .more h hx'
    refine .more ⟨h1, fun e => h2 e.2⟩ (key k t h3 fun x hx => ?_)
    rintro rfl
    rcases hx with rfl | hx
    · exact hc _ (.one h1)
    · exact hc _ (.more h1 hx)
end Go.Proofs.YtfpggeiphbekoaaGreatDoor

namespace Go.Proofs.YtfpggeiphbekoaaGreatDoor
open Go.RowKit
set_option linter.unusedVariables false

/-- where a family of sets lies: its slice, the sets' blocks, the slice's own block, each set's blocks -/
structure FC where
  v : Value
  B : Nat → Nat
  G : Nat → Prop
  Ds : Nat → Nat → Prop
def bptr (B : Nat → Nat) (n : Nat) : List Value := (List.range n).map fun i => .pointer (some ⟨B i, 0, none⟩)
theorem bptr_length (B : Nat → Nat) (n : Nat) : (bptr B n).length = n := by simp [bptr]
theorem bptr_at {B : Nat → Nat} {n i : Nat} (h : i < n) : (bptr B n)[i]? = some (.pointer (some ⟨B i, 0, none⟩)) := by simp [bptr, h]
theorem bptr_succ (B : Nat → Nat) (n : Nat) : bptr B (n + 1) = bptr B n ++ [.pointer (some ⟨B n, 0, none⟩)] := by simp [bptr, List.range_succ]
theorem bptr_congr {B C : Nat → Nat} {n : Nat} (h : ∀ i, i < n → B i = C i) : bptr B n = bptr C n := by
  unfold bptr
  refine List.map_congr_left fun i hi => ?_
  rw [h i (List.mem_range.1 hi)]
/-- a family of n sets, of the numbers M -/
structure Fam (w : World) (D : Nat → Prop) (n : Nat) (M : Nat → Nat) (c : FC) : Prop where
  row : SlV w c.G c.v 1 n (bptr c.B n)
  set : ∀ i, i < n → SetIn w (c.Ds i) (c.B i) n (M i)
  dj : ∀ i j k, c.Ds i k → c.Ds j k → i = j
  dg : ∀ i k, c.Ds i k → ¬ c.G k
  gD : ∀ k, c.G k → D k
  sD : ∀ i k, c.Ds i k → D k
theorem Fam.keep {w w' : World} {S D : Nat → Prop} {n : Nat} {M : Nat → Nat} {c : FC} (h : Fam w D n M c) (hf : Fx S w w') (hd : ∀ k, D k → ¬ S k) : Fam w' D n M c :=
  ⟨h.row.keep hf fun k hk => hd k (h.gD k hk), fun i hi => (h.set i hi).keep hf fun k hk => hd k (h.sD i k hk), h.dj, h.dg, h.gD, h.sD⟩
theorem Fam.no {w w' : World} {D : Nat → Prop} {n : Nat} {M : Nat → Nat} {c : FC} (h : Fam w D n M c) (hf : Fx No w w') : Fam w' D n M c := h.keep hf No.disj
theorem Fam.mono {w : World} {D T : Nat → Prop} {n : Nat} {M : Nat → Nat} {c : FC} (h : Fam w D n M c) (hd : ∀ k, D k → T k) : Fam w T n M c :=
  ⟨h.row, h.set, h.dj, h.dg, fun k hk => hd k (h.gD k hk), fun i k hk => hd k (h.sD i k hk)⟩
theorem Fam.congr {w : World} {D : Nat → Prop} {n : Nat} {M M' : Nat → Nat} {c : FC} (h : Fam w D n M c) (e : ∀ i, i < n → M i = M' i) : Fam w D n M' c :=
  ⟨h.row, fun i hi => by rw [← e i hi]; exact h.set i hi, h.dj, h.dg, h.gD, h.sD⟩
/-- one of the sets is turned -/
theorem Fam.put {w w' : World} {D : Nat → Prop} {n X i : Nat} {M : Nat → Nat} {c : FC} (h : Fam w D n M c) (hi : i < n) (hf : Fx (c.Ds i) w w') (hs : SetIn w' (c.Ds i) (c.B i) n X) : Fam w' D n (fun j => if j = i then X else M j) c := by
  refine ⟨h.row.keep hf fun k hk hs => h.dg i k hs hk, fun j hj => ?_, h.dj, h.dg, h.gD, h.sD⟩
  by_cases e : j = i
  · subst e; rw [if_pos rfl]; exact hs
  · rw [if_neg e]; exact (h.set j hj).keep hf fun k hk hk' => e (h.dj j i k hk hk')
theorem Fam.le {w : World} {D : Nat → Prop} {n : Nat} {M : Nat → Nat} {c : FC} (h : Fam w D n M c) : n ≤ 65536 := by
  by_cases e : n = 0
  · omega
  · exact (h.set 0 (by omega)).le
theorem Fam.facts {w : World} {D : Nat → Prop} {n : Nat} {M : Nat → Nat} {c : FC} (h : Fam w D n M c) : ∃ ao cap, c.v = .slice ao n cap ∧
    ∀ i, i < n → ∃ b o, ao = some ⟨b, o, none⟩ ∧ c.G b ∧ w.cell? ⟨b, o + i, none⟩ = some (.pointer (some ⟨c.B i, 0, none⟩)) := by
  obtain ⟨ao, cap, h1, h2, h3, h4, h5, h6⟩ := h.row
  refine ⟨ao, cap, h1, fun i hi => ?_⟩
  obtain ⟨b, o, h7, h8, h9⟩ := h6.addr (by rw [bptr_length]; omega)
  refine ⟨b, o, h7, h8, ?_⟩
  rw [h9 i (by rw [bptr_length]; exact hi)]
  simp [List.getD, bptr_at hi]

/-- a node's set; nil, where there is no such node -/
def ofP (c : FC) (n : Nat) (i : Int) : Option Addr := if 0 ≤ i ∧ i < n then some ⟨c.B i.toNat, 0, none⟩ else none
def ofN (n : Nat) (i : Int) : Nat := if 0 ≤ i ∧ i < n then n else 0
def ofM (n : Nat) (M : Nat → Nat) (i : Int) : Nat := if 0 ≤ i ∧ i < n then M i.toNat else 0
theorem Fam.of {w : World} {D : Nat → Prop} {n : Nat} {M : Nat → Nat} {c : FC} (h : Fam w D n M c) (i : Int) : SetP w D (ofP c n i) (ofN n i) (ofM n M i) := by
  unfold ofP ofN ofM
  by_cases hi : 0 ≤ i ∧ i < n
  · rw [if_pos hi, if_pos hi, if_pos hi]
    exact ((h.set i.toNat (by omega)).mono fun k hk => h.sD _ k hk).p
  · rw [if_neg hi, if_neg hi, if_neg hi]
    exact .inl ⟨rfl, rfl, rfl⟩
theorem rowsOf_any {w : World} {D : Nat → Prop} {n : Nat} {M : Nat → Nat} {c : FC} (h : Fam w D n M c) (i : Int) :
    Calls Tryz.prog 40 #[.agg #[c.v], .int .i64 i] w fun e w' => e = .returned (.pointer (ofP c n i)) ∧ Fx No w w' := by
  obtain ⟨ao, cap, hv, hc⟩ := h.facts
  rw [hv]
  have HC := Lib.hid hc
  have HP : Hid (ofP c n i = if 0 ≤ i ∧ i < n then some ⟨c.B i.toNat, 0, none⟩ else none) := Lib.hid rfl
  have hle := h.le
  clear hc h hv
  by_cases h0 : i < 0
  · have d0 : decide (i < 0) = true := decide_eq_true h0
    go_enter Tryz.func40, Tryz.ntmps40
    go_wp2
    go_ret
    exact ⟨by rw [HP.out, if_neg (by omega)]; rfl, (Fx.refl No w).alloc _⟩
  · obtain ⟨k, rfl⟩ := Int.eq_ofNat_of_zero_le (by omega : 0 ≤ i)
    by_cases h1 : k < n
    · have d0 : decide ((k : Int) < 0) = false := decide_eq_false (by omega)
      have d1 : decide ((n : Int) ≤ (k : Int)) = false := decide_eq_false (by omega)
      have d2 : decide (n ≤ k) = false := decide_eq_false (by omega)
      obtain ⟨b, o, rfl, _, hcell⟩ := HC.out k h1
      have hb : b < w.heap.size := World.block_lt_of_cell? w _ hcell
      clear h0
      go_enter Tryz.func40, Tryz.ntmps40
      go_wp2
      go_ret
      refine ⟨?_, (Fx.refl No w).alloc _⟩
      rw [HP.out, if_pos (by omega)]
      rfl
    · have d0 : decide ((k : Int) < 0) = false := decide_eq_false (by omega)
      have d1 : decide ((n : Int) ≤ (k : Int)) = true := decide_eq_true (by omega)
      have d2 : decide (n ≤ k) = true := decide_eq_true (by omega)
      clear h0
      go_enter Tryz.func40, Tryz.ntmps40
      go_wp2
      go_ret
      exact ⟨by rw [HP.out, if_neg (by omega)]; rfl, (Fx.refl No w).alloc _⟩
#print axioms rowsOf_any
end Go.Proofs.YtfpggeiphbekoaaGreatDoor

namespace Go.Proofs.YtfpggeiphbekoaaGreatDoor
open Go.RowKit
set_option linter.unusedVariables false

/-- the same place, blocks that are there alone -/
def FC.cut (c : FC) (w : World) : FC := ⟨c.v, c.B, fun k => c.G k ∧ k < w.heap.size, fun i k => c.Ds i k ∧ k < w.heap.size⟩
theorem Fam.cut {w : World} {D : Nat → Prop} {n : Nat} {M : Nat → Nat} {c : FC} (h : Fam w D n M c) : Fam w (fun k => D k ∧ k < w.heap.size) n M (c.cut w) :=
  ⟨h.row.bound, fun i hi => (h.set i hi).bound, fun i j k h1 h2 => h.dj i j k h1.1 h2.1, fun i k h1 h2 => h.dg i k h1.1 h2.1, fun k h1 => ⟨h.gD k h1.1, h1.2⟩, fun i k h1 => ⟨h.sD i k h1.1, h1.2⟩⟩
theorem Fam.uncut {w0 w w' : World} {D D' : Nat → Prop} {n : Nat} {M M0 : Nat → Nat} {c : FC} (h : Fam w' D' n M (c.cut w)) (h0 : Fam w0 D n M0 c) : Fam w' D n M c :=
  ⟨h.row.mono fun k hk => hk.1, fun i hi => (h.set i hi).mono fun k hk => hk.1, h0.dj, h0.dg, h0.gD, h0.sD⟩
/-- the sets of some nodes, Y joined in -/
def joinM (n Y : Nat) (l : List Int) (M : Nat → Nat) : Nat → Nat := fun i => if (i : Int) ∈ l then (M i ||| Y) % 2 ^ n else M i
theorem joinM_lt {n Y : Nat} {l : List Int} {M : Nat → Nat} {i : Nat} (h : M i < 2 ^ n) : joinM n Y l M i < 2 ^ n := by
  unfold joinM; split
  · exact Nat.mod_lt _ (Nat.two_pow_pos n)
  · exact h
theorem joinM_snoc {n Y x : Nat} {l : List Int} {M : Nat → Nat} : ∀ i, (if i = x then (joinM n Y l M x ||| Y) % 2 ^ n else joinM n Y l M i) = joinM n Y (l ++ [(x : Int)]) M i := by
  intro i
  by_cases e : i = x
  · subst e
    rw [if_pos rfl]
    unfold joinM
    rw [if_pos (by simp : (i : Int) ∈ l ++ [(i : Int)])]
    split
    · apply Nat.eq_of_testBit_eq
      intro j
      simp only [Nat.testBit_mod_two_pow, Nat.testBit_or]
      cases decide (j < n) <;> cases (M i).testBit j <;> cases Y.testBit j <;> rfl
    · rfl
  · rw [if_neg e]
    unfold joinM
    have h : ((i : Int) ∈ l ++ [(x : Int)]) ↔ (i : Int) ∈ l := by
      rw [List.mem_append, List.mem_singleton]
      constructor
      · rintro (h | h)
        · exact h
        · omega
      · exact .inl
    by_cases hm : (i : Int) ∈ l
    · rw [if_pos hm, if_pos (h.2 hm)]
    · rw [if_neg hm, if_neg fun hh => hm (h.1 hh)]
theorem joinM_nil (n Y : Nat) (M : Nat → Nat) : joinM n Y [] M = M := by funext i; simp [joinM]
theorem rawX_one (X Y : Nat) : rawX 0 X [Y] = X ||| Y := rfl
set_option maxHeartbeats 1000000 in
theorem rowsJoin_any {w : World} {D E E2 : Nat → Prop} {n m m2 X Y : Nat} {M : Nat → Nat} {c : FC} {p q : Option Addr} {u : Value} (h : Fam w D n M c) (hp : SetP w E p m X) (hm : m ≤ n)
    (hu : SlV w E2 u 1 1 [.pointer q]) (hq : SetP w E2 q m2 Y) (hd : ∀ k, E2 k → ¬ D k) (hT : TabOk w) :
    Calls Tryz.prog 44 #[.agg #[c.v], .pointer p, u] w fun e w' => e = .returned (.tuple #[]) ∧ Fx D w w' ∧ Fam w' D n (joinM n Y (allX m X) M) c := by
  obtain ⟨ao, cap, hv, _⟩ := h.facts
  have H := Lib.hid h
  have HP := Lib.hid hp
  have HU := Lib.hid hu
  have HQ := Lib.hid hq
  have HD := Lib.hid hd
  have HT := Lib.hid hT
  have HV : Hid ((c.cut w).v = .slice ao n cap) := Lib.hid hv
  have hle := h.le
  rw [hv]
  obtain ⟨l, hl⟩ : ∃ l, l = allX m X := ⟨_, rfl⟩
  have HL : Hid (∀ k, k < l.length → ∃ x : Nat, gi l k = (x : Int) ∧ x < n) := Lib.hid fun k hk => by
    have := gi_mem hk
    rw [hl] at this
    obtain ⟨x, h1, h2, _⟩ := mem_allX.1 this
    exact ⟨x, by rw [hl]; exact h1, by omega⟩
  rw [← hl]
  have hll : l.length ≤ m := by rw [hl]; exact allX_length_le _ _
  have HLe := Lib.hid hl
  clear h hp hu hq hd hT hv hl
  go_enter Tryz.func44, Tryz.ntmps44
  go_wp2_with fail
  refine (all_any (HP.out.no' ((Fx.refl No w).alloc _)) (HT.out.keep ((Fx.refl No w).alloc _) (fun h => h))).mono ?_
  rintro e w1 ⟨v, rfl, hf, ho⟩
  rw [← HLe.out] at ho
  obtain ⟨vo, vc, rfl, _, hvc⟩ := ho.ints.facts
  have hc0 : w1.cell? ⟨w.heap.size, 0, none⟩ = some (.slice ao n cap) := hf.cell' (by simp) (fun h => h)
  have HF1 : Hid (Fx No w w1) := ((Fx.refl No w).alloc _).trans hf
  have HVC := Lib.hid hvc
  have HC0 := Lib.hid hc0
  have hz1 := hf.size
  simp only [World.size_alloc] at hz1
  clear hf ho hvc hc0
  go_wp2
  go_loopw [7, 11] (fun _ i wr => ∃ k : Nat, i = .int .i64 k ∧ k ≤ l.length ∧ Fx (fun k => D k ∧ k < w.heap.size) w1 wr ∧ Fam wr (fun k => D k ∧ k < w.heap.size) n (joinM n Y (l.take k) M) (c.cut w)) (fun _ i _ => l.length - (intOf i).toNat)
  case atStart => exact ⟨0, rfl, Nat.zero_le _, Fx.refl _ _, by rw [List.take_zero, joinM_nil]; exact H.out.cut.no HF1.out⟩
  case round =>
    obtain ⟨k, rfl, hk, hf, hm⟩ := hrel
    have HF := Lib.hid hf
    have HM := Lib.hid hm
    clear hf hm
    by_cases hlt : k < l.length
    · obtain ⟨b, o, rfl, hb, hcell⟩ := HVC.out k hlt
      have hcell' := HF.out.cell' hcell (fun h => by have h1 := hb.1; simp only [World.size_alloc] at h1; have h2 : b < w.heap.size := h.2; omega)
      have hc0 := HF.out.cell' HC0.out (fun h => by have h2 : w.heap.size < w.heap.size := h.2; omega)
      obtain ⟨x, hx1, hx2⟩ := HL.out k hlt
      rw [hx1] at hcell'
      obtain ⟨ao', cap', hv', hcc⟩ := HM.out.facts
      rw [HV.out] at hv'
      simp only [Value.slice.injEq] at hv'
      obtain ⟨rfl, _, rfl⟩ := hv'
      obtain ⟨b2, o2, rfl, hg2, hc2⟩ := hcc x hx2
      have HTk : Hid (l.take (k + 1) = l.take k ++ [(x : Int)]) := by rw [← hx1]; exact Lib.hid (take_gi hlt)
      have hx3 : (x : Int) < (n : Int) := by omega
      clear hcell hx1 hcc hb hg2
      go_wp2_with fail
      have HFu : Hid (Fx (fun k => D k ∧ k < w.heap.size) w wr) := (HF1.out.no).trans HF.out
      refine (join_any (L := [(q, Y)]) (E := E2) (HM.out.set x hx2) (HU.out.keep HFu.out fun k hk hd => HD.out k hk hd.1) (by
        intro z hz
        rw [List.mem_singleton] at hz
        subst hz
        exact .inr ⟨m2, HQ.out.keep HFu.out fun k hk hd => HD.out k hk hd.1⟩) (fun k hk hd => HD.out k hk (H.out.sD x k hd.1)) (by simp)).mono ?_
      rintro e w2 ⟨rfl, hf2, hs2⟩
      have hs3 : SetIn w2 ((c.cut w).Ds x) ((c.cut w).B x) n ((joinM n Y (l.take k) M x ||| Y) % 2 ^ n) := hs2
      have HM2 : Hid (Fam w2 (fun k => D k ∧ k < w.heap.size) n (joinM n Y (l.take (k + 1)) M) (c.cut w)) := by
        rw [HTk.out]
        exact (HM.out.put hx2 hf2 hs3).congr fun i _ => joinM_snoc i
      have HF2 : Hid (Fx (fun k => D k ∧ k < w.heap.size) w1 w2) := HF.out.trans (hf2.mono fun k _ hk => ⟨H.out.sD x k hk.1, hk.2⟩)
      clear hf2 hs2 hs3
      go_wp2
      go_roundw
      case rel => exact ⟨k + 1, by go_num, by omega, HF2.out, HM2.out⟩
      case measure => simp [intOf]; omega
    · obtain rfl : k = l.length := by omega
      go_wp2
      go_end0
      refine ⟨rfl, (HF1.out.no).trans (HF.out.mono fun k _ hk => hk.1), ?_⟩
      have := HM.out
      rw [List.take_length, ← show l = l from rfl] at this
      exact this.uncut H.out
#print axioms rowsJoin_any
end Go.Proofs.YtfpggeiphbekoaaGreatDoor

namespace Go.Proofs.YtfpggeiphbekoaaGreatDoor
open Go.RowKit
set_option linter.unusedVariables false

/-- the world under a name, with what is known of it -/
theorem wp_hold {P : Program} {c : Code} {Q : Exit → Act → World → Prop} {a : Act} {W : World} (R : World → Prop) (hR : R W) (h : ∀ W', R W' → c.wp P Q a W') : c.wp P Q a W := h W hR
theorem info_setp : (Tryz.prog.info? 83).map (fun i => (i.zero, i.size, i.bytes)) = some (some (.pointer none), 1, 8) := by kernel_rfl
def nilPtrs (k : Nat) : Array Value := Array.replicate k (.pointer none)
theorem makePtrs {E : Int} {k : Nat} (h0 : 0 ≤ E) (h1 : E ≤ 1000000) (hk : E.toNat = k) (w : World) :
    (Instr.makeSlice 70 (.int .i64 E) (.int .i64 E)).run Tryz.prog w = .ok (.slice (some ⟨w.heap.size, 0, none⟩) k k) (w.alloc (.cells (nilPtrs k) 83)) := by
  obtain ⟨i, hi, hz, hs, hb⟩ := info_parts info_setp
  have := run_make (P := Tryz.prog) w 70 83 i _ Tryz.underlying70 hi hz .i64 .i64 E E h0 (Int.le_refl _) (by rw [hb]; omega) (by omega)
  rw [this, hk, hs]
  have e : madeCells (Value.pointer none).cells (k * 1) = nilPtrs k := by
    apply Array.ext'
    rw [show (Value.pointer none).cells = #[.pointer none] from rfl, toList_madeCells_one]
    simp [nilPtrs]
  rw [e]
/-- cells of a block that read as a function's pointers, and may be written -/
def CellsQ (w : World) (g n : Nat) (P : Nat → Option Addr) : Prop := ∀ k, k < n → w.cell? ⟨g, k, none⟩ = some (.pointer (P k)) ∧ w.frozen? ⟨g, k, none⟩ = false
theorem CellsQ.fx {S : Nat → Prop} {w w' : World} {g n : Nat} {P : Nat → Option Addr} (h : CellsQ w g n P) (hf : Fx S w w') (hn : ¬ S g) : CellsQ w' g n P := fun k hk => hf.cellF (h k hk).1 (h k hk).2 hn
theorem CellsQ.set {w : World} {g n x : Nat} {P : Nat → Option Addr} (h : CellsQ w g n P) (hx : x < n) (a : Option Addr) : CellsQ (w.setCell ⟨g, x, none⟩ (.pointer a)) g n (fun k => if k = x then a else P k) := by
  intro k hk
  refine ⟨?_, by simpa using (h k hk).2⟩
  by_cases e : k = x
  · subst e; simp only [↓reduceIte]; exact World.cell?_setCell_same _ _ _ (h k hk).1
  · simp only [if_neg e]
    rw [World.cell?_setCell_other _ _ _ _ (by intro e2; injection e2; omega)]
    exact (h k hk).1
theorem CellsQ.congr {w : World} {g n : Nat} {P Q : Nat → Option Addr} (h : CellsQ w g n P) (e : ∀ k, k < n → P k = Q k) : CellsQ w g n Q := fun k hk => by rw [← e k hk]; exact h k hk
/-- the first k sets are made -/
structure MadeS (w ws : World) (n k sb rb qb : Nat) (B L : Nat → Nat) : Prop where
  fx : Fx No w ws
  cells : CellsQ ws sb n (fun j => if j < k then some ⟨B j, 0, none⟩ else none)
  rc : ws.cell? ⟨rb, 0, none⟩ = some (.slice (some ⟨sb, 0, none⟩) n n)
  qc : ∃ u, ws.cell? ⟨qb, 0, none⟩ = some u ∧ ws.frozen? ⟨qb, 0, none⟩ = false
  set : ∀ j, j < k → SetIn ws (Iv (L j) (L (j + 1))) (B j) n 0
  mono : ∀ j, j < k → L j ≤ L (j + 1)
  top : L k ≤ ws.heap.size
  lo : w.heap.size ≤ sb ∧ sb < L 0 ∧ rb < L 0 ∧ qb < L 0 ∧ sb ≠ rb ∧ sb ≠ qb ∧ rb ≠ qb ∧ w.heap.size ≤ qb
theorem mono_le {L : Nat → Nat} {k : Nat} (h : ∀ j, j < k → L j ≤ L (j + 1)) : ∀ i j, i ≤ j → j ≤ k → L i ≤ L j := by
  intro i j hij
  induction hij with
  | refl => exact fun _ => Nat.le_refl _
  | step hij ih => exact fun hj => Nat.le_trans (ih (by omega)) (h _ (by omega))
theorem MadeS.step {w ws w1 : World} {n k sb rb qb b s0 : Nat} {B L : Nat → Nat} (h : MadeS w ws n k sb rb qb B L) (hk : k < n) (hf : Fx No ws w1) (h0 : ws.heap.size ≤ s0) (hs0 : s0 ≤ w1.heap.size) (hs : SetIn w1 (Iv s0 w1.heap.size) b n 0) :
    MadeS w (w1.setCell ⟨sb, k, none⟩ (.pointer (some ⟨b, 0, none⟩))) n (k + 1) sb rb qb (fun j => if j = k then b else B j) (fun j => if j ≤ k then L j else w1.heap.size) := by
  obtain ⟨l1, l2, l3, l4, l5, l6, l7, l8⟩ := h.lo
  have hL := mono_le h.mono
  have hf2 : Fx (fun j => j = sb) w1 (w1.setCell ⟨sb, k, none⟩ (.pointer (some ⟨b, 0, none⟩))) := Fx.put _ _ _ _
  have htop := h.top
  refine ⟨(h.fx.trans hf).setCell (.inl l1) _, ?_, ?_, ?_, fun j hj => ?_, fun j hj => ?_, ?_, by simpa using h.lo⟩
  · refine ((h.cells.fx hf (fun h => h)).set hk _).congr fun j hj => ?_
    by_cases e : j = k
    · subst e; simp
    · rw [if_neg e]
      by_cases e2 : j < k
      · simp [e2, show j < k + 1 by omega, e]
      · simp [e2, show ¬ j < k + 1 by omega]
  · exact hf2.cell' (hf.cell' h.rc (fun h => h)) (fun e => l5 e.symm)
  · obtain ⟨u, h1, h2⟩ := h.qc
    obtain ⟨h3, h4⟩ := hf.cellF h1 h2 (fun h => h)
    exact ⟨u, hf2.cellF h3 h4 (fun e => l6 e.symm)⟩
  · by_cases e : j = k
    · subst e
      simp only [Nat.le_refl, if_true, show ¬ j + 1 ≤ j by omega, if_false]
      exact (hs.keep hf2 (by rintro x ⟨hx, _⟩ e; have := hL 0 j (Nat.zero_le _) (Nat.le_refl _); omega)).mono fun x hx => ⟨by have := hx.1; omega, by have := hx.2; exact this⟩
    · have hjk : j < k := by omega
      simp only [if_neg e, show j ≤ k by omega, show j + 1 ≤ k by omega, if_true]
      exact ((h.set j hjk).no hf).keep hf2 (by rintro x ⟨hx, _⟩ e; have := hL 0 j (Nat.zero_le _) (by omega); omega)
  · by_cases e : j = k
    · subst e
      simp only [Nat.le_refl, if_true, show ¬ j + 1 ≤ j by omega, if_false]
      have := hf.size; omega
    · simp only [show j ≤ k by omega, show j + 1 ≤ k by omega, if_true]
      exact h.mono j (by omega)
  · simp only [show ¬ k + 1 ≤ k by omega, if_false]
    simp [World.setCell]
theorem MadeS.put {w ws : World} {n k sb rb qb : Nat} {B L : Nat → Nat} (h : MadeS w ws n k sb rb qb B L) (v : Value) : MadeS w (ws.setCell ⟨qb, 0, none⟩ v) n k sb rb qb B L := by
  obtain ⟨l1, l2, l3, l4, l5, l6, l7, l8⟩ := h.lo
  have hL := mono_le h.mono
  have hf2 : Fx (fun j => j = qb) ws (ws.setCell ⟨qb, 0, none⟩ v) := Fx.put _ _ _ _
  obtain ⟨u, h1, h2⟩ := h.qc
  exact ⟨h.fx.setCell (.inl l8) _, h.cells.fx hf2 l6, hf2.cell' h.rc l7, ⟨v, World.cell?_setCell_same _ _ _ h1, by simpa using h2⟩,
    fun j hj => (h.set j hj).keep hf2 (by rintro x ⟨hx, _⟩ e; have := hL 0 j (Nat.zero_le _) (by omega); omega), h.mono, by simpa [World.setCell] using h.top, h.lo⟩
theorem MadeS.fam {w ws : World} {n sb rb qb : Nat} {B L : Nat → Nat} (h : MadeS w ws n n sb rb qb B L) (hn : n ≤ 1024) :
    Fam ws (Iv w.heap.size ws.heap.size) n (fun _ => 0) ⟨.slice (some ⟨sb, 0, none⟩) n n, B, fun k => k = sb, fun i k => i < n ∧ Iv (L i) (L (i + 1)) k⟩ := by
  obtain ⟨l1, l2, l3, l4, l5, l6, l7, l8⟩ := h.lo
  have hL := mono_le h.mono
  have htop := h.top
  have hsb : L 0 ≤ L n := hL 0 n (Nat.zero_le _) (Nat.le_refl _)
  refine ⟨?_, fun i hi => (h.set i hi).mono fun k hk => ⟨hi, hk⟩, ?_, ?_, ?_, ?_⟩
  · refine ⟨_, n, rfl, Nat.le_refl _, by unfold maxLen; omega, by rw [bptr_length]; omega, by simp, .inr ⟨sb, 0, rfl, rfl, fun i hi => ?_⟩⟩
    rw [bptr_length] at hi
    rw [Nat.zero_add, (h.cells i hi).1]
    simp [List.getD, bptr_at hi, hi]
  · rintro i j k ⟨hi, h1, h2⟩ ⟨hj, h3, h4⟩
    apply Classical.byContradiction
    intro hne
    rcases Nat.lt_or_gt_of_ne hne with hlt | hlt
    · have := hL (i + 1) j (by omega) (by omega); omega
    · have := hL (j + 1) i (by omega) (by omega); omega
  · rintro i k ⟨hi, h1, h2⟩ e
    have := hL 0 i (Nat.zero_le _) (by omega)
    have e : k = sb := e
    omega
  · rintro k rfl
    exact ⟨l1, by omega⟩
  · rintro i k ⟨hi, h1, h2⟩
    have := hL 0 i (Nat.zero_le _) (by omega)
    have := hL (i + 1) n (by omega) (by omega)
    exact ⟨by omega, by omega⟩
theorem madeS_start (w : World) (n : Nat) (t1 t2 : TypeId) (u : Value) :
    MadeS w (((w.alloc (.cells #[u] t1)).alloc (.cells (nilPtrs n) 83)).alloc (.cells #[.slice (some ⟨w.heap.size + 1, 0, none⟩) n n] t2)) n 0 (w.heap.size + 1) (w.heap.size + 2) w.heap.size (fun _ => 0) (fun _ => w.heap.size + 3) := by
  refine ⟨((((Fx.refl No w).alloc _).alloc _).alloc _), fun k hk => ?_, ?_, ⟨u, ?_, ?_⟩, fun j hj => by omega, fun j hj => by omega, ?_, by omega, by omega, by omega, by omega, by omega, by omega, by omega, by omega⟩
  · have h1 := heap_alloc_new (w.alloc (.cells #[u] t1)) (.cells (nilPtrs n) 83)
    have h2 := ((Fx.refl No ((w.alloc (.cells #[u] t1)).alloc (.cells (nilPtrs n) 83))).alloc (.cells #[.slice (some ⟨w.heap.size + 1, 0, none⟩) n n] t2)).at_ h1 (fun h => h)
    rw [World.size_alloc] at h2
    exact ⟨by rw [cell_of_row _ _ _ _ _ _ h2]; simp [nilPtrs, hk], frozen_of_row _ _ _ _ _ h2⟩
  · have h1 := heap_alloc_new ((w.alloc (.cells #[u] t1)).alloc (.cells (nilPtrs n) 83)) (.cells #[.slice (some ⟨w.heap.size + 1, 0, none⟩) n n] t2)
    rw [World.size_alloc, World.size_alloc] at h1
    rw [cell_of_row _ _ _ _ _ _ h1]; rfl
  · have h1 := heap_alloc_new w (.cells #[u] t1)
    have h2 := (((Fx.refl No (w.alloc (.cells #[u] t1))).alloc (.cells (nilPtrs n) 83)).alloc (.cells #[.slice (some ⟨w.heap.size + 1, 0, none⟩) n n] t2)).at_ h1 (fun h => h)
    rw [cell_of_row _ _ _ _ _ _ h2]; rfl
  · have h1 := heap_alloc_new w (.cells #[u] t1)
    have h2 := (((Fx.refl No (w.alloc (.cells #[u] t1))).alloc (.cells (nilPtrs n) 83)).alloc (.cells #[.slice (some ⟨w.heap.size + 1, 0, none⟩) n n] t2)).at_ h1 (fun h => h)
    exact frozen_of_row _ _ _ _ _ h2
  · simp
theorem newN_nat {n : Nat} (h : n ≤ 65536) : newN (n : Int) = n := by unfold newN; omega
set_option maxHeartbeats 1000000 in
theorem made_any (n : Nat) (w : World) (hn : n ≤ 1024) :
    Calls Tryz.prog 36 #[.int .i64 (n : Int)] w fun e w' => ∃ c : FC, e = .returned (.agg #[c.v]) ∧ Fx No w w' ∧ Fam w' (Iv w.heap.size w'.heap.size) n (fun _ => 0) c := by
  have hm := makePtrs (E := (n : Int)) (k := n) (by omega) (by omega) (by omega)
  go_enter Tryz.func36, Tryz.ntmps36
  go_wp2
  refine wp_hold (fun W => MadeS w W n 0 (w.heap.size + 1) (w.heap.size + 1 + 1) w.heap.size (fun _ => 0) (fun _ => w.heap.size + 3)) (madeS_start w n _ _ _) ?_
  rintro W0 hR
  have HR := Lib.hid hR
  clear hR hm
  obtain ⟨qb, hqb⟩ : ∃ sb, sb = w.heap.size := ⟨_, rfl⟩
  rw [← hqb] at HR ⊢
  obtain ⟨rb, hrb⟩ : ∃ sb, sb = qb + 1 + 1 := ⟨_, rfl⟩
  rw [← hrb] at HR ⊢
  obtain ⟨sb, hsb⟩ : ∃ sb, sb = qb + 1 := ⟨_, rfl⟩
  rw [← hsb] at HR ⊢
  clear hqb hrb hsb
  go_loopw [4, 9] (fun _ i ws => ∃ (k : Nat) (B L : Nat → Nat), i = .int .i64 k ∧ k ≤ n ∧ MadeS w ws n k sb rb qb B L) (fun _ i _ => n - (intOf i).toNat)
  case atStart => exact ⟨0, _, _, rfl, Nat.zero_le _, HR.out⟩
  case round =>
    obtain ⟨k, B, L, rfl, hk, hM⟩ := hrel
    have HM := Lib.hid hM
    have rc := hM.rc
    clear hM
    by_cases hlt : k < n
    · have hkn : (k : Int) < (n : Int) := by omega
      obtain ⟨c1, c2⟩ := HM.out.cells k hlt
      go_wp2_with fail
      go_region_with (go_at_call 62; refine (new_any _ _).mono ?_; rintro e w1 ⟨b, rfl, hf1, hs1⟩; rw [newN_nat (by omega)] at hs1; have rc' := hf1.cell' rc (fun h => h); obtain ⟨c1', c2'⟩ := hf1.cellF c1 c2 (fun h => h); have HF1 := Lib.hid hf1; have HS1 := Lib.hid hs1; clear hf1 hs1)
      all_goals
        have HM2 := Lib.hid (HM.out.step hlt (((Fx.refl No wr).drew).trans HF1.out) (Nat.le_refl _) (by have := HF1.out.size; simpa using this) (by simpa using HS1.out))
        clear c1 c2 c1' c2' rc rc'
        go_wp2
        go_roundw
        case rel => exact ⟨k + 1, _, _, by go_num, by omega, HM2.out⟩
        case measure => simp [intOf]; omega
    · obtain rfl : k = n := by omega
      obtain ⟨u, g1, g2⟩ := HM.out.qc
      have HM2 := Lib.hid (HM.out.put (.slice (some ⟨sb, 0, none⟩) k k))
      have hsq : ¬ sb = qb := HM.out.lo.2.2.2.2.2.1
      have hrq : ¬ rb = qb := HM.out.lo.2.2.2.2.2.2.1
      go_wp2
      exact bodyPost_ret (v := .agg #[.slice (some ⟨sb, 0, none⟩) k k]) (by simp [results, Tryz.results36, go_sem, g1]) rfl ⟨_, rfl, HM2.out.fx, HM2.out.fam hn⟩
#print axioms made_any
end Go.Proofs.YtfpggeiphbekoaaGreatDoor

namespace Go.Proofs.YtfpggeiphbekoaaGreatDoor
open Go.RowKit
set_option linter.unusedVariables false

/-- the first k sets are copied -/
structure CopyS (w ws : World) (n k cb qb : Nat) (vs : Value) (M B lo hi : Nat → Nat) : Prop where
  fx : Fx No w ws
  own : ws.ownsRow (cb + 1) 83 1 vs k (bptr B k)
  cc : ws.cell? ⟨cb, 0, none⟩ = some vs ∧ ws.frozen? ⟨cb, 0, none⟩ = false
  qc : ∃ u, ws.cell? ⟨qb, 0, none⟩ = some u ∧ ws.frozen? ⟨qb, 0, none⟩ = false
  set : ∀ j, j < k → SetIn ws (Iv (lo j) (hi j)) (B j) n (M j)
  ord : ∀ j, j < k → cb < lo j ∧ lo j ≤ hi j ∧ hi j ≤ ws.heap.size ∧ ∀ i, i < j → hi i ≤ lo j
  sep : ∀ j, j < k → ∀ g, vs.ownBlock = some g → ¬ Iv (lo j) (hi j) g
  lows : w.heap.size ≤ qb ∧ qb < cb ∧ cb < ws.heap.size
theorem CopyS.step {w ws w1 W w2 : World} {n k cb qb b s0 : Nat} {vs v' : Value} {M B lo hi : Nat → Nat} (h : CopyS w ws n k cb qb vs M B lo hi) (hf1 : Fx No ws w1) (h0 : ws.heap.size ≤ s0) (h1 : s0 ≤ w1.heap.size)
    (hs : SetIn w1 (Iv s0 w1.heap.size) b n (M k)) (hW : Fx No w1 W) (hfx : Fx (fun g => vs.ownBlock = some g) W w2) (ho : w2.ownsRow (cb + 1) 83 1 v' (k + 1) (bptr B k ++ [.pointer (some ⟨b, 0, none⟩)]))
    (hb2 : ∀ g, v'.ownBlock = some g → vs.ownBlock = some g ∨ W.heap.size ≤ g) :
    CopyS w (w2.setCell ⟨cb, 0, none⟩ v') n (k + 1) cb qb v' M (fun j => if j = k then b else B j) (fun j => if j = k then s0 else lo j) (fun j => if j = k then w1.heap.size else hi j) := by
  obtain ⟨l1, l2, l3⟩ := h.lows
  have hf2 : Fx (fun j => j = cb) w2 (w2.setCell ⟨cb, 0, none⟩ v') := Fx.put _ _ _ _
  have hvs : ∀ g, vs.ownBlock = some g → cb + 1 ≤ g ∧ g < ws.heap.size := fun g e => World.ownsRow.lt h.own g e
  have hv' : ∀ g, v'.ownBlock = some g → cb + 1 ≤ g ∧ g < w2.heap.size := fun g e => World.ownsRow.lt ho g e
  have hz1 := hf1.size
  have hzW := hW.size
  have hz2 := hfx.size
  have hfa : Fx (fun g => vs.ownBlock = some g) ws w2 := (hf1.trans hW).no.trans hfx
  have hbp : bptr (fun j => if j = k then b else B j) (k + 1) = bptr B k ++ [.pointer (some ⟨b, 0, none⟩)] := by
    rw [bptr_succ]
    simp only [if_true]
    rw [bptr_congr (C := B) fun i hi => by simp [show i ≠ k by omega]]
  refine ⟨?_, ?_, ?_, ?_, fun j hj => ?_, fun j hj => ?_, fun j hj g hg => ?_, l1, l2, by simp [World.setCell]; omega⟩
  · exact (h.fx.trans' hfa fun g e hl => by have := hvs g e; omega).setCell (.inl (by show w.heap.size ≤ cb; omega)) _
  · rw [hbp]
    exact ownsRow_fx ho hf2 fun g e e2 => by have := hv' g e; omega
  · have c1 := hfa.cellF h.cc.1 h.cc.2 (fun e => by have := (hvs cb e).1; omega)
    exact ⟨World.cell?_setCell_same _ _ _ c1.1, by simpa using c1.2⟩
  · obtain ⟨u, g1, g2⟩ := h.qc
    obtain ⟨g3, g4⟩ := hfa.cellF g1 g2 (fun e => by have := (hvs qb e).1; omega)
    exact ⟨u, hf2.cellF g3 g4 (fun e => by have e : qb = cb := e; omega)⟩
  · by_cases e : j = k
    · subst e
      simp only [if_true]
      exact (((hs.no hW).keep hfx (by rintro x ⟨hx, _⟩ e; have := hvs x e; omega))).keep hf2 (by rintro x ⟨hx, _⟩ e; omega)
    · simp only [if_neg e]
      have o := h.ord j (by omega)
      exact ((h.set j (by omega)).keep hfa (fun x hx e => h.sep j (by omega) x e hx)).keep hf2 (by rintro x ⟨hx, _⟩ e; omega)
  · have hsz : (w2.setCell ⟨cb, 0, none⟩ v').heap.size = w2.heap.size := by simp [World.setCell]
    rw [hsz]
    by_cases e : j = k
    · subst e
      simp only [if_true]
      refine ⟨by omega, h1, by omega, fun i hi => ?_⟩
      have := h.ord i hi
      rw [if_neg (by omega)]
      omega
    · have o := h.ord j (by omega)
      simp only [if_neg e]
      refine ⟨o.1, o.2.1, by omega, fun i hi => ?_⟩
      rw [if_neg (by omega)]
      exact o.2.2.2 i hi
  · have hg2 := hb2 g hg
    by_cases e : j = k
    · subst e
      simp only [if_true]
      rintro ⟨a1, a2⟩
      rcases hg2 with hg2 | hg2
      · have := hvs g hg2; omega
      · omega
    · simp only [if_neg e]
      have o := h.ord j (by omega)
      rcases hg2 with hg2 | hg2
      · exact h.sep j (by omega) g hg2
      · rintro ⟨a1, a2⟩; omega
theorem CopyS.put {w ws : World} {n k cb qb : Nat} {vs : Value} {M B lo hi : Nat → Nat} (h : CopyS w ws n k cb qb vs M B lo hi) (v : Value) : CopyS w (ws.setCell ⟨qb, 0, none⟩ v) n k cb qb vs M B lo hi := by
  obtain ⟨l1, l2, l3⟩ := h.lows
  have hf2 : Fx (fun j => j = qb) ws (ws.setCell ⟨qb, 0, none⟩ v) := Fx.put _ _ _ _
  have hvs : ∀ g, vs.ownBlock = some g → cb + 1 ≤ g ∧ g < ws.heap.size := fun g e => World.ownsRow.lt h.own g e
  have hsz : (ws.setCell ⟨qb, 0, none⟩ v).heap.size = ws.heap.size := by simp [World.setCell]
  obtain ⟨u, g1, g2⟩ := h.qc
  refine ⟨h.fx.setCell (.inl l1) _, ownsRow_fx h.own hf2 fun g e e2 => by have := hvs g e; omega, hf2.cellF h.cc.1 h.cc.2 (fun e => by have e : cb = qb := e; omega), ⟨v, World.cell?_setCell_same _ _ _ g1, by simpa using g2⟩,
    fun j hj => (h.set j hj).keep hf2 (by rintro x ⟨hx, _⟩ e; have := h.ord j hj; omega), by rw [hsz]; exact h.ord, h.sep, l1, l2, by rw [hsz]; exact l3⟩
theorem CopyS.fam {w ws : World} {n cb qb : Nat} {vs : Value} {M B lo hi : Nat → Nat} (h : CopyS w ws n n cb qb vs M B lo hi) :
    Fam ws (Iv w.heap.size ws.heap.size) n M ⟨vs, B, fun k => vs.ownBlock = some k, fun i k => i < n ∧ Iv (lo i) (hi i) k⟩ := by
  obtain ⟨l1, l2, l3⟩ := h.lows
  have hvs : ∀ g, vs.ownBlock = some g → cb + 1 ≤ g ∧ g < ws.heap.size := fun g e => World.ownsRow.lt h.own g e
  refine ⟨?_, fun i hi => (h.set i hi).mono fun k hk => ⟨hi, hk⟩, ?_, ?_, ?_, ?_⟩
  · exact SlV.own h.own
  · rintro i j k ⟨hi, h1, h2⟩ ⟨hj, h3, h4⟩
    apply Classical.byContradiction
    intro hne
    rcases Nat.lt_or_gt_of_ne hne with hlt | hlt
    · have := (h.ord j hj).2.2.2 i hlt; omega
    · have := (h.ord i hi).2.2.2 j hlt; omega
  · rintro i k ⟨hi, h1⟩ e
    exact h.sep i hi k e h1
  · intro k e
    have := hvs k e
    exact ⟨by omega, this.2⟩
  · rintro i k ⟨hi, h1, h2⟩
    have := h.ord i hi
    exact ⟨by omega, by omega⟩
theorem ownsQ_nil (w : World) (base : Nat) (B : Nat → Nat) : w.ownsRow base 83 1 (.slice none 0 0) 0 (bptr B 0) := World.ownsRow_nil _ _ _ _
theorem copyS_start (w : World) (n : Nat) (M : Nat → Nat) (t1 t2 : TypeId) (x : Value) :
    CopyS w (((w.alloc (.cells #[x] t1)).alloc (.cells #[.slice none 0 0] t2)).alloc (.cells #[.slice none 0 0] t2)) n 0 (w.heap.size + 1 + 1) (w.heap.size + 1) (.slice none 0 0) M (fun _ => 0) (fun _ => 0) (fun _ => 0) := by
  have h1 := heap_alloc_new (w.alloc (.cells #[x] t1)) (.cells #[.slice none 0 0] t2)
  have h2 := ((Fx.refl No ((w.alloc (.cells #[x] t1)).alloc (.cells #[.slice none 0 0] t2))).alloc (.cells #[.slice none 0 0] t2)).at_ h1 (fun h => h)
  rw [World.size_alloc] at h2
  have h3 := heap_alloc_new ((w.alloc (.cells #[x] t1)).alloc (.cells #[.slice none 0 0] t2)) (.cells #[.slice none 0 0] t2)
  rw [World.size_alloc, World.size_alloc] at h3
  refine ⟨((Fx.refl No w).alloc _).alloc _ |>.alloc _, ownsQ_nil _ _ _, ⟨by rw [cell_of_row _ _ _ _ _ _ h3]; rfl, frozen_of_row _ _ _ _ _ h3⟩, ⟨.slice none 0 0, by rw [cell_of_row _ _ _ _ _ _ h2]; rfl, frozen_of_row _ _ _ _ _ h2⟩, fun j hj => by omega, fun j hj => by omega, fun j hj => by omega, by omega, by omega, by simp⟩
set_option maxRecDepth 100000 in
set_option maxHeartbeats 2000000 in
theorem copied_any {w : World} {D : Nat → Prop} {n : Nat} {M : Nat → Nat} {c : FC} (h : Fam w D n M c) (hn : n ≤ 1024) :
    Calls Tryz.prog 37 #[.agg #[c.v]] w fun e w' => ∃ c' : FC, e = .returned (.agg #[c'.v]) ∧ Fx No w w' ∧ Fam w' (Iv w.heap.size w'.heap.size) n M c' := by
  obtain ⟨ii, hi, hz, hs, hb⟩ := info_parts info_setp
  obtain ⟨ao, cap, hv, hcv⟩ := h.facts
  have H := Lib.hid h
  have HCV := Lib.hid hcv
  rw [hv]
  clear h hv hcv
  go_enter Tryz.func37, Tryz.ntmps37
  go_wp2
  refine wp_hold (fun W => CopyS w W n 0 (w.heap.size + 1 + 1) (w.heap.size + 1) (.slice none 0 0) M (fun _ => 0) (fun _ => 0) (fun _ => 0)) (copyS_start w n M _ _ _) ?_
  rintro W0 hR
  have HR := Lib.hid hR
  clear hR
  obtain ⟨qb, hqb⟩ : ∃ sb, sb = w.heap.size + 1 := ⟨_, rfl⟩
  rw [← hqb] at HR ⊢
  obtain ⟨cb, hcb⟩ : ∃ sb, sb = qb + 1 := ⟨_, rfl⟩
  rw [← hcb] at HR ⊢
  clear hqb hcb
  go_loopw [5, 9] (fun _ i ws => ∃ (k : Nat) (vs : Value) (B lo hi : Nat → Nat), i = .int .i64 k ∧ k ≤ n ∧ CopyS w ws n k cb qb vs M B lo hi) (fun _ i _ => n - (intOf i).toNat)
  case atStart => exact ⟨0, _, _, _, _, rfl, Nat.zero_le _, HR.out⟩
  case round =>
    obtain ⟨k, vs, B, lo, hi', rfl, hk, hC⟩ := hrel
    have HC := Lib.hid hC
    obtain ⟨so, sc, rfl, _⟩ := SlV.ofOwns hC.own
    obtain ⟨c1, c2⟩ := hC.cc
    clear hC
    by_cases hlt : k < n
    · have hkn : (k : Int) < (n : Int) := by omega
      obtain ⟨b, o, rfl, _, hcell⟩ := HCV.out k hlt
      have hcell' := HC.out.fx.cell' hcell (fun h => h)
      have HSet := Lib.hid ((H.out.set k hlt).no HC.out.fx)
      clear hcell
      have hzk := HC.out.fx.size
      have HOw : Hid (∀ W, Fx No wr W → W.ownsRow (cb + 1) 83 1 (.slice so k sc) k (bptr B k)) := Lib.hid fun W hf => ownsRow_fx HC.out.own hf fun _ _ h => h
      go_wp2_with fail
      obtain ⟨l1, l2, l3⟩ := HC.out.lows
      have hvs : ∀ g, (Value.slice so k sc).ownBlock = some g → cb + 1 ≤ g := fun g e => (World.ownsRow.lt HC.out.own g e).1
      have HVs := Lib.hid hvs
      have s0 : Fx (fun g => (Value.slice so k sc).ownBlock = some g ∨ g = cb) wr wr := Fx.refl _ _
      clear hvs
      refine wp_region_G 7 (fun b W => Fx (fun g => (Value.slice so k sc).ownBlock = some g ∨ g = cb) wr W ∧ (b = false → W.cell? ⟨cb, 0, none⟩ = some (.slice so k sc) ∧ W.frozen? ⟨cb, 0, none⟩ = false)) (by kernel_rfl) ⟨s0.drew, fun _ => ⟨c1, c2⟩⟩ ?_
      intro hS hC
      refine wpG_take (i := 0) (v := ?_) rfl (by kernel_rfl) (by kernel_rfl) (by kernel_rfl) (by kernel_rfl) (fun _ _ _ h => h) (by decide) (Or.inl ⟨by rfl, ?_⟩) hC hS ?_
      rotate_left
      · (intro W ⟨hf, hc⟩; have hc := hc rfl; go_simp; first | done | with_reducible rfl)
      clear hS hC
      intro hS hC
      try simp only [Act.put, List.setIfInBounds_toArray, List.set_cons_zero, List.set_cons_succ]
      refine wpG_take (i := 1) (v := ?_) rfl (by kernel_rfl) (by kernel_rfl) (by kernel_rfl) (by kernel_rfl) (fun _ _ _ h => h) (by decide) (Or.inl ⟨by rfl, ?_⟩) hC hS ?_
      rotate_left
      · (intro W ⟨hf, hc⟩; have hc := hc rfl; go_simp; first | done | with_reducible rfl)
      clear hS hC
      intro hS hC
      try simp only [Act.put, List.setIfInBounds_toArray, List.set_cons_zero, List.set_cons_succ]
      refine wpG_take (i := 2) (v := ?_) rfl (by kernel_rfl) (by kernel_rfl) (by kernel_rfl) (by kernel_rfl) (fun _ _ _ h => h) (by decide) (Or.inl ⟨by rfl, ?_⟩) hC hS ?_
      rotate_left
      · (intro W ⟨hf, hc⟩; have hc := hc rfl; go_simp; first | done | with_reducible rfl)
      clear hS hC
      intro hS hC
      try simp only [Act.put, List.setIfInBounds_toArray, List.set_cons_zero, List.set_cons_succ]
      refine wpG_one (i := 3) (by kernel_rfl) rfl hC (fun K hK => ?_)
      go_simp
      refine (copy_any (HSet.out.keep (S := No) ((Fx.refl No _).drew) No.disj)).mono ?_
      rintro e w1 ⟨b', rfl, hf1, hs1⟩
      obtain ⟨c1', c2'⟩ := hf1.cellF (hS.2 rfl).1 (hS.2 rfl).2 (fun h => h)
      refine hK.out _ _ ⟨s0.drew.transNo hf1, fun _ => ⟨c1', c2'⟩⟩ (fun hS' hC' => ?_)
      have HF1 := Lib.hid hf1
      have HS1 := Lib.hid hs1
      clear hf1 hs1
      clear hK K hS hC
      have hS := hS'
      have hC := hC'
      clear hS' hC'
      try simp only [Act.put, List.setIfInBounds_toArray, List.set_cons_zero, List.set_cons_succ]
      refine wpG_one (i := 4) (by kernel_rfl) rfl hC (fun K hK => ?_)
      go_simp
      refine hK.out _ _ ⟨(s0.drew.transNo HF1.out).alloc _, fun _ => ((Fx.refl No w1).alloc _).cellF c1' c2' (fun h => h)⟩ (fun hS' hC' => ?_)
      clear hK K hS hC
      have hS := hS'
      have hC := hC'
      clear hS' hC'
      try simp only [Act.put, List.setIfInBounds_toArray, List.set_cons_zero, List.set_cons_succ]
      refine wpG_one (i := 5) (by kernel_rfl) rfl hC (fun K hK => ?_)
      refine step_append_kept rfl (.tmp 14) (.tmp 17) 70 rfl (cb + 1) 83 Tryz.underlying70 hi hz hs hb rfl (by decide) (.slice so k sc) k (bptr B k) (by simp [Act.eval]) (HOw.out _ ((((Fx.refl No wr).drew).trans HF1.out).alloc _)) (fun _ => True) (.slice (some ⟨w1.heap.size, 0, none⟩) 1 1) 1 [.pointer (some ⟨b', 0, none⟩)] (by simp [Act.eval]) (SlV.lit w1 83 #[.pointer (some ⟨b', 0, none⟩)] 1 1 rfl (by unfold maxLen; omega)) (fun u hu => by rw [List.mem_singleton] at hu; subst hu; rfl) (by omega) (by unfold maxLen; omega) (by omega) (by have := HF1.out.size; simp at this; simp; omega) ?_
      intro v' w2 ho hfx hk3 hb2
      obtain ⟨g, gcap, rfl, hg1, hg2⟩ := ownsRow_pos ho (by omega)
      have hcb : ¬ (Value.slice so k sc).ownBlock = some cb := fun e => by have := HVs.out cb e; omega
      obtain ⟨t3, t4⟩ := hfx.cellF (((Fx.refl No w1).alloc (.cells #[.pointer (some ⟨b', 0, none⟩)] 83)).cell' c1' (fun h => h)) (((Fx.refl No w1).alloc (.cells #[.pointer (some ⟨b', 0, none⟩)] 83)).cellF c1' c2' (fun h => h)).2 hcb
      have hS2 : Fx (fun b => (Value.slice so k sc).ownBlock = some b ∨ b = cb) wr w2 := ((s0.drew.transNo HF1.out).alloc _).trans (hfx.mono fun _ _ e => .inl e)
      have HC5 := Lib.hid (HC.out.step ((Fx.refl No wr).drew.trans HF1.out) (Nat.le_refl _) (by have := HF1.out.size; simpa using this) (by simpa using HS1.out) ((Fx.refl No w1).alloc _) hfx ho hb2)
      refine hK.out _ _ ⟨hS2, fun _ => ⟨t3, t4⟩⟩ (fun hS' hC' => ?_)
      clear ho hfx hk3 hb2
      clear hK K hS hC
      have hS := hS'
      have hC := hC'
      clear hS' hC'
      try simp only [Act.put, List.setIfInBounds_toArray, List.set_cons_zero, List.set_cons_succ]
      refine wpG_take (i := 6) (v := ?_) rfl (by kernel_rfl) (by kernel_rfl) (by kernel_rfl) (by kernel_rfl) (fun _ _ _ h => h) (by decide) (Or.inl ⟨by rfl, ?_⟩) hC hS ?_
      rotate_left
      · (intro W ⟨hf, hc⟩; have hc := hc rfl; go_simp; first | done | with_reducible rfl)
      clear hS hC
      intro hS hC
      try simp only [Act.put, List.setIfInBounds_toArray, List.set_cons_zero, List.set_cons_succ]
      refine wpG_one (i := 7) (by kernel_rfl) rfl hC (fun K hK => ?_)
      go_simp
      refine hK.out _ _ ⟨Fx.setCell hS2 (a := ⟨cb, 0, none⟩) (.inr (.inr rfl)) _, fun h => absurd h (by decide +kernel)⟩ (fun _ _ => ?_)
      clear hK K hS hC
      refine wpG_done (by kernel_rfl) ?_ _
      clear c1 c2 c1' c2' t3 t4 s0 hS2
      go_wp2
      go_roundw
      case rel => exact ⟨k + 1, _, _, _, _, by go_num, by omega, HC5.out⟩
      case measure => simp [intOf]; omega
    · obtain rfl : k = n := by omega
      obtain ⟨u, g1, g2⟩ := HC.out.qc
      have HM2 := Lib.hid (HC.out.put (.slice so k sc))
      have hcq : ¬ cb = qb := fun e => by have := HC.out.lows; omega
      go_wp2
      exact bodyPost_ret (v := .agg #[.slice so k sc]) (by simp [results, Tryz.results37, go_sem, g1]) rfl ⟨_, rfl, HM2.out.fx, HM2.out.fam⟩
#print axioms copied_any
end Go.Proofs.YtfpggeiphbekoaaGreatDoor
