/- What a call may have done to memory (Fx), slices that read as a list (Sl): plain lemmas over any world, no program in sight. | append to a row of the call's own: the row's own cells stay where they are; the other blocks too. For every seat. | Rows of structs of ints behind a slice: for every seat. | append to an owned row as one step of a region that draws: for every seat. | A region that draws its order and ends with a store into a cell that it has loaded: a condition on the world that holds till that store. For every seat. No program in sight. | A region that draws its order: what may come up alone, step by step. For every seat. No program in sight. | Equality of two structs of ints: what '==' tells. For every seat. | Sorted rows of edges: plain. -/
import Derived.WalkKit
import Derived.Lib.Hide
import Derived.BigQuiet
import Derived.Deep.QuietTactic
import Derived.Deep.RegionHeld3
import Derived.Deep.RegionWith
import Derived.WalkSpells
import Derived.Deep.RegionLaw
import Derived.StillTail
import Derived.OrdersHeld
import Derived.ChangeKeysEq
import Derived.Laws.StructEq

namespace Go.Proofs.Yteafkafkbipcmaa
open Go.RowKit

/-- Only blocks in S (and new ones) may have turned. -/
structure Fx (S : Nat → Prop) (w w' : World) : Prop where
  os : w'.os = w.os
  tape : w'.tape = w.tape
  output : w'.output = w.output
  size : w.heap.size ≤ w'.heap.size
  block : ∀ k, k < w.heap.size → ¬ S k → w'.heap[k]? = w.heap[k]?

/-- no block -/
def No : Nat → Prop := fun _ => False
/-- the blocks from lo up to hi, hi left out -/
def Iv (lo hi : Nat) : Nat → Prop := fun k => lo ≤ k ∧ k < hi

theorem Iv.disj {lo hi lo' hi' : Nat} (h : hi ≤ lo' ∨ hi' ≤ lo) : ∀ k, Iv lo hi k → ¬ Iv lo' hi' k := by
  intro k ⟨h1, h2⟩ ⟨h3, h4⟩; omega
theorem No.disj {D : Nat → Prop} : ∀ k, D k → ¬ No k := fun _ _ h => h

namespace Fx
variable {S T : Nat → Prop} {w w1 w2 : World}
theorem refl (S : Nat → Prop) (w : World) : Fx S w w := ⟨rfl, rfl, rfl, Nat.le_refl _, fun _ _ _ => rfl⟩
theorem trans (h : Fx S w w1) (k : Fx S w1 w2) : Fx S w w2 :=
  ⟨k.os.trans h.os, k.tape.trans h.tape, k.output.trans h.output, Nat.le_trans h.size k.size,
    fun i hi hn => (k.block i (Nat.lt_of_lt_of_le hi h.size) hn).trans (h.block i hi hn)⟩
theorem mono (h : Fx S w w1) (hs : ∀ k, k < w.heap.size → S k → T k) : Fx T w w1 :=
  ⟨h.os, h.tape, h.output, h.size, fun i hi hn => h.block i hi fun hS => hn (hs i hi hS)⟩
/-- behind an effect on what is new since w -/
theorem trans' (h : Fx S w w1) (k : Fx T w1 w2) (hT : ∀ j, T j → j < w.heap.size → S j) : Fx S w w2 :=
  ⟨k.os.trans h.os, k.tape.trans h.tape, k.output.trans h.output, Nat.le_trans h.size k.size,
    fun i hi hn => (k.block i (Nat.lt_of_lt_of_le hi h.size) fun ht => hn (hT i ht hi)).trans (h.block i hi hn)⟩
theorem no (h : Fx No w w1) : Fx S w w1 := h.mono fun _ _ hf => hf.elim
theorem transNo (h : Fx S w w1) (k : Fx No w1 w2) : Fx S w w2 := h.trans k.no
theorem alloc (h : Fx S w w1) (o : Obj) : Fx S w (w1.alloc o) :=
  h.trans ⟨rfl, rfl, rfl, by simp, fun k hk _ => Below.heap_alloc _ _ _ hk⟩
theorem drew (h : Fx S w w1) : Fx S w w1.drew := ⟨h.os, h.tape, h.output, h.size, h.block⟩
theorem drewN (h : Fx S w w1) (n : Nat) : Fx S w (w1.drewN n) := ⟨h.os, h.tape, h.output, h.size, h.block⟩
theorem setCell (h : Fx S w w1) {a : Addr} (ha : w.heap.size ≤ a.block ∨ S a.block) (v : Value) : Fx S w (w1.setCell a v) :=
  h.trans' (T := fun k => k = a.block) ⟨rfl, rfl, rfl, by simp [World.setCell], fun k _ hn => Below.heap_setCell _ _ _ _ hn⟩
    (by rintro j rfl hj; rcases ha with ha | ha; omega; exact ha)
theorem put (w : World) (b o : Nat) (v : Value) : Fx (fun j => j = b) w (w.setCell ⟨b, o, none⟩ v) :=
  ⟨rfl, rfl, rfl, by simp [World.setCell], fun k _ hn => Below.heap_setCell _ _ _ _ hn⟩
theorem ofGrown {row : Option Nat} (h : w.grownBy w1 row) (hr : ∀ k, row = some k → k < w.heap.size → S k) : Fx S w w1 :=
  ⟨h.os, h.tape, h.output, h.size, fun k hk hn => h.block k hk fun e => hn (hr k e.symm hk)⟩
theorem grown {row : Option Nat} (h : Fx S w w1) (hg : w1.grownBy w2 row) (hr : ∀ k, row = some k → k < w.heap.size → S k) : Fx S w w2 :=
  h.trans' (ofGrown (S := fun k => row = some k) hg fun _ e _ => e) hr
theorem ofBelow (h : Below w.heap.size w w1) : Fx No w w1 := ⟨h.os, h.tape, h.output, h.size, fun k hk _ => h.block k hk⟩
theorem below (h : Fx No w w1) : Below w.heap.size w w1 := ⟨h.os, h.tape, h.output, h.size, fun k hk => h.block k hk fun h => h⟩
theorem belowB (h : Fx S w w1) {B : Nat} (hB : ∀ k, S k → B ≤ k) (hw : B ≤ w.heap.size) : Below B w w1 :=
  ⟨h.os, h.tape, h.output, h.size, fun k hk => h.block k (by omega) fun hs => by have := hB k hs; omega⟩
theorem cell (h : Fx S w w1) {a : Addr} (hk : a.block < w.heap.size) (hn : ¬ S a.block) : w1.cell? a = w.cell? a := World.cell?_of_block (h.block a.block hk hn)
theorem cell' (h : Fx S w w1) {a : Addr} {v : Value} (hv : w.cell? a = some v) (hn : ¬ S a.block) : w1.cell? a = some v :=
  (h.cell (World.block_lt_of_cell? w a hv) hn).trans hv
theorem frozen (h : Fx S w w1) {a : Addr} (hk : a.block < w.heap.size) (hn : ¬ S a.block) : w1.frozen? a = w.frozen? a := World.frozen?_of_block (h.block a.block hk hn)
theorem cellF (h : Fx S w w1) {a : Addr} {v : Value} (hv : w.cell? a = some v) (hz : w.frozen? a = false) (hn : ¬ S a.block) : w1.cell? a = some v ∧ w1.frozen? a = false :=
  ⟨h.cell' hv hn, (h.frozen (World.block_lt_of_cell? w a hv) hn).trans hz⟩
theorem at_ (h : Fx S w w1) {b : Nat} {o : Obj} (hb : w.heap[b]? = some o) (hn : ¬ S b) : w1.heap[b]? = some o :=
  (h.block b (Array.getElem?_eq_some_iff.1 hb).1 hn).trans hb
end Fx

theorem addr_ne {a b : Addr} (h : a.block ≠ b.block) : a ≠ b := fun e => h (congrArg Addr.block e)
/-- D, and what is new since w -/
def DU (D : Nat → Prop) (w w' : World) : Nat → Prop := fun k => D k ∨ Iv w.heap.size w'.heap.size k

theorem ownsRow_fx {S : Nat → Prop} {w w1 : World} {base : Nat} {e : TypeId} {size : Nat} {v : Value} {n : Nat} {xs : List Value} (h : w.ownsRow base e size v n xs) (hf : Fx S w w1)
    (hn : ∀ k, v.ownBlock = some k → ¬ S k) : w1.ownsRow base e size v n xs := by
  refine ⟨h.1, ?_⟩
  rcases h.2 with h2 | ⟨g, cap, cur, rfl, hb, hg, rest⟩
  · exact .inl h2
  · exact .inr ⟨g, cap, cur, rfl, hb, hf.at_ hg (hn g rfl), rest⟩
theorem ownsRow_base {w : World} {base base' : Nat} {e : TypeId} {size : Nat} {v : Value} {n : Nat} {xs : List Value} (h : w.ownsRow base e size v n xs) (hb : base' ≤ base) : w.ownsRow base' e size v n xs := by
  refine ⟨h.1, ?_⟩
  rcases h.2 with h2 | ⟨g, cap, cur, rfl, hb', rest⟩
  · exact .inl h2
  · exact .inr ⟨g, cap, cur, rfl, by omega, rest⟩

/-- A slice's cells, from its address on, read as cs; they lie in a block of D. -/
def Sl (w : World) (D : Nat → Prop) (ao : Option Addr) (cs : List Value) : Prop :=
  cs = [] ∨ ∃ b o, ao = some ⟨b, o, none⟩ ∧ D b ∧ ∀ i, i < cs.length → w.cell? ⟨b, o + i, none⟩ = some (cs.getD i undef)

theorem Sl.nil (w : World) (D : Nat → Prop) (ao : Option Addr) : Sl w D ao [] := .inl rfl
theorem Sl.keep {w w1 : World} {D S : Nat → Prop} {ao : Option Addr} {cs : List Value} (h : Sl w D ao cs) (hf : Fx S w w1) (hd : ∀ k, D k → ¬ S k) : Sl w1 D ao cs := by
  rcases h with h | ⟨b, o, h1, h2, h3⟩
  · exact .inl h
  · exact .inr ⟨b, o, h1, h2, fun i hi => hf.cell' (h3 i hi) (hd b h2)⟩
theorem Sl.mono {w : World} {D T : Nat → Prop} {ao : Option Addr} {cs : List Value} (h : Sl w D ao cs) (hd : ∀ k, D k → T k) : Sl w T ao cs := by
  rcases h with h | ⟨b, o, h1, h2, h3⟩
  · exact .inl h
  · exact .inr ⟨b, o, h1, hd b h2, h3⟩
theorem Sl.addr {w : World} {D : Nat → Prop} {ao : Option Addr} {cs : List Value} (h : Sl w D ao cs) (hc : 0 < cs.length) :
    ∃ b o, ao = some ⟨b, o, none⟩ ∧ D b ∧ ∀ i, i < cs.length → w.cell? ⟨b, o + i, none⟩ = some (cs.getD i undef) := by
  rcases h with rfl | h
  · simp at hc
  · exact h
/-- what is owned reads so -/
theorem Sl.ofOwns {w : World} {base : Nat} {e : TypeId} {size : Nat} {ao : Option Addr} {k cap n : Nat} {xs : List Value} (h : w.ownsRow base e size (.slice ao k cap) n xs) :
    Sl w (Iv base w.heap.size) ao xs := by
  have h' := h
  obtain ⟨h1, h2⟩ := h
  rcases h2 with ⟨h2, rfl⟩ | ⟨g, c, cur, hv, hb, hh, h3, h4, h5, h6⟩
  · exact .inl (List.eq_nil_of_length_eq_zero (by simpa using h1))
  · simp only [Value.slice.injEq] at hv
    obtain ⟨rfl, rfl, rfl⟩ := hv
    refine .inr ⟨g, 0, rfl, ⟨hb, (Array.getElem?_eq_some_iff.1 hh).1⟩, fun i hi => ?_⟩
    have := h'.cells (g := g) rfl i (xs[i]) (by simp [hi])
    rw [Addr.add_lit, Nat.zero_add] at this
    simpa [List.getD, hi] using this


/-- A slice value of n elements of so many cells each, that reads as cs. -/
def SlV (w : World) (D : Nat → Prop) (v : Value) (size n : Nat) (cs : List Value) : Prop :=
  ∃ ao cap, v = .slice ao n cap ∧ n ≤ cap ∧ cap ≤ maxLen ∧ cs.length = n * size ∧ (ao = none → cap = 0) ∧ Sl w D ao cs

theorem SlV.keep {w w1 : World} {D S : Nat → Prop} {v : Value} {size n : Nat} {cs : List Value} (h : SlV w D v size n cs) (hf : Fx S w w1) (hd : ∀ k, D k → ¬ S k) : SlV w1 D v size n cs := by
  obtain ⟨ao, cap, h1, h2, h3, h4, h5, h6⟩ := h
  exact ⟨ao, cap, h1, h2, h3, h4, h5, h6.keep hf hd⟩
theorem SlV.mono {w : World} {D T : Nat → Prop} {v : Value} {size n : Nat} {cs : List Value} (h : SlV w D v size n cs) (hd : ∀ k, D k → T k) : SlV w T v size n cs := by
  obtain ⟨ao, cap, h1, h2, h3, h4, h5, h6⟩ := h
  exact ⟨ao, cap, h1, h2, h3, h4, h5, h6.mono hd⟩
theorem SlV.bound {w : World} {D : Nat → Prop} {v : Value} {size n : Nat} {cs : List Value} (h : SlV w D v size n cs) : SlV w (fun k => D k ∧ k < w.heap.size) v size n cs := by
  obtain ⟨ao, cap, h1, h2, h3, h4, h5, h6⟩ := h
  refine ⟨ao, cap, h1, h2, h3, h4, h5, ?_⟩
  rcases h6 with h6 | ⟨b, o, h6, h7, h8⟩
  · exact .inl h6
  · cases cs with
    | nil => exact .inl rfl
    | cons c cs => exact .inr ⟨b, o, h6, ⟨h7, World.block_lt_of_cell? w _ (h8 0 (by simp))⟩, h8⟩
theorem SlV.nil (w : World) (D : Nat → Prop) (size : Nat) : SlV w D (.slice none 0 0) size 0 [] := ⟨none, 0, rfl, Nat.le_refl _, Nat.zero_le _, by simp, fun _ => rfl, .inl rfl⟩
theorem SlV.ofOwns {w : World} {base : Nat} {e : TypeId} {size : Nat} {v : Value} {n : Nat} {xs : List Value} (h : w.ownsRow base e size v n xs) : SlV w (Iv base w.heap.size) v size n xs := by
  have h' := h
  obtain ⟨h1, h2⟩ := h
  rcases h2 with ⟨rfl, rfl⟩ | ⟨g, c, cur, rfl, hb, hh, h3, h4, h5, h6⟩
  · obtain rfl := List.eq_nil_of_length_eq_zero (by simpa using h1 : xs.length = 0)
    exact SlV.nil _ _ _
  · exact ⟨_, c, rfl, h3, h4, h1, by simp, Sl.ofOwns h'⟩
theorem Sl.cells {w : World} {D : Nat → Prop} {a : Addr} {cs : List Value} (h : Sl w D (some a) cs) : ∀ j u, cs[j]? = some u → w.cell? (a.add j) = some u := by
  intro j u hu
  rcases h with rfl | ⟨b, o, h1, _, h3⟩
  · simp at hu
  · obtain rfl := Option.some.inj h1
    have hj := (List.getElem?_eq_some_iff.1 hu).1
    rw [Addr.add_lit, h3 j hj]
    simp [List.getD, hu]

/-- What the cells of a row hold, each of them one value. -/
def One (cs : List Value) : Prop := ∀ u ∈ cs, u.oneCell' = true

/-- append to a row of the call's own, from whatever slice -/
theorem wpList_append_sl {P : Program} {w : World} {ops : Array Oper} {rest : List Oper} {o : Oper} {a : Act} {Q : Exit → Act → World → Prop} (hgd : o.guard = none) (s x : Operand) (t : TypeId)
    (ho : o.op = .call { callee := .builtin .append, args := #[s, x], argTypes := #[t, t] })
    (base : Nat) (e : TypeId) {i : TypeInfo} {z : Value} {size bytes : Nat} (ht : P.underlying t = some (.slice e)) (hi : P.info? e = some i) (hz : i.zero = some z)
    (hsize : i.size = size) (hby : i.bytes = bytes) (hzs : z.cells.size = size) (hsz : 0 < size)
    {v : Value} {n : Nat} {xs : List Value} (hs : a.eval s = v) (hown : w.ownsRow base e size v n xs)
    {D : Nat → Prop} {u : Value} {m : Nat} {news : List Value} (hx : a.eval x = u) (hsl : SlV w D u size m news) (h1 : One news)
    (h63 : n + m ≤ maxLen) (hbytes : (n + m) * bytes ≤ 140737488355328) (hbase : base ≤ w.heap.size)
    (h : ∀ v' w', w'.ownsRow base e size v' (n + m) (xs ++ news) → Fx (fun k => v.ownBlock = some k) w w' → (v' = .slice none 0 0 ↔ v = .slice none 0 0 ∧ m = 0) → wpList P ops Q rest (a.put o.dst v') w') : wpList P ops Q (o :: rest) a w := by
  obtain ⟨ao, cap, rfl, h2, h3, h4, h5, h6⟩ := hsl
  cases ao with
  | some ad => exact wpList_append_own w hgd s x t ho base e i z size bytes ht hi hz hsize hby hzs hsz v n xs hs hown ad m cap news hx h4 h6.cells h1 h63 hbytes hbase fun v' w' h7 h8 h9 => h v' w' h7 (Fx.ofGrown h8 fun k hk _ => hk) h9
  | none =>
    obtain rfl := h5 rfl
    obtain rfl : m = 0 := by omega
    obtain rfl := List.eq_nil_of_length_eq_zero (by simpa using h4 : news.length = 0)
    refine wpList_plain hgd fun K hK => ?_
    have hrun := run_append_owned_none (P := P) w base t o.type e i size ht hi v n xs hown
    unfold Oper.wp
    simp [execOp, ho, resolve, invoke, builtin, hs, hx, hrun, Result.andThen]
    exact hK _ _ (h v w (by simpa using hown) (Fx.refl _ _) (by simp))

/-! Slices of ints -/
def gi (l : List Int) (k : Nat) : Int := l.getD k 0
def ints (l : List Int) : List Value := l.map (.int .i64)
theorem take_gi {l : List Int} {k : Nat} (h : k < l.length) : l.take (k + 1) = l.take k ++ [gi l k] := by
  rw [List.take_succ_eq_append_getElem h]; simp [gi, h]
theorem gi_mem {l : List Int} {k : Nat} (h : k < l.length) : gi l k ∈ l := by simp [gi, h]
theorem ints_one (l : List Int) : One (ints l) := by
  intro u hu
  obtain ⟨_, _, rfl⟩ := List.mem_map.1 hu
  rfl
def IntsV (w : World) (D : Nat → Prop) (v : Value) (l : List Int) : Prop := SlV w D v 1 l.length (ints l)
theorem IntsV.facts {w : World} {D : Nat → Prop} {v : Value} {l : List Int} (h : IntsV w D v l) : ∃ ao cap, v = .slice ao l.length cap ∧ l.length ≤ 9223372036854775807 ∧
    ∀ k, k < l.length → ∃ b o, ao = some ⟨b, o, none⟩ ∧ D b ∧ w.cell? ⟨b, o + k, none⟩ = some (.int .i64 (gi l k)) := by
  obtain ⟨ao, cap, h1, h2, h3, h4, h5, h6⟩ := h
  unfold maxLen at h3
  refine ⟨ao, cap, h1, by omega, fun k hk => ?_⟩
  obtain ⟨b, o, h7, h8, h9⟩ := h6.addr (by simp [ints]; omega)
  have := h9 k (by simpa [ints] using hk)
  exact ⟨b, o, h7, h8, by rw [this]; simp [ints, gi, hk]⟩
theorem IntsV.keep {w w1 : World} {D S : Nat → Prop} {v : Value} {l : List Int} (h : IntsV w D v l) (hf : Fx S w w1) (hd : ∀ k, D k → ¬ S k) : IntsV w1 D v l := SlV.keep h hf hd

/-- a row that is written out in a new block -/
theorem SlV.lit (w : World) (e : TypeId) (cs : Array Value) (size n : Nat) (h : cs.size = n * size) (hn : n ≤ maxLen) :
    SlV (w.alloc (.cells cs e)) (fun _ => True) (.slice (some ⟨w.heap.size, 0, none⟩) n n) size n cs.toList := by
  refine ⟨_, n, rfl, Nat.le_refl _, hn, by simpa using h, by simp, .inr ⟨w.heap.size, 0, rfl, trivial, fun i hi => ?_⟩⟩
  have hi' : i < cs.size := by simpa using hi
  simp [hi']
/-- what is owned and not empty lies in a block -/
theorem ownsRow_pos {w : World} {base : Nat} {e : TypeId} {size : Nat} {v : Value} {n : Nat} {xs : List Value} (h : w.ownsRow base e size v n xs) (hn : 0 < n) :
    ∃ g cap, v = .slice (some ⟨g, 0, none⟩) n cap ∧ base ≤ g ∧ g < w.heap.size := by
  rcases h.2 with ⟨_, h0⟩ | ⟨g, cap, cur, hv, hb, hg, _⟩
  · omega
  · exact ⟨g, cap, hv, hb, (Array.getElem?_eq_some_iff.1 hg).1⟩

#print axioms IntsV.facts
#print axioms wpList_append_sl
end Go.Proofs.Yteafkafkbipcmaa

namespace Go.Proofs.Yteafkafkbipcmaa
open Go.RowKit
set_option linter.unusedVariables false

/-- old cells stay, but for the spare ones of the row itself -/
def AppKept (w w' : World) (v : Value) (m : Nat) : Prop := ∀ b i u, w.cell? ⟨b, i, none⟩ = some u → (v.ownBlock = some b → i < m) → w'.cell? ⟨b, i, none⟩ = some u
theorem AppKept.grown {w w' : World} (h : w.grownBy w' none) (v : Value) (m : Nat) : AppKept w w' v m := fun b i u hc _ => by
  rw [World.cell?_of_block (h.block b (World.block_lt_of_cell? w _ hc) (by simp))]; exact hc
theorem cell_drew_alloc {w : World} {o : Obj} {b i : Nat} {u : Value} (h : w.cell? ⟨b, i, none⟩ = some u) : (w.drew.alloc o).cell? ⟨b, i, none⟩ = some u := by
  exact (World.cell?_alloc_lt (w := w.drew) _ _ (World.block_lt_of_cell? w _ h)).trans h
theorem run_append_kept {P : Program} (w : World) (base : Nat) (t ty e : TypeId) (i : TypeInfo) (z : Value) (size bytes : Nat) (ht : P.underlying t = some (.slice e)) (hi : P.info? e = some i) (hz : i.zero = some z)
    (hsize : i.size = size) (hby : i.bytes = bytes) (v : Value) (n : Nat) (xs : List Value) (hown : w.ownsRow base e size v n xs)
    (a : Addr) (m c : Nat) (news : List Value) (hl : news.length = m * size) (hnews : ∀ j u, news[j]? = some u → w.cell? (a.add j) = some u) (h1 : ∀ u ∈ news, u.oneCell' = true)
    (hm : 0 < m) (h63 : n + m ≤ maxLen) (hbytes : (n + m) * bytes ≤ 140737488355328) {v' : Value} {w' : World}
    (hr : (Builtin.append_ #[t, t] ty #[v, .slice (some a) m c]).run P w = .ok v' w') : AppKept w w' v (n * size) ∧ ∀ g, v'.ownBlock = some g → v.ownBlock = some g ∨ w.heap.size ≤ g := by
  subst hsize hby
  have h63' : n + m ≤ 9223372036854775807 := by unfold maxLen at h63; omega
  have hown' := hown
  obtain ⟨hlen, hcase⟩ := hown
  rcases hcase with ⟨rfl, rfl⟩ | ⟨g, cap, cur, rfl, hb, hg, hnc, hcm, hcs, htake⟩
  · have hrun := run_append_nil (P := P) w t ty e i z ht hi hz a m c news hl hnews hm (by omega) (by have := hbytes; rw [Nat.zero_add] at this; omega)
    rw [hrun] at hr
    obtain ⟨rfl, rfl⟩ : v' = _ ∧ w' = _ := by
      simp only [Result.ok.injEq] at hr
      exact ⟨hr.1.symm, hr.2.symm⟩
    exact ⟨fun b j u hc _ => cell_drew_alloc hc, fun g hg => .inr (by simp [Value.ownBlock] at hg; omega)⟩
  · by_cases hroom : n + m ≤ cap
    · have hfit : n * i.size + news.length ≤ cur.size := by rw [hl, hcs, ← Nat.add_mul]; exact Nat.mul_le_mul_right _ hroom
      have hrun := run_append_room (P := P) w t ty e i ht hi g n cap cur hg a m c news hl hnews h1 hroom hfit
      rw [hrun] at hr
      obtain ⟨rfl, rfl⟩ : v' = _ ∧ w' = _ := by
        simp only [Result.ok.injEq] at hr
        exact ⟨hr.1.symm, hr.2.symm⟩
      refine ⟨fun b j u hc hj => ?_, fun g' hg' => .inl (by simpa [Value.ownBlock] using hg')⟩
      by_cases e : b = g
      · subst e
        have hj' : j < n * i.size := hj (by simp [Value.ownBlock])
        rw [cell_of_row _ _ _ _ _ _ hg] at hc
        rw [cell_of_row _ _ _ _ _ _ (setRow_heap w b cur _ _ _ hg)]
        have hle : n * i.size ≤ cur.toList.length := by simp; omega
        have hjc : j < cur.size := by simp at hle; omega
        have : (cur.toList.take (n * i.size) ++ news ++ cur.toList.drop (n * i.size + news.length))[j]? = some u := by
          rw [List.append_assoc, List.getElem?_append_left (by rw [List.length_take]; omega), List.getElem?_take_of_lt hj']
          simpa using hc
        simpa using this
      · rw [World.cell?_of_block (setRow_other w g b _ e)]; exact hc
    · have holds : ∀ j u, xs[j]? = some u → w.cell? ((⟨g, 0, none⟩ : Addr).add j) = some u := hown'.cells (g := g) rfl
      have hrun := run_append_grow (P := P) w t ty e i z ht hi hz ⟨g, 0, none⟩ n cap xs hlen holds a m c news hl hnews (by omega) (by omega) (growslice_fits (by omega) hbytes)
      rw [hrun] at hr
      obtain ⟨rfl, rfl⟩ : v' = _ ∧ w' = _ := by
        simp only [Result.ok.injEq] at hr
        exact ⟨hr.1.symm, hr.2.symm⟩
      exact ⟨fun b j u hc _ => cell_drew_alloc hc, fun g hg => .inr (by simp [Value.ownBlock] at hg; omega)⟩
/-- the walk's law -/
theorem wpList_append_kept {P : Program} {w : World} {ops : Array Oper} {rest : List Oper} {o : Oper} {a : Act} {Q : Exit → Act → World → Prop} (hgd : o.guard = none) (s x : Operand) (t : TypeId)
    (ho : o.op = .call { callee := .builtin .append, args := #[s, x], argTypes := #[t, t] })
    (base : Nat) (e : TypeId) {i : TypeInfo} {z : Value} {size bytes : Nat} (ht : P.underlying t = some (.slice e)) (hi : P.info? e = some i) (hz : i.zero = some z)
    (hsize : i.size = size) (hby : i.bytes = bytes) (hzs : z.cells.size = size) (hsz : 0 < size)
    {v : Value} {n : Nat} {xs : List Value} (hs : a.eval s = v) (hown : w.ownsRow base e size v n xs)
    {D : Nat → Prop} {u : Value} {m : Nat} {news : List Value} (hx : a.eval x = u) (hsl : SlV w D u size m news) (h1 : One news) (hm : 0 < m)
    (h63 : n + m ≤ maxLen) (hbytes : (n + m) * bytes ≤ 140737488355328) (hbase : base ≤ w.heap.size)
    (h : ∀ v' w', w'.ownsRow base e size v' (n + m) (xs ++ news) → Fx (fun k => v.ownBlock = some k) w w' → AppKept w w' v (n * size) → (∀ g, v'.ownBlock = some g → v.ownBlock = some g ∨ w.heap.size ≤ g) → wpList P ops Q rest (a.put o.dst v') w') : wpList P ops Q (o :: rest) a w := by
  obtain ⟨ao, cap, rfl, h2, h3, h4, h5, h6⟩ := hsl
  cases ao with
  | none => have := h5 rfl; omega
  | some ad =>
    obtain ⟨v', w', hr, g1, g2, g3⟩ := run_append_own (P := P) w base t o.type e i z size bytes ht hi hz hsize hby hzs hsz v n xs hown ad m cap news h4 h6.cells h1 h63 hbytes hbase
    obtain ⟨k1, k2⟩ := run_append_kept (P := P) w base t o.type e i z size bytes ht hi hz hsize hby v n xs hown ad m cap news h4 h6.cells h1 hm h63 hbytes hr
    refine wpList_plain hgd fun K hK => ?_
    unfold Oper.wp
    simp [execOp, ho, resolve, invoke, builtin, hs, hx, hr, Result.andThen]
    exact hK _ _ (h v' w' g1 (Fx.ofGrown g2 fun k hk _ => hk) k1 k2)
#print axioms wpList_append_kept
end Go.Proofs.Yteafkafkbipcmaa

namespace Go.Proofs.Yteafkafkbipcmaa
open Go.RowKit
set_option linter.unusedVariables false

/-- the cells of a row of structs, each of them some ints -/
def icells {α : Type} (enc : α → List Int) (xs : List α) : List Value := xs.flatMap fun x => ints (enc x)
def gt {α : Type} [Inhabited α] (xs : List α) (k : Nat) : α := xs.getD k default
theorem take_gt {α : Type} [Inhabited α] {xs : List α} {k : Nat} (h : k < xs.length) : xs.take (k + 1) = xs.take k ++ [gt xs k] := by
  rw [List.take_succ_eq_append_getElem h]; simp [gt, h]
theorem gt_mem {α : Type} [Inhabited α] {xs : List α} {k : Nat} (h : k < xs.length) : gt xs k ∈ xs := by simp [gt, h]
section
variable {α : Type} {enc : α → List Int} {s : Nat}
theorem icells_nil : icells enc [] = [] := rfl
theorem icells_cons (x : α) (xs : List α) : icells enc (x :: xs) = ints (enc x) ++ icells enc xs := rfl
theorem icells_append (a b : List α) : icells enc (a ++ b) = icells enc a ++ icells enc b := List.flatMap_append
theorem icells_single (x : α) : icells enc [x] = ints (enc x) := by simp [icells]
theorem icells_one (xs : List α) : One (icells enc xs) := by
  intro u hu
  obtain ⟨q, _, hq⟩ := List.mem_flatMap.1 hu
  exact ints_one _ u hq
theorem icells_length (hs : ∀ x, (enc x).length = s) (xs : List α) : (icells enc xs).length = xs.length * s := by
  induction xs with
  | nil => simp [icells]
  | cons x xs ih => rw [icells_cons, List.length_append, ih]; simp [ints, hs]; rw [Nat.succ_mul]; omega
theorem icells_at (hs : ∀ x, (enc x).length = s) : ∀ {xs : List α} {k j : Nat} {x : α}, xs[k]? = some x → j < s → (icells enc xs)[k * s + j]? = some (.int .i64 (gi (enc x) j))
  | [], k, j, x, h, _ => by simp at h
  | y :: xs, 0, j, x, h, hj => by
    simp only [List.getElem?_cons_zero, Option.some.injEq] at h
    subst h
    have hl : j < (enc y).length := by rw [hs]; exact hj
    rw [icells_cons, Nat.zero_mul, Nat.zero_add, List.getElem?_append_left (by simpa [ints] using hl)]
    simp [ints, gi, hl]
  | y :: xs, k + 1, j, x, h, hj => by
    simp only [List.getElem?_cons_succ] at h
    have ih := icells_at hs h hj
    have hl : (ints (enc y)).length = s := by simp [ints, hs]
    rw [icells_cons, List.getElem?_append_right (by rw [hl, Nat.succ_mul]; omega), hl, show (k + 1) * s + j - s = k * s + j by rw [Nat.succ_mul]; omega]
    exact ih
/-- a slice that reads as a row of structs -/
def RowV (enc : α → List Int) (s : Nat) (w : World) (D : Nat → Prop) (v : Value) (xs : List α) : Prop := SlV w D v s xs.length (icells enc xs)
theorem RowV.keep {w w1 : World} {D S : Nat → Prop} {v : Value} {xs : List α} (h : RowV enc s w D v xs) (hf : Fx S w w1) (hd : ∀ k, D k → ¬ S k) : RowV enc s w1 D v xs := SlV.keep h hf hd
theorem RowV.no {w w1 : World} {D : Nat → Prop} {v : Value} {xs : List α} (h : RowV enc s w D v xs) (hf : Fx No w w1) : RowV enc s w1 D v xs := SlV.keep h hf No.disj
theorem RowV.mono {w : World} {D T : Nat → Prop} {v : Value} {xs : List α} (h : RowV enc s w D v xs) (hd : ∀ k, D k → T k) : RowV enc s w T v xs := SlV.mono h hd
theorem RowV.bound {w : World} {D : Nat → Prop} {v : Value} {xs : List α} (h : RowV enc s w D v xs) : RowV enc s w (fun k => D k ∧ k < w.heap.size) v xs := SlV.bound h
theorem RowV.nil (w : World) (D : Nat → Prop) : RowV enc s w D (.slice none 0 0) [] := SlV.nil _ _ _
theorem RowV.facts [Inhabited α] (hs : ∀ x, (enc x).length = s) (h0 : 0 < s) {w : World} {D : Nat → Prop} {v : Value} {xs : List α} (h : RowV enc s w D v xs) :
    ∃ ao cap, v = .slice ao xs.length cap ∧ xs.length ≤ cap ∧ cap ≤ 9223372036854775807 ∧ ∀ k, k < xs.length → ∃ b o, ao = some ⟨b, o, none⟩ ∧ D b ∧ ∀ j, j < s → w.cell? ⟨b, o + (k * s + j), none⟩ = some (.int .i64 (gi (enc (gt xs k)) j)) := by
  obtain ⟨ao, cap, h1, h2, h3, h4, h5, h6⟩ := h
  unfold maxLen at h3
  refine ⟨ao, cap, h1, h2, by omega, fun k hk => ?_⟩
  have hl := icells_length hs xs
  have hk2 : k * s + s ≤ xs.length * s := by rw [← Nat.succ_mul]; exact Nat.mul_le_mul_right _ hk
  obtain ⟨b, o, h7, h8, h9⟩ := h6.addr (by rw [hl]; omega)
  refine ⟨b, o, h7, h8, fun j hj => ?_⟩
  rw [h9 _ (by rw [hl]; omega)]
  have := icells_at hs (xs := xs) (k := k) (j := j) (x := gt xs k) (by simp [gt, hk]) hj
  simp [List.getD, this]
theorem RowV.lit (hs : ∀ x, (enc x).length = s) (w : World) (t : TypeId) (xs : List α) (h : xs.length ≤ 1000000) :
    RowV enc s (w.alloc (.cells (icells enc xs).toArray t)) (Iv w.heap.size (w.heap.size + 1)) (.slice (some ⟨w.heap.size, 0, none⟩) xs.length xs.length) xs := by
  refine ⟨_, xs.length, rfl, Nat.le_refl _, by unfold maxLen; omega, by rw [icells_length hs], by simp, .inr ⟨w.heap.size, 0, rfl, ⟨Nat.le_refl _, Nat.lt_succ_self _⟩, fun i hi => ?_⟩⟩
  have hi' : i < (icells enc xs).length := by simpa using hi
  simp [hi']
/-- what is owned lies in its own block -/
theorem SlV.own {w : World} {base : Nat} {e : TypeId} {size : Nat} {v : Value} {n : Nat} {xs : List Value} (h : w.ownsRow base e size v n xs) : SlV w (fun b => v.ownBlock = some b) v size n xs := by
  obtain ⟨ao, cap, h1, h2, h3, h4, h5, h6⟩ := SlV.ofOwns h
  subst h1
  refine ⟨ao, cap, rfl, h2, h3, h4, h5, ?_⟩
  rcases h.2 with ⟨e1, rfl⟩ | ⟨g, cap', cur, e1, _⟩
  · exact .inl (List.eq_nil_of_length_eq_zero (by simpa using h.1))
  · simp only [Value.slice.injEq] at e1
    obtain ⟨rfl, _, _⟩ := e1
    rcases h6 with h6 | ⟨b, o, h7, h8, h9⟩
    · exact .inl h6
    · simp only [Option.some.injEq, Addr.mk.injEq] at h7
      obtain ⟨rfl, rfl, _⟩ := h7
      exact .inr ⟨g, 0, rfl, rfl, h9⟩
/-- a row of structs of the call's own -/
def OwnT (t : TypeId) (enc : α → List Int) (s : Nat) (w : World) (base : Nat) (v : Value) (xs : List α) : Prop := w.ownsRow base t s v xs.length (icells enc xs)
variable {t : TypeId}
theorem OwnT.row {w : World} {base : Nat} {v : Value} {xs : List α} (h : OwnT t enc s w base v xs) : RowV enc s w (Iv base w.heap.size) v xs := SlV.ofOwns h
theorem OwnT.no {w w' : World} {base : Nat} {v : Value} {xs : List α} (h : OwnT t enc s w base v xs) (hf : Fx No w w') : OwnT t enc s w' base v xs := ownsRow_fx h hf fun _ _ h => h
theorem OwnT.fx {S : Nat → Prop} {w w' : World} {base : Nat} {v : Value} {xs : List α} (h : OwnT t enc s w base v xs) (hf : Fx S w w') (hn : ∀ k, v.ownBlock = some k → ¬ S k) : OwnT t enc s w' base v xs := ownsRow_fx h hf hn
theorem OwnT.base {w : World} {base base' : Nat} {v : Value} {xs : List α} (h : OwnT t enc s w base v xs) (hb : base' ≤ base) : OwnT t enc s w base' v xs := ownsRow_base h hb
theorem OwnT.nil (w : World) (base : Nat) : OwnT t enc s w base (.slice none 0 0) [] := World.ownsRow_nil _ _ _ _
theorem OwnT.snoc {w : World} {base : Nat} {v : Value} {xs : List α} {x : α} (h : w.ownsRow base t s v (xs.length + 1) (icells enc xs ++ ints (enc x))) : OwnT t enc s w base v (xs ++ [x]) := by
  unfold OwnT
  rw [List.length_append, icells_append, icells_single]
  exact h
theorem OwnT.lt {w : World} {base : Nat} {v : Value} {xs : List α} (h : OwnT t enc s w base v xs) {g : Nat} (hg : v.ownBlock = some g) : base ≤ g ∧ g < w.heap.size := World.ownsRow.lt h g hg
end
/-! pairs, edges of two numbers -/
def e2 (q : Int × Int) : List Int := [q.1, q.2]
theorem e2_len (q : Int × Int) : (e2 q).length = 2 := rfl
abbrev PairsV (w : World) (D : Nat → Prop) (v : Value) (ps : List (Int × Int)) : Prop := RowV e2 2 w D v ps
theorem PairsV.facts {w : World} {D : Nat → Prop} {v : Value} {ps : List (Int × Int)} (h : PairsV w D v ps) : ∃ ao cap, v = .slice ao ps.length cap ∧ ps.length ≤ cap ∧ cap ≤ 9223372036854775807 ∧
    ∀ k, k < ps.length → ∃ b o, ao = some ⟨b, o, none⟩ ∧ D b ∧ w.cell? ⟨b, o + k * 2, none⟩ = some (.int .i64 (gt ps k).1) ∧ w.cell? ⟨b, o + k * 2 + 1, none⟩ = some (.int .i64 (gt ps k).2) := by
  obtain ⟨ao, cap, h1, h2, h3, h4⟩ := RowV.facts e2_len (by omega) h
  refine ⟨ao, cap, h1, h2, h3, fun k hk => ?_⟩
  obtain ⟨b, o, h5, h6, h7⟩ := h4 k hk
  exact ⟨b, o, h5, h6, h7 0 (by omega), h7 1 (by omega)⟩
/-! edges of three numbers -/
structure Ed where
  f : Int
  t : Int
  l : Int
deriving DecidableEq, Inhabited
def e3 (q : Ed) : List Int := [q.f, q.t, q.l]
theorem e3_len (q : Ed) : (e3 q).length = 3 := rfl
abbrev EdsV (w : World) (D : Nat → Prop) (v : Value) (xs : List Ed) : Prop := RowV e3 3 w D v xs
theorem EdsV.facts {w : World} {D : Nat → Prop} {v : Value} {xs : List Ed} (h : EdsV w D v xs) : ∃ ao cap, v = .slice ao xs.length cap ∧ xs.length ≤ cap ∧ cap ≤ 9223372036854775807 ∧
    ∀ k, k < xs.length → ∃ b o, ao = some ⟨b, o, none⟩ ∧ D b ∧ w.cell? ⟨b, o + k * 3, none⟩ = some (.int .i64 (gt xs k).f) ∧ w.cell? ⟨b, o + k * 3 + 1, none⟩ = some (.int .i64 (gt xs k).t) ∧ w.cell? ⟨b, o + k * 3 + 2, none⟩ = some (.int .i64 (gt xs k).l) := by
  obtain ⟨ao, cap, h1, h2, h3, h4⟩ := RowV.facts e3_len (by omega) h
  refine ⟨ao, cap, h1, h2, h3, fun k hk => ?_⟩
  obtain ⟨b, o, h5, h6, h7⟩ := h4 k hk
  exact ⟨b, o, h5, h6, h7 0 (by omega), h7 1 (by omega), h7 2 (by omega)⟩
#print axioms EdsV.facts
#print axioms RowV.lit
end Go.Proofs.Yteafkafkbipcmaa

namespace Go.Proofs.Yteafkafkbipcmaa
open Go.RowKit
set_option linter.unusedVariables false

theorem step_append_kept {P : Program} {ops : Array Oper} {o : Oper} {a : Act} {w : World} {K : Act → World → Prop} {Q : Exit → Act → World → Prop} {E : Prop}
    (hg : o.guard = none) (s x : Operand) (t : TypeId) (hop : o.op = Op.call { callee := Callee.builtin Builtin.append, args := #[s, x], argTypes := #[t, t] })
    (base : Nat) (e : TypeId) {i : TypeInfo} {z : Value} {size bytes : Nat} (ht : P.underlying t = some (.slice e)) (hi : P.info? e = some i) (hz : i.zero = some z)
    (hsize : i.size = size) (hby : i.bytes = bytes) (hzs : z.cells.size = size) (hsz : 0 < size)
    (v : Value) (n : Nat) (xs : List Value) (hs : a.eval s = v) (hown : w.ownsRow base e size v n xs)
    (D : Nat → Prop) (u : Value) (m : Nat) (news : List Value) (hx : a.eval x = u) (hsl : SlV w D u size m news) (h1 : One news) (hm : 0 < m)
    (h63 : n + m ≤ maxLen) (hbytes : (n + m) * bytes ≤ 140737488355328) (hbase : base ≤ w.heap.size)
    (hK : ∀ v' w', w'.ownsRow base e size v' (n + m) (xs ++ news) → Fx (fun k => v.ownBlock = some k) w w' → AppKept w w' v (n * size) → (∀ g, v'.ownBlock = some g → v.ownBlock = some g ∨ w.heap.size ≤ g) → K (a.put o.dst v') w') :
    if Region.wanted o (yielded ops a.tmps) = true then Oper.wp P o a w K Q else E := by
  have hw : Region.wanted o (yielded ops a.tmps) = true := by simp [Region.wanted, hg]
  rw [if_pos hw]
  obtain ⟨ao, cap, rfl, h2, h3, h4, h5, h6⟩ := hsl
  cases ao with
  | none => have := h5 rfl; omega
  | some ad =>
    obtain ⟨v', w', hr, g1, g2, g3⟩ := run_append_own (P := P) w base t o.type e i z size bytes ht hi hz hsize hby hzs hsz v n xs hown ad m cap news h4 h6.cells h1 h63 hbytes hbase
    obtain ⟨k1, k2⟩ := run_append_kept (P := P) w base t o.type e i z size bytes ht hi hz hsize hby v n xs hown ad m cap news h4 h6.cells h1 hm h63 hbytes hr
    unfold Oper.wp
    simp [execOp, hop, resolve, invoke, builtin, hs, hx, hr, Result.andThen]
    exact hK _ _ g1 (Fx.ofGrown g2 fun k hk _ => hk) k1 k2
#print axioms step_append_kept
end Go.Proofs.Yteafkafkbipcmaa

namespace Go.Proofs.Yteafkafkbipcmaa
open Go.RowKit
set_option linter.unusedVariables false
section
variable {P : Program} {ops : Array Oper} {Q : Exit → Act → World → Prop} {md : Region.Mode} {s : Nat} {S : Bool → World → Prop}

/-- what the store waits for has come up, if it has -/
def Cl (md : Region.Mode) (ops : Array Oper) (s : Nat) (L : Array Bool) : Prop := ∀ os, ops[s]? = some os → L.getD s false = true → ∀ e ∈ os.after, Region.binds md e = true → L.getD e.on false = true
theorem cl_ready {L : Array Bool} {j : Nat} (h : Cl md ops s L) (hj : j ∈ Region.ready md ops L) : Cl md ops s (L.setIfInBounds j true) := by
  intro os hos hl e he hb
  by_cases hjs : j = s
  · subst hjs
    obtain ⟨_, oj, hoj, hall⟩ := mem_ready.1 hj
    have : oj = os := Option.some.inj (hoj.symm.trans hos)
    subst this
    exact getD_set_true (hall e he hb)
  · rw [getD_set_ne false hjs] at hl
    exact getD_set_true (h os hos hl e he hb)
theorem cl_un {L : Array Bool} {i : Nat} (h : Cl md ops s L) (hw : Region.waitsFor md ops s i = true) (hi : L.getD i true = false) : L.getD s false = false := by
  obtain ⟨os, hos, e, he, hb, hon⟩ := Region.waitsFor_spec hw
  cases hl : L.getD s false with
  | false => rfl
  | true =>
    have := h os hos hl e he hb
    rw [hon, getD_both hi] at this
    cases this
/-- in whatever order; behind each operation the condition holds -/
def wpG (P : Program) (md : Region.Mode) (ops : Array Oper) (Q : Exit → Act → World → Prop) (s : Nat) (S : Bool → World → Prop) : Nat → Array Bool → Act → World → Prop
  | 0, L, a, w => Region.ready md ops L = [] ∧ Q .normal a w
  | f + 1, L, a, w => (Region.ready md ops L = [] → Q .normal a w) ∧ ∀ i ∈ Region.ready md ops L, wpOp P ops Q i (fun a' w' => S ((L.setIfInBounds i true).getD s false) w' ∧ wpG P md ops Q s S f (L.setIfInBounds i true) a' w') a w
theorem wpAny_of_wpG : ∀ (f : Nat) (L : Array Bool) (a : Act) (w : World), wpG P md ops Q s S f L a w → wpAny P md ops Q f L a w
  | 0, _, _, _, h => h
  | f + 1, _, _, _, h => ⟨h.1, fun i hi => wpOp_mono (fun a' w' h' => wpAny_of_wpG f _ a' w' h'.2) (h.2 i hi)⟩
theorem wpG_first {i : Nat} {oi : Oper} {v : Value} (hi : ops[i]? = some oi) (hsel : ∀ (j : Nat) (o : Oper) cs b, ops[j]? = some o → o.op ≠ .select cs b)
    (hQ : ∀ c a w, Q (.panic c) (a.put oi.dst v) w → Q (.panic c) a w) (his : i ≠ s) (hw : Region.waitsFor md ops s i = true) :
    ∀ (f : Nat) (L : Array Bool) (a : Act) (w : World),
      (∀ j oj, ops[j]? = some oj → j ≠ i → L.getD j true = false → (∀ e ∈ oj.after, Region.binds md e = true → e.on ≠ i) → oi.apart ops oj = true) →
      i ∈ Region.ready md ops L → YieldsIf P ops (S false) oi v a → S (L.getD s false) w → Cl md ops s L →
      wpG P md ops Q s S f (L.setIfInBounds i true) (a.put oi.dst v) w → wpG P md ops Q s S (f + 1) L a w := by
  intro f
  induction f with
  | zero =>
    intro L a w _ hr hy hS hc H
    have hun := cl_un hc hw (mem_ready.1 hr).1
    rw [hun] at hS
    refine ⟨fun h => (by rw [h] at hr; cases hr), fun j hj => ?_⟩
    by_cases hji : j = i
    · subst hji; exact hy.wpOp hi hS ⟨by rw [getD_set_ne false his, hun]; exact hS, H⟩
    · have := ready_mono hj hji
      rw [H.1] at this; cases this
  | succ f ih =>
    intro L a w hfree hr hy hS hc H
    have hun := cl_un hc hw (mem_ready.1 hr).1
    refine ⟨fun h => (by rw [h] at hr; cases hr), fun j hj => ?_⟩
    by_cases hji : j = i
    · subst hji
      rw [hun] at hS
      exact hy.wpOp hi hS ⟨by rw [getD_set_ne false his, hun]; exact hS, H⟩
    · have h1 := H.2 j (ready_mono hj hji)
      obtain ⟨hjun, oj, hoj, hall⟩ := mem_ready.1 hj
      have hnot : ∀ e ∈ oj.after, Region.binds md e = true → e.on ≠ i := fun e he hb heq => by
        have h1 := hall e he hb
        rw [heq, getD_both (mem_ready.1 hr).1] at h1
        cases h1
      have h2 := wpOp_putIf hoj (hfree j oj hoj hji hjun hnot) (fun cs b => hsel i oi cs b hi) (fun cs b => hsel j oj cs b hoj) hQ hy h1
      have hfree' : ∀ k ok, ops[k]? = some ok → k ≠ i → (L.setIfInBounds j true).getD k true = false →
          (∀ e ∈ ok.after, Region.binds md e = true → e.on ≠ i) → oi.apart ops ok = true := fun k ok hk hki hun hno => by
        refine hfree k ok hk hki ?_ hno
        by_cases hjk : j = k
        · subst hjk; exact hjun
        · rw [getD_set_ne true hjk] at hun; exact hun
      refine wpOp_mono (fun a' w' h3 => ?_) h2
      have hSj : S ((L.setIfInBounds j true).getD s false) w' := by
        have := h3.2.1
        rw [Array.setIfInBounds_comm _ _ (Ne.symm hji), getD_set_ne false his] at this
        exact this
      refine ⟨hSj, ih (L.setIfInBounds j true) a' w' hfree' (ready_mono hr (Ne.symm hji)) h3.1 hSj (cl_ready hc hj) ?_⟩
      rw [Array.setIfInBounds_comm _ _ hji]
      exact h3.2.2
theorem wpG_take {i : Nat} {oi : Oper} {v : Value} {f : Nat} {L : Array Bool} {a : Act} {w : World} (hi : ops[i]? = some oi)
    (hs : Region.noSelect ops = true) (hf : Region.free md ops L i = true) (hr : (Region.ready md ops L).contains i = true) (hw : Region.waitsFor md ops s i = true)
    (hQ : ∀ c a w, Q (.panic c) (a.put oi.dst v) w → Q (.panic c) a w) (his : i ≠ s) (hy : YieldsIf P ops (S false) oi v a) (hc : Cl md ops s L) (hS : S (L.getD s false) w)
    (h : S ((L.setIfInBounds i true).getD s false) w → Cl md ops s (L.setIfInBounds i true) → wpG P md ops Q s S f (L.setIfInBounds i true) (a.put oi.dst v) w) : wpG P md ops Q s S (f + 1) L a w :=
  wpG_first hi (Region.noSelect_spec hs) hQ his hw f L a w (Region.free_spec hi hf) (by simpa using hr) hy hS hc (h (by rw [getD_set_ne false his]; exact hS) (cl_ready hc (by simpa using hr)))
theorem wpG_one {i : Nat} {o : Oper} {f : Nat} {L : Array Bool} {a : Act} {w : World} (hr : Region.ready md ops L = [i]) (ho : ops[i]? = some o) (hc : Cl md ops s L)
    (h : ∀ K' : Act → World → Prop, Shut (∀ a w, S ((L.setIfInBounds i true).getD s false) w → (S ((L.setIfInBounds i true).getD s false) w → Cl md ops s (L.setIfInBounds i true) → wpG P md ops Q s S f (L.setIfInBounds i true) a w) → K' a w) → if Region.wanted o (yielded ops a.tmps) = true then Oper.wp P o a w K' Q else K' (a.put o.dst undef) w) :
    wpG P md ops Q s S (f + 1) L a w :=
  ⟨fun h0 => (by rw [hr] at h0; cases h0), fun j hj => by
    rw [hr, List.mem_singleton] at hj
    subst hj
    exact wpOp_step ho (fun K' hK => h K' (fun a w hS hW => hK a w ⟨hS, hW hS (cl_ready hc (by rw [hr]; simp))⟩))⟩
theorem wpG_done {L : Array Bool} {a : Act} {w : World} (hr : Region.ready md ops L = []) (h : Q .normal a w) : ∀ f, wpG P md ops Q s S f L a w
  | 0 => ⟨hr, h⟩
  | _ + 1 => ⟨fun _ => h, by rw [hr]; simp⟩
theorem cl_none : ∀ {n : Nat}, Cl md ops s (Array.replicate n false) := by
  intro n os hos hl
  rw [getD_replicate_false] at hl
  cases hl
theorem wp_region_G {id : Nat} {a : Act} {w : World} (s : Nat) (S : Bool → World → Prop) (hm : P.follows .mixedOrders = true) (hS : S false w.drew)
    (h : S ((Array.replicate ops.size false).getD s false) w.drew → Cl .any ops s (Array.replicate ops.size false) → wpG P .any ops Q s S ops.size (Array.replicate ops.size false) a w.drew) : (Code.region id ops true).wp P Q a w :=
  wp_region_any hm (wpAny_of_wpG _ _ _ _ (h (by rw [getD_replicate_false]; exact hS) cl_none))
end
#print axioms wp_region_G
end Go.Proofs.Yteafkafkbipcmaa

namespace Go.Proofs.Yteafkafkbipcmaa
open Go.RowKit
set_option linter.unusedVariables false
section
variable {P : Program} {ops : Array Oper} {Q : Exit → Act → World → Prop} {md : Region.Mode} {S : World → Prop}
theorem wpH_one {i : Nat} {o : Oper} {f : Nat} {L : Array Bool} {a : Act} {w : World} (hr : Region.ready md ops L = [i]) (ho : ops[i]? = some o)
    (h : ∀ K' : Act → World → Prop, Shut (∀ a w, S w → (S w → wpAnyH P md ops Q S f (L.setIfInBounds i true) a w) → K' a w) → if Region.wanted o (yielded ops a.tmps) = true then Oper.wp P o a w K' Q else K' (a.put o.dst undef) w) :
    wpAnyH P md ops Q S (f + 1) L a w :=
  wpAnyH_all hr (by simp) fun j hj => by
    rw [List.mem_singleton] at hj
    subst hj
    exact wpOp_step ho (fun K' hK => h K' (fun a w hS hW => hK a w ⟨hS, hW hS⟩))
theorem wp_region_H {id : Nat} {a : Act} {w : World} (S : World → Prop) (hm : P.follows .mixedOrders = true) (hS : S w.drew)
    (h : S w.drew → wpAnyH P .any ops Q S ops.size (Array.replicate ops.size false) a w.drew) : (Code.region id ops true).wp P Q a w := wp_region_held hm (h hS)
end
#print axioms wpH_one
end Go.Proofs.Yteafkafkbipcmaa

namespace Go.Proofs.Yteafkafkbipcmaa
open Go.RowKit
set_option linter.unusedVariables false

theorem run_part_int {P : Program} {t : TypeId} {cs : Array Value} {off : Nat} {v : Value} (w : World) (hu : P.underlying t = some (.int .i64)) (hv : cs[off]? = some v) : (part t cs off).run P w = .ok v w := by
  simp [part, isAgg, run_underlying hu, hv]
theorem run_eqi (d : Nat) {P : Program} {t : TypeId} (w : World) (hu : P.underlying t = some (.int .i64)) (a b : Int) : (Op.equalIn (d + 1) t (.int .i64 a) (.int .i64 b)).run P w = .ok (a == b) w := by
  simp [Op.equalIn, run_underlying hu]
/-- two structs of ints: what '==' tells of their fields -/
theorem run_eqFields_int {P : Program} (d : Nat) (w : World) {ti : TypeId} (hu : P.underlying ti = some (.int .i64)) {xs ys : Array Value} : ∀ (fs : List Field) (us zs : List Int), fs.length = us.length → fs.length = zs.length →
    (∀ k, k < fs.length → ∃ f, fs[k]? = some f ∧ f.name ≠ "_" ∧ f.type = ti ∧ xs[f.offset]? = some (.int .i64 (gi us k)) ∧ ys[f.offset]? = some (.int .i64 (gi zs k))) →
    (Op.eqFields (d + 1) xs ys fs).run P w = .ok (us == zs) w
  | [], [], [], _, _, _ => by simp [Op.eqFields]
  | f :: fs, a :: us, b :: zs, h1, h2, h => by
    obtain ⟨f', hf, hn, ht, hx, hy⟩ := h 0 (by simp)
    simp only [List.getElem?_cons_zero, Option.some.injEq] at hf
    subst hf
    have ih := run_eqFields_int d w hu (xs := xs) (ys := ys) fs us zs (by simpa using h1) (by simpa using h2) fun k hk => by
      obtain ⟨g, hg, hr⟩ := h (k + 1) (by simpa using hk)
      exact ⟨g, by simpa using hg, hr.1, hr.2.1, by have := hr.2.2; simpa [gi] using this⟩
    have hx' : xs[f.offset]? = some (.int .i64 a) := hx
    have hy' : ys[f.offset]? = some (.int .i64 b) := hy
    have p1 : (part f.type xs f.offset).run P w = .ok (.int .i64 a) w := by rw [ht]; exact run_part_int w hu hx'
    have p2 : (part f.type ys f.offset).run P w = .ok (.int .i64 b) w := by rw [ht]; exact run_part_int w hu hy'
    have p3 : (Op.equalIn (d + 1) f.type (.int .i64 a) (.int .i64 b)).run P w = .ok (a == b) w := by rw [ht]; exact run_eqi d w hu a b
    simp only [Op.eqFields, hn, ne_eq, not_false_eq_true, if_true, Sem.run_bind, p1, p2, p3, Result.andThen_ok]
    rw [List.cons_beq_cons]
    cases a == b
    · simp
    · simpa using ih
theorem run_eqStruct {P : Program} (d : Nat) (w : World) {t ti : TypeId} (hu : P.underlying ti = some (.int .i64)) (ht : P.underlying t = some (.struct (P.fieldsOf t))) (hp : P.stoodInHeld t = false) {ns : List (String × Nat)}
    (hfs : (P.fieldsOf t).toList.map (fun f => (f.name, f.type, f.offset)) = ns.map fun q => (q.1, ti, q.2)) (us zs : List Int) (ha : ns.length = us.length) (hb : ns.length = zs.length) (hns : ∀ k, k < ns.length → (ns.getD k ("", 0)).1 ≠ "_" ∧ (ns.getD k ("", 0)).2 = k) :
    (Op.equalIn (d + 2) t (.agg (ints us).toArray) (.agg (ints zs).toArray)).run P w = .ok (us == zs) w := by
  rw [run_equalIn_struct w (d + 1) t _ _ ht hp]
  have hl : (P.fieldsOf t).toList.length = ns.length := by have := congrArg List.length hfs; simpa using this
  refine run_eqFields_int d w hu _ us zs (by omega) (by omega) fun k hk => ?_
  rw [hl] at hk
  have h1 := congrArg (fun l => l[k]?) hfs
  simp only [List.getElem?_map] at h1
  have h2 : ns[k]? = some (ns.getD k ("", 0)) := by simp [hk]
  rw [h2] at h1
  cases hf : (P.fieldsOf t).toList[k]? with
  | none => rw [hf] at h1; cases h1
  | some f =>
    rw [hf] at h1
    simp only [Option.map_some, Option.some.injEq, Prod.mk.injEq] at h1
    obtain ⟨n1, n2⟩ := hns k hk
    refine ⟨f, rfl, by rw [h1.1]; exact n1, h1.2.1, ?_, ?_⟩
    · rw [h1.2.2, n2]; simp [ints, gi, show k < us.length by omega]
    · rw [h1.2.2, n2]; simp [ints, gi, show k < zs.length by omega]
#print axioms run_eqStruct
end Go.Proofs.Yteafkafkbipcmaa

namespace Go.Proofs.Yteafkafkbipcmaa
set_option linter.unusedVariables false

/-- one edge is ahead of another one -/
def Ed.lt (a b : Ed) : Prop := a.f < b.f ∨ (a.f = b.f ∧ (a.t < b.t ∨ (a.t = b.t ∧ a.l < b.l)))
instance (a b : Ed) : Decidable (Ed.lt a b) := by unfold Ed.lt; infer_instance
theorem Ed.lt_irrefl (a : Ed) : ¬ a.lt a := by unfold Ed.lt; omega
theorem Ed.lt_trans {a b c : Ed} (h1 : a.lt b) (h2 : b.lt c) : a.lt c := by unfold Ed.lt at *; omega
theorem Ed.lt_asymm {a b : Ed} (h1 : a.lt b) (h2 : b.lt a) : False := Ed.lt_irrefl a (Ed.lt_trans h1 h2)
theorem Ed.ext' {a b : Ed} (h1 : a.f = b.f) (h2 : a.t = b.t) (h3 : a.l = b.l) : a = b := by cases a; cases b; simp_all
theorem Ed.lt_or {a b : Ed} (h : a ≠ b) : a.lt b ∨ b.lt a := by
  have : ¬ (a.f = b.f ∧ a.t = b.t ∧ a.l = b.l) := fun ⟨x, y, z⟩ => h (Ed.ext' x y z)
  unfold Ed.lt
  omega
/-- how two edges compare -/
def cmpE (a b : Ed) : Int := if a = b then 0 else if a.lt b then -1 else 1
theorem cmpE_neg {a b : Ed} : cmpE a b < 0 ↔ a.lt b := by
  unfold cmpE
  by_cases h : a = b
  · subst h; simp [Ed.lt_irrefl]
  · rw [if_neg h]; by_cases h2 : a.lt b <;> simp [h2]
theorem cmpE_zero {a b : Ed} : cmpE a b = 0 ↔ a = b := by
  unfold cmpE
  by_cases h : a = b
  · simp [h]
  · rw [if_neg h]; by_cases h2 : a.lt b <;> simp [h2, h]
def Asc (l : List Ed) : Prop := l.Pairwise Ed.lt
theorem Asc.nil : Asc [] := List.Pairwise.nil
theorem Asc.cons {x : Ed} {l : List Ed} : Asc (x :: l) ↔ (∀ y ∈ l, x.lt y) ∧ Asc l := List.pairwise_cons
theorem Asc.filter {l : List Ed} (h : Asc l) (p : Ed → Bool) : Asc (l.filter p) := List.Pairwise.filter p h
theorem Asc.nodup {l : List Ed} (h : Asc l) : l.Nodup := by
  refine List.Pairwise.imp ?_ h
  intro a b h e
  subst e
  exact Ed.lt_irrefl a h
/-- sorted rows with the same edges are the same -/
theorem Asc.same : ∀ {a b : List Ed}, Asc a → Asc b → (∀ x, x ∈ a ↔ x ∈ b) → a = b
  | [], [], _, _, _ => rfl
  | [], y :: b, _, _, h => absurd ((h y).2 (by simp)) (by simp)
  | x :: a, [], _, _, h => absurd ((h x).1 (by simp)) (by simp)
  | x :: a, y :: b, ha, hb, h => by
    obtain ⟨ha1, ha2⟩ := Asc.cons.1 ha
    obtain ⟨hb1, hb2⟩ := Asc.cons.1 hb
    have e : x = y := by
      rcases List.mem_cons.1 ((h x).1 (by simp)) with e | e
      · exact e
      · rcases List.mem_cons.1 ((h y).2 (by simp)) with e' | e'
        · exact e'.symm
        · exact absurd (ha1 y e') fun q => Ed.lt_asymm q (hb1 x e)
    subst e
    congr 1
    refine Asc.same ha2 hb2 fun z => ?_
    constructor
    · intro hz
      rcases List.mem_cons.1 ((h z).1 (by simp [hz])) with e | e
      · subst e; exact absurd (ha1 z hz) (Ed.lt_irrefl z)
      · exact e
    · intro hz
      rcases List.mem_cons.1 ((h z).2 (by simp [hz])) with e | e
      · subst e; exact absurd (hb1 z hz) (Ed.lt_irrefl z)
      · exact e
/-- an edge more -/
def insE (e : Ed) : List Ed → List Ed
  | [] => [e]
  | x :: l => if e.lt x then e :: x :: l else if e = x then x :: l else x :: insE e l
theorem mem_insE {e x : Ed} : ∀ {l : List Ed}, x ∈ insE e l ↔ x = e ∨ x ∈ l
  | [] => by simp [insE]
  | y :: l => by
    unfold insE
    split
    · simp
    · split
      · rename_i h; subst h; simp
      · rw [List.mem_cons, mem_insE (l := l), List.mem_cons]
        constructor
        · rintro (h | h | h)
          · exact .inr (.inl h)
          · exact .inl h
          · exact .inr (.inr h)
        · rintro (h | h | h)
          · exact .inr (.inl h)
          · exact .inl h
          · exact .inr (.inr h)
theorem Asc.ins {e : Ed} : ∀ {l : List Ed}, Asc l → Asc (insE e l)
  | [], _ => by simp [insE, Asc]
  | y :: l, h => by
    obtain ⟨h1, h2⟩ := Asc.cons.1 h
    unfold insE
    split
    · rename_i hlt
      refine Asc.cons.2 ⟨?_, h⟩
      intro z hz
      rcases List.mem_cons.1 hz with rfl | hz
      · exact hlt
      · exact Ed.lt_trans hlt (h1 z hz)
    · split
      · exact h
      · rename_i hn hne
        refine Asc.cons.2 ⟨?_, Asc.ins h2⟩
        intro z hz
        rcases mem_insE.1 hz with rfl | hz
        · exact (Ed.lt_or hne).resolve_left hn
        · exact h1 z hz
theorem insE_mem {e : Ed} {l : List Ed} (h : Asc l) (he : e ∈ l) : insE e l = l :=
  Asc.same h.ins h fun x => by rw [mem_insE]; exact ⟨fun q => q.elim (fun q => q ▸ he) id, .inr⟩
/-- an edge less -/
def delE (e : Ed) (l : List Ed) : List Ed := l.filter fun x => !decide (x = e)
theorem mem_delE {e x : Ed} {l : List Ed} : x ∈ delE e l ↔ x ∈ l ∧ x ≠ e := by simp [delE]
theorem Asc.del {e : Ed} {l : List Ed} (h : Asc l) : Asc (delE e l) := h.filter _
theorem delE_not {e : Ed} {l : List Ed} (he : e ∉ l) : delE e l = l := by
  unfold delE
  rw [List.filter_eq_self]
  intro x hx
  simp
  rintro rfl
  exact he hx
/-- how many are ahead of an edge -/
def posE (e : Ed) (l : List Ed) : Nat := (l.filter fun x => decide (x.lt e)).length
theorem posE_cons (e x : Ed) (l : List Ed) : posE e (x :: l) = (if x.lt e then 1 else 0) + posE e l := by
  unfold posE
  by_cases h : x.lt e <;> simp [h]; omega
theorem posE_le (e : Ed) (l : List Ed) : posE e l ≤ l.length := List.length_filter_le _ _
theorem posE_zero {e : Ed} {l : List Ed} (h : ∀ y ∈ l, ¬ y.lt e) : posE e l = 0 := by
  unfold posE
  rw [List.length_eq_zero_iff, List.filter_eq_nil_iff]
  intro y hy
  simpa using h y hy
/-- where an edge goes -/
theorem lt_posE {e : Ed} : ∀ {l : List Ed}, Asc l → ∀ {k : Nat} {x : Ed}, l[k]? = some x → (x.lt e ↔ k < posE e l)
  | [], _, k, x, hx => by simp at hx
  | y :: l, h, k, x, hx => by
    obtain ⟨h1, h2⟩ := Asc.cons.1 h
    rw [posE_cons]
    by_cases hy : y.lt e
    · rw [if_pos hy]
      cases k with
      | zero => simp at hx; subst hx; simp [hy]; omega
      | succ k =>
        simp only [List.getElem?_cons_succ] at hx
        rw [lt_posE h2 hx]; omega
    · rw [if_neg hy]
      have hz : posE e l = 0 := posE_zero fun z hz q => hy (Ed.lt_trans (h1 z hz) q)
      rw [hz]
      cases k with
      | zero => simp at hx; subst hx; simp [hy]
      | succ k =>
        simp only [List.getElem?_cons_succ] at hx
        have hm := h1 x (List.mem_of_getElem? hx)
        constructor
        · intro q; exact absurd (Ed.lt_trans hm q) hy
        · omega
theorem insE_at {e : Ed} : ∀ {l : List Ed}, Asc l → e ∉ l → insE e l = l.take (posE e l) ++ e :: l.drop (posE e l)
  | [], _, _ => by simp [insE, posE]
  | y :: l, h, hn => by
    obtain ⟨h1, h2⟩ := Asc.cons.1 h
    have hne : e ≠ y := fun q => hn (by simp [q])
    have hnl : e ∉ l := fun q => hn (by simp [q])
    unfold insE
    rw [posE_cons]
    by_cases hy : e.lt y
    · have hz : posE e l = 0 := posE_zero fun z hz q => Ed.lt_asymm (Ed.lt_trans hy (h1 z hz)) q
      rw [if_pos hy, if_neg (fun q => Ed.lt_asymm hy q), hz]
      simp
    · have hye : y.lt e := (Ed.lt_or hne).resolve_left hy
      rw [if_neg hy, if_neg hne, if_pos hye, insE_at h2 hnl, Nat.add_comm 1]
      simp
theorem posE_mem {e : Ed} : ∀ {l : List Ed}, Asc l → e ∈ l → l[posE e l]? = some e
  | [], _, he => by simp at he
  | y :: l, h, he => by
    obtain ⟨h1, h2⟩ := Asc.cons.1 h
    rw [posE_cons]
    rcases List.mem_cons.1 he with rfl | he
    · have hz : posE e l = 0 := posE_zero fun z hz q => Ed.lt_asymm (h1 z hz) q
      rw [if_neg (Ed.lt_irrefl e), hz]; simp
    · rw [if_pos (h1 e he), Nat.add_comm 1, List.getElem?_cons_succ]
      exact posE_mem h2 he
theorem mem_posE {e : Ed} {l : List Ed} (h : Asc l) : e ∈ l ↔ l[posE e l]? = some e := ⟨posE_mem h, List.mem_of_getElem?⟩
theorem delE_at {e : Ed} : ∀ {l : List Ed}, Asc l → e ∈ l → delE e l = l.take (posE e l) ++ l.drop (posE e l + 1)
  | [], _, he => by simp at he
  | y :: l, h, he => by
    obtain ⟨h1, h2⟩ := Asc.cons.1 h
    rw [posE_cons]
    rcases List.mem_cons.1 he with rfl | he
    · have hz : posE e l = 0 := posE_zero fun z hz q => Ed.lt_asymm (h1 z hz) q
      have hn : e ∉ l := fun q => Ed.lt_irrefl e (h1 e q)
      rw [if_neg (Ed.lt_irrefl e), hz]
      have : delE e (e :: l) = delE e l := by simp [delE]
      rw [this, delE_not hn]; simp
    · have hye := h1 e he
      have hne : y ≠ e := fun q => Ed.lt_irrefl e (q ▸ hye)
      rw [if_pos hye, Nat.add_comm 1]
      have : delE e (y :: l) = y :: delE e l := by simp [delE, hne]
      rw [this, delE_at h2 he]; simp
theorem length_insE {e : Ed} {l : List Ed} (h : Asc l) (hn : e ∉ l) : (insE e l).length = l.length + 1 := by
  rw [insE_at h hn]
  have := posE_le e l
  simp; omega
theorem length_delE {e : Ed} {l : List Ed} (h : Asc l) (he : e ∈ l) : (delE e l).length + 1 = l.length := by
  have h1 := posE_mem h he
  have h2 : posE e l < l.length := (List.getElem?_eq_some_iff.1 h1).1
  rw [delE_at h he]
  simp; omega
/-- the edges from a node, to a node -/
def outE (l : List Ed) (i : Nat) : List Ed := l.filter fun x => decide (x.f = (i : Int))
def inE (l : List Ed) (i : Nat) : List Ed := l.filter fun x => decide (x.t = (i : Int))
theorem mem_outE {l : List Ed} {i : Nat} {x : Ed} : x ∈ outE l i ↔ x ∈ l ∧ x.f = (i : Int) := by simp [outE]
theorem mem_inE {l : List Ed} {i : Nat} {x : Ed} : x ∈ inE l i ↔ x ∈ l ∧ x.t = (i : Int) := by simp [inE]
theorem Asc.out {l : List Ed} (h : Asc l) (i : Nat) : Asc (outE l i) := h.filter _
theorem Asc.inn {l : List Ed} (h : Asc l) (i : Nat) : Asc (inE l i) := h.filter _
theorem outE_ins {l : List Ed} (h : Asc l) {e : Ed} {i : Nat} : outE (insE e l) i = if e.f = (i : Int) then insE e (outE l i) else outE l i := by
  split
  · rename_i he
    refine Asc.same (h.ins.out i) (h.out i).ins fun x => ?_
    rw [mem_outE, mem_insE, mem_insE, mem_outE]
    constructor
    · rintro ⟨q | q, r⟩
      · exact .inl q
      · exact .inr ⟨q, r⟩
    · rintro (rfl | ⟨q, r⟩)
      · exact ⟨.inl rfl, he⟩
      · exact ⟨.inr q, r⟩
  · rename_i he
    refine Asc.same (h.ins.out i) (h.out i) fun x => ?_
    rw [mem_outE, mem_insE, mem_outE]
    constructor
    · rintro ⟨q | q, r⟩
      · subst q; exact absurd r he
      · exact ⟨q, r⟩
    · rintro ⟨q, r⟩
      exact ⟨.inr q, r⟩
theorem inE_ins {l : List Ed} (h : Asc l) {e : Ed} {i : Nat} : inE (insE e l) i = if e.t = (i : Int) then insE e (inE l i) else inE l i := by
  split
  · rename_i he
    refine Asc.same (h.ins.inn i) (h.inn i).ins fun x => ?_
    rw [mem_inE, mem_insE, mem_insE, mem_inE]
    constructor
    · rintro ⟨q | q, r⟩
      · exact .inl q
      · exact .inr ⟨q, r⟩
    · rintro (rfl | ⟨q, r⟩)
      · exact ⟨.inl rfl, he⟩
      · exact ⟨.inr q, r⟩
  · rename_i he
    refine Asc.same (h.ins.inn i) (h.inn i) fun x => ?_
    rw [mem_inE, mem_insE, mem_inE]
    constructor
    · rintro ⟨q | q, r⟩
      · subst q; exact absurd r he
      · exact ⟨q, r⟩
    · rintro ⟨q, r⟩
      exact ⟨.inr q, r⟩
theorem outE_del {l : List Ed} (h : Asc l) {e : Ed} {i : Nat} : outE (delE e l) i = delE e (outE l i) := by
  refine Asc.same (h.del.out i) (h.out i).del fun x => ?_
  rw [mem_outE, mem_delE, mem_delE, mem_outE]
  constructor
  · rintro ⟨⟨a, b⟩, c⟩; exact ⟨⟨a, c⟩, b⟩
  · rintro ⟨⟨a, b⟩, c⟩; exact ⟨⟨a, c⟩, b⟩
theorem inE_del {l : List Ed} (h : Asc l) {e : Ed} {i : Nat} : inE (delE e l) i = delE e (inE l i) := by
  refine Asc.same (h.del.inn i) (h.inn i).del fun x => ?_
  rw [mem_inE, mem_delE, mem_delE, mem_inE]
  constructor
  · rintro ⟨⟨a, b⟩, c⟩; exact ⟨⟨a, c⟩, b⟩
  · rintro ⟨⟨a, b⟩, c⟩; exact ⟨⟨a, c⟩, b⟩
theorem delE_outE_other {l : List Ed} {e : Ed} {i : Nat} (h : e.f ≠ (i : Int)) : delE e (outE l i) = outE l i := delE_not fun q => h (mem_outE.1 q).2
theorem delE_inE_other {l : List Ed} {e : Ed} {i : Nat} (h : e.t ≠ (i : Int)) : delE e (inE l i) = inE l i := delE_not fun q => h (mem_inE.1 q).2
/-- the rows of edges from nodes, one behind the other -/
def catE (l : List Ed) (n : Nat) : List Ed := (List.range n).flatMap (outE l)
theorem catE_succ (l : List Ed) (n : Nat) : catE l (n + 1) = catE l n ++ outE l n := by simp [catE, List.range_succ]
theorem mem_catE {l : List Ed} {n : Nat} {x : Ed} : x ∈ catE l n ↔ x ∈ l ∧ 0 ≤ x.f ∧ x.f < (n : Int) := by
  unfold catE
  rw [List.mem_flatMap]
  constructor
  · rintro ⟨i, hi, hx⟩
    have := List.mem_range.1 hi
    obtain ⟨h1, h2⟩ := mem_outE.1 hx
    exact ⟨h1, by omega, by omega⟩
  · rintro ⟨h1, h2, h3⟩
    exact ⟨x.f.toNat, List.mem_range.2 (by omega), mem_outE.2 ⟨h1, by omega⟩⟩
theorem Asc.cat {l : List Ed} (h : Asc l) : ∀ n, Asc (catE l n)
  | 0 => by simp [catE, Asc]
  | n + 1 => by
    rw [catE_succ]
    refine List.pairwise_append.2 ⟨h.cat n, h.out n, fun a ha b hb => ?_⟩
    have h1 := mem_catE.1 ha
    have h2 := mem_outE.1 hb
    exact .inl (by omega)
theorem catE_all {l : List Ed} (h : Asc l) {n : Nat} (hb : ∀ x ∈ l, 0 ≤ x.f ∧ x.f < (n : Int)) : catE l n = l :=
  Asc.same (h.cat n) h fun x => by rw [mem_catE]; exact ⟨fun q => q.1, fun q => ⟨q, hb x q⟩⟩
#print axioms catE_all
end Go.Proofs.Yteafkafkbipcmaa
