/- What a call may have done to memory (Fx), slices that read as a list (Sl): plain lemmas over any world, no program in sight. -/
import Derived.WalkKit
import Derived.Lib.Hide
import Derived.BigQuiet
import Derived.Deep.QuietTactic
import Derived.Deep.RegionHeld3
import Derived.Deep.RegionWith
import Derived.WalkSpells
namespace Go.Proofs.Ytpegloapdkfgiaa
open Go.RowKit

/-- Only blocks in S (and new ones) may have turned. -/
structure Fx (S : Nat → Prop) (w w' : World) : Prop where
  os : w'.os = w.os
  tape : w'.tape = w.tape
  output : w'.output = w.output
  size : w.heap.size ≤ w'.heap.size
  block : ∀ k, k < w.heap.size → ¬ S k → w'.heap[k]? = w.heap[k]?

/-- no block -/
def No : Nat → Prop := fun _ => False
/-- the blocks from lo up to hi, hi left out -/
def Iv (lo hi : Nat) : Nat → Prop := fun k => lo ≤ k ∧ k < hi

theorem Iv.disj {lo hi lo' hi' : Nat} (h : hi ≤ lo' ∨ hi' ≤ lo) : ∀ k, Iv lo hi k → ¬ Iv lo' hi' k := by
  intro k ⟨h1, h2⟩ ⟨h3, h4⟩; omega
theorem No.disj {D : Nat → Prop} : ∀ k, D k → ¬ No k := fun _ _ h => h

namespace Fx
variable {S T : Nat → Prop} {w w1 w2 : World}
theorem refl (S : Nat → Prop) (w : World) : Fx S w w := ⟨rfl, rfl, rfl, Nat.le_refl _, fun _ _ _ => rfl⟩
theorem trans (h : Fx S w w1) (k : Fx S w1 w2) : Fx S w w2 :=
  ⟨k.os.trans h.os, k.tape.trans h.tape, k.output.trans h.output, Nat.le_trans h.size k.size,
    fun i hi hn => (k.block i (Nat.lt_of_lt_of_le hi h.size) hn).trans (h.block i hi hn)⟩
theorem mono (h : Fx S w w1) (hs : ∀ k, k < w.heap.size → S k → T k) : Fx T w w1 :=
  ⟨h.os, h.tape, h.output, h.size, fun i hi hn => h.block i hi fun hS => hn (hs i hi hS)⟩
/-- behind an effect on what is new since w -/
theorem trans' (h : Fx S w w1) (k : Fx T w1 w2) (hT : ∀ j, T j → j < w.heap.size → S j) : Fx S w w2 :=
  ⟨k.os.trans h.os, k.tape.trans h.tape, k.output.trans h.output, Nat.le_trans h.size k.size,
    fun i hi hn => (k.block i (Nat.lt_of_lt_of_le hi h.size) fun ht => hn (hT i ht hi)).trans (h.block i hi hn)⟩
theorem no (h : Fx No w w1) : Fx S w w1 := h.mono fun _ _ hf => hf.elim
theorem transNo (h : Fx S w w1) (k : Fx No w1 w2) : Fx S w w2 := h.trans k.no
theorem alloc (h : Fx S w w1) (o : Obj) : Fx S w (w1.alloc o) :=
  h.trans ⟨rfl, rfl, rfl, by simp, fun k hk _ => Below.heap_alloc _ _ _ hk⟩
theorem drew (h : Fx S w w1) : Fx S w w1.drew := ⟨h.os, h.tape, h.output, h.size, h.block⟩
theorem drewN (h : Fx S w w1) (n : Nat) : Fx S w (w1.drewN n) := ⟨h.os, h.tape, h.output, h.size, h.block⟩
theorem setCell (h : Fx S w w1) {a : Addr} (ha : w.heap.size ≤ a.block ∨ S a.block) (v : Value) : Fx S w (w1.setCell a v) :=
  h.trans' (T := fun k => k = a.block) ⟨rfl, rfl, rfl, by simp [World.setCell], fun k _ hn => Below.heap_setCell _ _ _ _ hn⟩
    (by rintro j rfl hj; rcases ha with ha | ha; omega; exact ha)
theorem put (w : World) (b o : Nat) (v : Value) : Fx (fun j => j = b) w (w.setCell ⟨b, o, none⟩ v) :=
  ⟨rfl, rfl, rfl, by simp [World.setCell], fun k _ hn => Below.heap_setCell _ _ _ _ hn⟩
theorem ofGrown {row : Option Nat} (h : w.grownBy w1 row) (hr : ∀ k, row = some k → k < w.heap.size → S k) : Fx S w w1 :=
  ⟨h.os, h.tape, h.output, h.size, fun k hk hn => h.block k hk fun e => hn (hr k e.symm hk)⟩
theorem grown {row : Option Nat} (h : Fx S w w1) (hg : w1.grownBy w2 row) (hr : ∀ k, row = some k → k < w.heap.size → S k) : Fx S w w2 :=
  h.trans' (ofGrown (S := fun k => row = some k) hg fun _ e _ => e) hr
theorem ofBelow (h : Below w.heap.size w w1) : Fx No w w1 := ⟨h.os, h.tape, h.output, h.size, fun k hk _ => h.block k hk⟩
theorem below (h : Fx No w w1) : Below w.heap.size w w1 := ⟨h.os, h.tape, h.output, h.size, fun k hk => h.block k hk fun h => h⟩
theorem belowB (h : Fx S w w1) {B : Nat} (hB : ∀ k, S k → B ≤ k) (hw : B ≤ w.heap.size) : Below B w w1 :=
  ⟨h.os, h.tape, h.output, h.size, fun k hk => h.block k (by omega) fun hs => by have := hB k hs; omega⟩
theorem cell (h : Fx S w w1) {a : Addr} (hk : a.block < w.heap.size) (hn : ¬ S a.block) : w1.cell? a = w.cell? a := World.cell?_of_block (h.block a.block hk hn)
theorem cell' (h : Fx S w w1) {a : Addr} {v : Value} (hv : w.cell? a = some v) (hn : ¬ S a.block) : w1.cell? a = some v :=
  (h.cell (World.block_lt_of_cell? w a hv) hn).trans hv
theorem frozen (h : Fx S w w1) {a : Addr} (hk : a.block < w.heap.size) (hn : ¬ S a.block) : w1.frozen? a = w.frozen? a := World.frozen?_of_block (h.block a.block hk hn)
theorem cellF (h : Fx S w w1) {a : Addr} {v : Value} (hv : w.cell? a = some v) (hz : w.frozen? a = false) (hn : ¬ S a.block) : w1.cell? a = some v ∧ w1.frozen? a = false :=
  ⟨h.cell' hv hn, (h.frozen (World.block_lt_of_cell? w a hv) hn).trans hz⟩
theorem at_ (h : Fx S w w1) {b : Nat} {o : Obj} (hb : w.heap[b]? = some o) (hn : ¬ S b) : w1.heap[b]? = some o :=
  (h.block b (Array.getElem?_eq_some_iff.1 hb).1 hn).trans hb
end Fx

theorem addr_ne {a b : Addr} (h : a.block ≠ b.block) : a ≠ b := fun e => h (congrArg Addr.block e)
/-- D, and what is new since w -/
def DU (D : Nat → Prop) (w w' : World) : Nat → Prop := fun k => D k ∨ Iv w.heap.size w'.heap.size k

theorem ownsRow_fx {S : Nat → Prop} {w w1 : World} {base : Nat} {e : TypeId} {size : Nat} {v : Value} {n : Nat} {xs : List Value} (h : w.ownsRow base e size v n xs) (hf : Fx S w w1)
    (hn : ∀ k, v.ownBlock = some k → ¬ S k) : w1.ownsRow base e size v n xs := by
  refine ⟨h.1, ?_⟩
  rcases h.2 with h2 | ⟨g, cap, cur, rfl, hb, hg, rest⟩
  · exact .inl h2
  · exact .inr ⟨g, cap, cur, rfl, hb, hf.at_ hg (hn g rfl), rest⟩
theorem ownsRow_base {w : World} {base base' : Nat} {e : TypeId} {size : Nat} {v : Value} {n : Nat} {xs : List Value} (h : w.ownsRow base e size v n xs) (hb : base' ≤ base) : w.ownsRow base' e size v n xs := by
  refine ⟨h.1, ?_⟩
  rcases h.2 with h2 | ⟨g, cap, cur, rfl, hb', rest⟩
  · exact .inl h2
  · exact .inr ⟨g, cap, cur, rfl, by omega, rest⟩

/-- A slice's cells, from its address on, read as cs; they lie in a block of D. -/
def Sl (w : World) (D : Nat → Prop) (ao : Option Addr) (cs : List Value) : Prop :=
  cs = [] ∨ ∃ b o, ao = some ⟨b, o, none⟩ ∧ D b ∧ ∀ i, i < cs.length → w.cell? ⟨b, o + i, none⟩ = some (cs.getD i undef)

theorem Sl.nil (w : World) (D : Nat → Prop) (ao : Option Addr) : Sl w D ao [] := .inl rfl
theorem Sl.keep {w w1 : World} {D S : Nat → Prop} {ao : Option Addr} {cs : List Value} (h : Sl w D ao cs) (hf : Fx S w w1) (hd : ∀ k, D k → ¬ S k) : Sl w1 D ao cs := by
  rcases h with h | ⟨b, o, h1, h2, h3⟩
  · exact .inl h
  · exact .inr ⟨b, o, h1, h2, fun i hi => hf.cell' (h3 i hi) (hd b h2)⟩
theorem Sl.mono {w : World} {D T : Nat → Prop} {ao : Option Addr} {cs : List Value} (h : Sl w D ao cs) (hd : ∀ k, D k → T k) : Sl w T ao cs := by
  rcases h with h | ⟨b, o, h1, h2, h3⟩
  · exact .inl h
  · exact .inr ⟨b, o, h1, hd b h2, h3⟩
theorem Sl.addr {w : World} {D : Nat → Prop} {ao : Option Addr} {cs : List Value} (h : Sl w D ao cs) (hc : 0 < cs.length) :
    ∃ b o, ao = some ⟨b, o, none⟩ ∧ D b ∧ ∀ i, i < cs.length → w.cell? ⟨b, o + i, none⟩ = some (cs.getD i undef) := by
  rcases h with rfl | h
  · simp at hc
  · exact h
/-- what is owned reads so -/
theorem Sl.ofOwns {w : World} {base : Nat} {e : TypeId} {size : Nat} {ao : Option Addr} {k cap n : Nat} {xs : List Value} (h : w.ownsRow base e size (.slice ao k cap) n xs) :
    Sl w (Iv base w.heap.size) ao xs := by
  have h' := h
  obtain ⟨h1, h2⟩ := h
  rcases h2 with ⟨h2, rfl⟩ | ⟨g, c, cur, hv, hb, hh, h3, h4, h5, h6⟩
  · exact .inl (List.eq_nil_of_length_eq_zero (by simpa using h1))
  · simp only [Value.slice.injEq] at hv
    obtain ⟨rfl, rfl, rfl⟩ := hv
    refine .inr ⟨g, 0, rfl, ⟨hb, (Array.getElem?_eq_some_iff.1 hh).1⟩, fun i hi => ?_⟩
    have := h'.cells (g := g) rfl i (xs[i]) (by simp [hi])
    rw [Addr.add_lit, Nat.zero_add] at this
    simpa [List.getD, hi] using this


/-- A slice value of n elements of so many cells each, that reads as cs. -/
def SlV (w : World) (D : Nat → Prop) (v : Value) (size n : Nat) (cs : List Value) : Prop :=
  ∃ ao cap, v = .slice ao n cap ∧ n ≤ cap ∧ cap ≤ maxLen ∧ cs.length = n * size ∧ (ao = none → cap = 0) ∧ Sl w D ao cs

theorem SlV.keep {w w1 : World} {D S : Nat → Prop} {v : Value} {size n : Nat} {cs : List Value} (h : SlV w D v size n cs) (hf : Fx S w w1) (hd : ∀ k, D k → ¬ S k) : SlV w1 D v size n cs := by
  obtain ⟨ao, cap, h1, h2, h3, h4, h5, h6⟩ := h
  exact ⟨ao, cap, h1, h2, h3, h4, h5, h6.keep hf hd⟩
theorem SlV.mono {w : World} {D T : Nat → Prop} {v : Value} {size n : Nat} {cs : List Value} (h : SlV w D v size n cs) (hd : ∀ k, D k → T k) : SlV w T v size n cs := by
  obtain ⟨ao, cap, h1, h2, h3, h4, h5, h6⟩ := h
  exact ⟨ao, cap, h1, h2, h3, h4, h5, h6.mono hd⟩
theorem SlV.bound {w : World} {D : Nat → Prop} {v : Value} {size n : Nat} {cs : List Value} (h : SlV w D v size n cs) : SlV w (fun k => D k ∧ k < w.heap.size) v size n cs := by
  obtain ⟨ao, cap, h1, h2, h3, h4, h5, h6⟩ := h
  refine ⟨ao, cap, h1, h2, h3, h4, h5, ?_⟩
  rcases h6 with h6 | ⟨b, o, h6, h7, h8⟩
  · exact .inl h6
  · cases cs with
    | nil => exact .inl rfl
    | cons c cs => exact .inr ⟨b, o, h6, ⟨h7, World.block_lt_of_cell? w _ (h8 0 (by simp))⟩, h8⟩
theorem SlV.nil (w : World) (D : Nat → Prop) (size : Nat) : SlV w D (.slice none 0 0) size 0 [] := ⟨none, 0, rfl, Nat.le_refl _, Nat.zero_le _, by simp, fun _ => rfl, .inl rfl⟩
theorem SlV.ofOwns {w : World} {base : Nat} {e : TypeId} {size : Nat} {v : Value} {n : Nat} {xs : List Value} (h : w.ownsRow base e size v n xs) : SlV w (Iv base w.heap.size) v size n xs := by
  have h' := h
  obtain ⟨h1, h2⟩ := h
  rcases h2 with ⟨rfl, rfl⟩ | ⟨g, c, cur, rfl, hb, hh, h3, h4, h5, h6⟩
  · obtain rfl := List.eq_nil_of_length_eq_zero (by simpa using h1 : xs.length = 0)
    exact SlV.nil _ _ _
  · exact ⟨_, c, rfl, h3, h4, h1, by simp, Sl.ofOwns h'⟩
theorem Sl.cells {w : World} {D : Nat → Prop} {a : Addr} {cs : List Value} (h : Sl w D (some a) cs) : ∀ j u, cs[j]? = some u → w.cell? (a.add j) = some u := by
  intro j u hu
  rcases h with rfl | ⟨b, o, h1, _, h3⟩
  · simp at hu
  · obtain rfl := Option.some.inj h1
    have hj := (List.getElem?_eq_some_iff.1 hu).1
    rw [Addr.add_lit, h3 j hj]
    simp [List.getD, hu]

/-- What the cells of a row hold, each of them one value. -/
def One (cs : List Value) : Prop := ∀ u ∈ cs, u.oneCell' = true

/-- append to a row of the call's own, from whatever slice -/
theorem wpList_append_sl {P : Program} {w : World} {ops : Array Oper} {rest : List Oper} {o : Oper} {a : Act} {Q : Exit → Act → World → Prop} (hgd : o.guard = none) (s x : Operand) (t : TypeId)
    (ho : o.op = .call { callee := .builtin .append, args := #[s, x], argTypes := #[t, t] })
    (base : Nat) (e : TypeId) {i : TypeInfo} {z : Value} {size bytes : Nat} (ht : P.underlying t = some (.slice e)) (hi : P.info? e = some i) (hz : i.zero = some z)
    (hsize : i.size = size) (hby : i.bytes = bytes) (hzs : z.cells.size = size) (hsz : 0 < size)
    {v : Value} {n : Nat} {xs : List Value} (hs : a.eval s = v) (hown : w.ownsRow base e size v n xs)
    {D : Nat → Prop} {u : Value} {m : Nat} {news : List Value} (hx : a.eval x = u) (hsl : SlV w D u size m news) (h1 : One news)
    (h63 : n + m ≤ maxLen) (hbytes : (n + m) * bytes ≤ 140737488355328) (hbase : base ≤ w.heap.size)
    (h : ∀ v' w', w'.ownsRow base e size v' (n + m) (xs ++ news) → Fx (fun k => v.ownBlock = some k) w w' → (v' = .slice none 0 0 ↔ v = .slice none 0 0 ∧ m = 0) → wpList P ops Q rest (a.put o.dst v') w') : wpList P ops Q (o :: rest) a w := by
  obtain ⟨ao, cap, rfl, h2, h3, h4, h5, h6⟩ := hsl
  cases ao with
  | some ad => exact wpList_append_own w hgd s x t ho base e i z size bytes ht hi hz hsize hby hzs hsz v n xs hs hown ad m cap news hx h4 h6.cells h1 h63 hbytes hbase fun v' w' h7 h8 h9 => h v' w' h7 (Fx.ofGrown h8 fun k hk _ => hk) h9
  | none =>
    obtain rfl := h5 rfl
    obtain rfl : m = 0 := by omega
    obtain rfl := List.eq_nil_of_length_eq_zero (by simpa using h4 : news.length = 0)
    refine wpList_plain hgd fun K hK => ?_
    have hrun := run_append_owned_none (P := P) w base t o.type e i size ht hi v n xs hown
    unfold Oper.wp
    simp [execOp, ho, resolve, invoke, builtin, hs, hx, hrun, Result.andThen]
    exact hK _ _ (h v w (by simpa using hown) (Fx.refl _ _) (by simp))

/-! Slices of ints -/
def gi (l : List Int) (k : Nat) : Int := l.getD k 0
def ints (l : List Int) : List Value := l.map (.int .i64)
theorem take_gi {l : List Int} {k : Nat} (h : k < l.length) : l.take (k + 1) = l.take k ++ [gi l k] := by
  rw [List.take_succ_eq_append_getElem h]; simp [gi, h]
theorem gi_mem {l : List Int} {k : Nat} (h : k < l.length) : gi l k ∈ l := by simp [gi, h]
theorem ints_one (l : List Int) : One (ints l) := by
  intro u hu
  obtain ⟨_, _, rfl⟩ := List.mem_map.1 hu
  rfl
def IntsV (w : World) (D : Nat → Prop) (v : Value) (l : List Int) : Prop := SlV w D v 1 l.length (ints l)
theorem IntsV.facts {w : World} {D : Nat → Prop} {v : Value} {l : List Int} (h : IntsV w D v l) : ∃ ao cap, v = .slice ao l.length cap ∧ l.length ≤ 9223372036854775807 ∧
    ∀ k, k < l.length → ∃ b o, ao = some ⟨b, o, none⟩ ∧ D b ∧ w.cell? ⟨b, o + k, none⟩ = some (.int .i64 (gi l k)) := by
  obtain ⟨ao, cap, h1, h2, h3, h4, h5, h6⟩ := h
  unfold maxLen at h3
  refine ⟨ao, cap, h1, by omega, fun k hk => ?_⟩
  obtain ⟨b, o, h7, h8, h9⟩ := h6.addr (by simp [ints]; omega)
  have := h9 k (by simpa [ints] using hk)
  exact ⟨b, o, h7, h8, by rw [this]; simp [ints, gi, hk]⟩
theorem IntsV.keep {w w1 : World} {D S : Nat → Prop} {v : Value} {l : List Int} (h : IntsV w D v l) (hf : Fx S w w1) (hd : ∀ k, D k → ¬ S k) : IntsV w1 D v l := SlV.keep h hf hd

/-- a row that is written out in a new block -/
theorem SlV.lit (w : World) (e : TypeId) (cs : Array Value) (size n : Nat) (h : cs.size = n * size) (hn : n ≤ maxLen) :
    SlV (w.alloc (.cells cs e)) (fun _ => True) (.slice (some ⟨w.heap.size, 0, none⟩) n n) size n cs.toList := by
  refine ⟨_, n, rfl, Nat.le_refl _, hn, by simpa using h, by simp, .inr ⟨w.heap.size, 0, rfl, trivial, fun i hi => ?_⟩⟩
  have hi' : i < cs.size := by simpa using hi
  simp [hi']
/-- what is owned and not empty lies in a block -/
theorem ownsRow_pos {w : World} {base : Nat} {e : TypeId} {size : Nat} {v : Value} {n : Nat} {xs : List Value} (h : w.ownsRow base e size v n xs) (hn : 0 < n) :
    ∃ g cap, v = .slice (some ⟨g, 0, none⟩) n cap ∧ base ≤ g ∧ g < w.heap.size := by
  rcases h.2 with ⟨_, h0⟩ | ⟨g, cap, cur, hv, hb, hg, _⟩
  · omega
  · exact ⟨g, cap, hv, hb, (Array.getElem?_eq_some_iff.1 hg).1⟩

#print axioms IntsV.facts
#print axioms wpList_append_sl
end Go.Proofs.Ytpegloapdkfgiaa
