/- Slices of ints and of truths, of a call's own and not: plain lemmas, and alibikit.SameInts: for every seat. -/
import Derived.Test.YtddpdjbgidmdlaaHeap
import Derived.Test.YtddpdjbgidmdlaaProg
import Derived.KernelRfl
import Derived.IntWalk
namespace Go.Proofs.Ytddpdjbgidmdlaa
open Go.RowKit
set_option linter.unusedVariables false

theorem info_int : (Try.prog.info? 3).map (fun i => (i.zero, i.size, i.bytes)) = some (some (.int .i64 0), 1, 8) := by kernel_rfl
theorem info_bool : (Try.prog.info? 4).map (fun i => (i.zero, i.size, i.bytes)) = some (some (.bool false), 1, 1) := by kernel_rfl
/-- A row of ints of the call's own. -/
def OwnI (w : World) (base : Nat) (v : Value) (l : List Int) : Prop := w.ownsRow base 3 1 v l.length (ints l)
theorem OwnI.ints {w : World} {base : Nat} {v : Value} {l : List Int} (h : OwnI w base v l) : IntsV w (Iv base w.heap.size) v l := SlV.ofOwns h
theorem OwnI.fx {S : Nat → Prop} {w w1 : World} {base : Nat} {v : Value} {l : List Int} (h : OwnI w base v l) (hf : Fx S w w1) (hn : ∀ k, v.ownBlock = some k → ¬ S k) : OwnI w1 base v l := ownsRow_fx h hf hn
theorem OwnI.nil (w : World) (base : Nat) : OwnI w base (.slice none 0 0) [] := World.ownsRow_nil _ _ _ _
theorem IntsV.mono {w : World} {D T : Nat → Prop} {v : Value} {l : List Int} (h : IntsV w D v l) (hd : ∀ k, D k → T k) : IntsV w T v l := SlV.mono h hd
theorem IntsV.no {w w1 : World} {D : Nat → Prop} {v : Value} {l : List Int} (h : IntsV w D v l) (hf : Fx No w w1) : IntsV w1 D v l := h.keep hf No.disj
theorem IntsV.bound {w : World} {D : Nat → Prop} {v : Value} {l : List Int} (h : IntsV w D v l) : IntsV w (fun k => D k ∧ k < w.heap.size) v l := SlV.bound h
/-- what is made after a world -/
def Up (w : World) : Nat → Prop := fun k => w.heap.size ≤ k
theorem Fx.up {w0 w w1 : World} (h : Fx No w0 w) (k : Fx (Up w0) w w1) : Fx No w0 w1 := h.trans' k fun j hj hl => by
  unfold Up at hj; omega
/-- a literal slice is new -/
theorem SlV.new (w : World) (e : TypeId) (cs : Array Value) (size n : Nat) (h : cs.size = n * size) (hn : n ≤ maxLen) :
    SlV (w.alloc (.cells cs e)) (Up w) (.slice (some ⟨w.heap.size, 0, none⟩) n n) size n cs.toList := by
  refine ⟨_, n, rfl, Nat.le_refl _, hn, by simpa using h, by simp, .inr ⟨w.heap.size, 0, rfl, Nat.le_refl _, fun i hi => ?_⟩⟩
  have hi' : i < cs.size := by simpa using hi
  simp [hi']
/-- a literal slice of integers -/
theorem ints_lit (w : World) (l : List Int) (h : l.length ≤ maxLen) :
    IntsV (w.alloc (.cells (ints l).toArray 3)) (Iv w.heap.size (w.heap.size + 1)) (.slice (some ⟨w.heap.size, 0, none⟩) l.length l.length) l := by
  refine ⟨_, l.length, rfl, Nat.le_refl _, h, by simp [ints], by simp, .inr ⟨w.heap.size, 0, rfl, ⟨Nat.le_refl _, Nat.lt_succ_self _⟩, fun i hi => ?_⟩⟩
  have hi' : i < l.length := by simpa [ints] using hi
  simp [ints, hi']
def zeroInts (k : Nat) : Array Value := Array.replicate k (.int .i64 0)
theorem makeInts {E : Int} {k : Nat} (h0 : 0 ≤ E) (h1 : E ≤ 1000000) (hk : E.toNat = k) (w : World) :
    (Instr.makeSlice 29 (.int .i64 E) (.int .i64 E)).run Try.prog w = .ok (.slice (some ⟨w.heap.size, 0, none⟩) k k) (w.alloc (.cells (zeroInts k) 3)) := by
  obtain ⟨i, hi, hz, hs, hb⟩ := info_parts info_int
  have := run_make (P := Try.prog) w 29 3 i _ Try.underlying29 hi hz .i64 .i64 E E h0 (Int.le_refl _) (by rw [hb]; omega) (by omega)
  rw [this, hk, hs]
  have e : madeCells (Value.int .i64 0).cells (k * 1) = zeroInts k := by
    apply Array.ext'
    rw [show (Value.int .i64 0).cells = #[.int .i64 0] from rfl, toList_madeCells_one]
    simp [zeroInts]
  rw [e]
theorem ownI_made (w : World) (base n : Nat) (h : n ≤ 1000000) (hb : base ≤ w.heap.size) : OwnI (w.alloc (.cells (zeroInts n) 3)) base (.slice (some ⟨w.heap.size, 0, none⟩) n n) (List.replicate n 0) := by
  have h1 := World.ownsRow_lit (base := base) (e := 3) (size := 1) w (zeroInts n) n hb (by unfold maxLen; omega) (by simp [zeroInts])
  unfold OwnI
  rw [List.length_replicate]
  simpa [zeroInts, ints] using h1
/-! truths -/
def gb (l : List Bool) (k : Nat) : Bool := l.getD k false
def bools (l : List Bool) : List Value := l.map .bool
theorem bools_one (l : List Bool) : One (bools l) := by
  intro u hu
  obtain ⟨_, _, rfl⟩ := List.mem_map.1 hu
  rfl
def OwnB (w : World) (base : Nat) (v : Value) (l : List Bool) : Prop := w.ownsRow base 4 1 v l.length (bools l)
def zeroBools (k : Nat) : Array Value := Array.replicate k (.bool false)
theorem makeBools {E : Int} {k : Nat} (h0 : 0 ≤ E) (h1 : E ≤ 1000000) (hk : E.toNat = k) (w : World) :
    (Instr.makeSlice 55 (.int .i64 E) (.int .i64 E)).run Try.prog w = .ok (.slice (some ⟨w.heap.size, 0, none⟩) k k) (w.alloc (.cells (zeroBools k) 4)) := by
  obtain ⟨i, hi, hz, hs, hb⟩ := info_parts info_bool
  have := run_make (P := Try.prog) w 55 4 i _ Try.underlying55 hi hz .i64 .i64 E E h0 (Int.le_refl _) (by rw [hb]; omega) (by omega)
  rw [this, hk, hs]
  have e : madeCells (Value.bool false).cells (k * 1) = zeroBools k := by
    apply Array.ext'
    rw [show (Value.bool false).cells = #[.bool false] from rfl, toList_madeCells_one]
    simp [zeroBools]
  rw [e]
theorem ownB_made (w : World) (base n : Nat) (h : n ≤ 1000000) (hb : base ≤ w.heap.size) : OwnB (w.alloc (.cells (zeroBools n) 4)) base (.slice (some ⟨w.heap.size, 0, none⟩) n n) (List.replicate n false) := by
  have h1 := World.ownsRow_lit (base := base) (e := 4) (size := 1) w (zeroBools n) n hb (by unfold maxLen; omega) (by simp [zeroBools])
  unfold OwnB
  rw [List.length_replicate]
  simpa [zeroBools, bools] using h1
theorem OwnB.at {w : World} {base g n cap : Nat} {l : List Bool} (h : OwnB w base (.slice (some ⟨g, 0, none⟩) n cap) l) {k : Nat} (hk : k < l.length) : w.cell? ⟨g, k, none⟩ = some (.bool (gb l k)) ∧ w.frozen? ⟨g, k, none⟩ = false := by
  unfold OwnB at h
  refine ⟨?_, World.ownsRow.frozenAt (by have := h.2; rcases this with ⟨h1, _⟩ | ⟨g', c', cur, h1, _⟩; simp at h1; simp only [Value.slice.injEq] at h1; obtain ⟨_, e, _⟩ := h1; rw [← e] at h; exact h) k⟩
  have h2 := h.cells (g := g) rfl k (.bool (gb l k)) (by simp [bools, gb, hk])
  rw [Addr.add_lit, Nat.zero_add] at h2
  exact h2
#print axioms ownB_made
theorem gi_ext {a b : List Int} (h : a.length = b.length) (hg : ∀ k, k < a.length → gi a k = gi b k) : a = b := by
  apply List.ext_getElem h
  intro k h1 h2
  have := hg k h1
  simpa [gi, h1, h2] using this
theorem sameInts_any {w : World} {D E : Nat → Prop} {v u : Value} {a b : List Int} (h : IntsV w D v a) (h' : IntsV w E u b) :
    Calls Try.prog 22 #[v, u] w fun e w' => e = .returned (.bool (a == b)) ∧ Fx No w w' := by
  obtain ⟨ao, cap, rfl, hal, hc⟩ := h.facts
  obtain ⟨bo, bcap, rfl, hbl, hc'⟩ := h'.facts
  have HC := Lib.hid hc
  have HC' := Lib.hid hc'
  clear h h' hc hc'
  by_cases hl : a.length = b.length
  · have hn : ((a.length : Int) != (b.length : Int)) = false := by rw [hl]; simp
    have HL := Lib.hid hl
    clear hl
    go_enter Try.func22, Try.ntmps22
    go_wp2
    go_loopw [5] (fun i wr => ∃ k : Nat, k ≤ a.length ∧ i = .int .i64 k ∧ (∀ j, j < k → gi a j = gi b j) ∧ Fx No w wr) (fun i _ => a.length - (intOf i).toNat)
    case atStart => exact ⟨0, Nat.zero_le _, rfl, fun j hj => by omega, Fx.refl _ _⟩
    case round =>
      obtain ⟨k, hk, rfl, hq, hf⟩ := hrel
      have HQ := Lib.hid hq
      have HF := Lib.hid hf
      clear hq hf
      by_cases hlt : k < a.length
      · obtain ⟨b1, o1, rfl, _, hcell1⟩ := HC.out k hlt
        obtain ⟨b2, o2, rfl, _, hcell2⟩ := HC'.out k (by rw [← HL.out]; exact hlt)
        have h1 := HF.out.cell' hcell1 (fun h => h)
        have h2 := HF.out.cell' hcell2 (fun h => h)
        have hlt2 : (k : Int) < (b.length : Int) := by rw [← HL.out]; omega
        clear hcell1 hcell2
        by_cases he : gi a k = gi b k
        · have hd : (gi a k != gi b k) = false := by simpa using he
          have HE := Lib.hid he
          clear he
          go_wp2
          go_quiet (fail)
          go_wp2
          go_roundw
          case rel => exact ⟨k + 1, by omega, by go_num, fun j hj => by
            by_cases e : j = k
            · subst e; exact HE.out
            · exact HQ.out j (by omega), HF.out.drewN _⟩
          case measure => simp [intOf]; omega
        · have hd : (gi a k != gi b k) = true := by simpa using he
          have HB : Hid ((a == b) = false) := by
            show (a == b) = false
            rw [beq_eq_false_iff_ne]
            rintro rfl
            exact he rfl
          clear he
          go_wp2
          go_quiet (fail)
          go_wp2
          go_ret
          exact ⟨by rw [HB.out]; rfl, HF.out.drewN _⟩
      · have HB : Hid ((a == b) = true) := by
          show (a == b) = true
          rw [beq_iff_eq]
          exact gi_ext HL.out fun j hj => HQ.out j (by omega)
        go_wp2
        go_ret
        exact ⟨by rw [HB.out]; rfl, HF.out⟩
  · have hn : ((a.length : Int) != (b.length : Int)) = true := by simp; omega
    have HB : Hid ((a == b) = false) := by
      show (a == b) = false
      rw [beq_eq_false_iff_ne]
      rintro rfl
      exact hl rfl
    clear hl
    go_enter Try.func22, Try.ntmps22
    go_wp2
    go_ret
    exact ⟨by rw [HB.out]; rfl, Fx.refl _ _⟩
end Go.Proofs.Ytddpdjbgidmdlaa
