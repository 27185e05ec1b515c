/- Contract: perm.New. -/
import Derived.Test.YtddpdjbgidmdlaaRel
import Derived.Test.YtddpdjbgidmdlaaWalkF
namespace Go.Proofs.Ytddpdjbgidmdlaa
open Go.RowKit
set_option linter.unusedVariables false

theorem OwnI.own {w : World} {base : Nat} {v : Value} {l : List Int} (h : OwnI w base v l) : IntsV w (fun b => v.ownBlock = some b) v l := by
  by_cases h0 : 0 < l.length
  · obtain ⟨g, cap, rfl, h1, h2, h3, h4⟩ := h.place h0
    exact IntsV.ofCells rfl h3 h4 fun h0 => ⟨rfl, (h.ints.part.2.2.2 h0).2⟩
  · have : l = [] := List.eq_nil_of_length_eq_zero (by omega)
    subst this
    obtain ⟨ao, c, h1, h2, h3, h4, h5, h6⟩ := h.ints
    exact ⟨ao, c, h1, h2, h3, h4, h5, .inl rfl⟩
theorem relS_of {w0 w : World} {n r bB aB : Nat} {V : Nat → Value} {ps : List (Int × Int)} {A : Nat → Int} (h : RelP w0 w n r bB aB V ps A) (hok : PsOk ps n) (hl : ps.length ≤ 100000) (hn : n ≤ 100000) :
    RelS w ⟨n, r, bB, aB, fun b => w0.heap.size ≤ b ∧ b < w.heap.size ∧ b ≠ aB, ps⟩ := by
  refine ⟨h.r0, h.r1, h.r2, fun i hi => ⟨V i, (h.bh i hi).1, (OwnI.own (h.bh i hi).2.2).mono fun b hb => ?_⟩, ⟨h.lo.1, h.hi.1, h.ne2⟩, ⟨h.lo.2.1, h.hi.2.1, h.ne3⟩, fun hd => hd.2.2 rfl, hok, hl, hn⟩
  have := OwnI.lt (h.bh i hi).2.2 hb
  exact ⟨this.1, this.2, (h.sep i b hi hb).2.2.1⟩
theorem heaps2 (w : World) (a b : Obj) : ((w.alloc a).alloc b).heap[w.heap.size]? = some a ∧ ((w.alloc a).alloc b).heap[w.heap.size + 1]? = some b := by
  have ea := heap_alloc_new w a
  have eb := heap_alloc_new (w.alloc a) b
  simp only [World.size_alloc] at eb
  exact ⟨by rw [Below.heap_alloc _ _ _ (by simp)]; exact ea, eb⟩
theorem walk_start {w0 w : World} {n r bB aB : Nat} {V : Nat → Value} {ps : List (Int × Int)} (h : RelP w0 w n r bB aB V ps (fun j => ((ahN ps [] (j : Int) : Nat) : Int))) (hok : PsOk ps n) (hl : ps.length ≤ 100000) (hn : n ≤ 100000) :
    WalkS ((w.alloc (.cells (zeroBools n) 4)).alloc (.cells #[.pointer (some ⟨r, 0, none⟩), .slice none 0 0, .slice (some ⟨w.heap.size, 0, none⟩) n n, .bool false, .bool false] 57))
      { toWC := ⟨n, r, bB, aB, fun b => w0.heap.size ≤ b ∧ b < w.heap.size ∧ b ≠ aB, ps⟩, wk := w.heap.size + 1, iB := w.heap.size } (.slice none 0 0) [] false false := by
  obtain ⟨e1, e2⟩ := heaps2 w (.cells (zeroBools n) 4) (.cells #[.pointer (some ⟨r, 0, none⟩), .slice none 0 0, .slice (some ⟨w.heap.size, 0, none⟩) n n, .bool false, .bool false] 57)
  have hf := ((Fx.refl No w).alloc (.cells (zeroBools n) 4)).alloc (.cells #[.pointer (some ⟨r, 0, none⟩), .slice none 0 0, .slice (some ⟨w.heap.size, 0, none⟩) n n, .bool false, .bool false] 57)
  have u3 := h.hi.2.2
  have hc : ∀ j u, (#[.pointer (some ⟨r, 0, none⟩), .slice none 0 0, .slice (some ⟨w.heap.size, 0, none⟩) n n, .bool false, .bool false] : Array Value)[j]? = some u →
      ((w.alloc (.cells (zeroBools n) 4)).alloc (.cells #[.pointer (some ⟨r, 0, none⟩), .slice none 0 0, .slice (some ⟨w.heap.size, 0, none⟩) n n, .bool false, .bool false] 57)).cell? ⟨w.heap.size + 1, j, none⟩ = some u := fun j u hu => by
    rw [cell_of_row _ _ _ _ _ _ e2]; exact hu
  have hz : ∀ j, ((w.alloc (.cells (zeroBools n) 4)).alloc (.cells #[.pointer (some ⟨r, 0, none⟩), .slice none 0 0, .slice (some ⟨w.heap.size, 0, none⟩) n n, .bool false, .bool false] 57)).frozen? ⟨w.heap.size + 1, j, none⟩ = false := fun j => frozen_of_row _ _ _ _ _ e2
  refine ⟨(relS_of h hok hl hn).keep hf No.disj, hc 0 _ rfl, ⟨hc 1 _ rfl, hz 1⟩, hc 2 _ rfl, ⟨hc 3 _ rfl, hz 3⟩, ⟨hc 4 _ rfl, hz 4⟩, OwnI.nil _ _, h.ah.fx hf (fun h => h), fun j hj => ⟨?_, frozen_of_row _ _ _ _ _ e1⟩, List.nodup_nil, fun x hx => by simp at hx,
    fun hd => by have := hd.2.1; simp only at this; omega, fun hd => by have := hd.2.1; simp only at this; omega, by simp only; omega, by simp only; omega, by simp only; omega, fun g e => by simp [Value.ownBlock] at e, fun b hb => ?_, ?_⟩
  · rw [cell_of_row _ _ _ _ _ _ e1]
    have hj' : j < n := hj
    simp [zeroBools, hj']
  · have := hb.2.1
    simp only [World.size_alloc]; omega
  · simp only [World.size_alloc]; omega
/-- what New tells -/
def NewR (n : Int) (ps : List (Int × Int)) (w : World) (e : Ending) (w' : World) : Prop :=
  Fx No w w' ∧ ((mayE n ps ≠ 0 ∧ e = .returned (.tuple #[.pointer none, .int .i64 (mayE n ps)])) ∨
  (mayE n ps = 0 ∧ ∃ (k : WK) (v : Value), e = .returned (.tuple #[.pointer (some ⟨k.wk, 0, none⟩), .int .i64 0]) ∧ k.n = n.toNat ∧ k.ps = ps ∧ (∀ b, Sx k v b ∨ k.D b → w.heap.size ≤ b) ∧
    WalkS w' k v (fillP ps n.toNat []) (decide ((fillP ps n.toNat []).length = n.toNat)) false))
set_option maxHeartbeats 2000000 in
theorem new_any {w : World} {D : Nat → Prop} {v : Value} {ps : List (Int × Int)} (h : PairsV w D v ps) (n : Int) (hps : ps.length ≤ 100000) :
    Calls Try.prog 9 #[.int .i64 n, v] w (NewR n ps w) := by
  have HRel := Lib.hid (related_any h n hps)
  obtain ⟨vo, vc, rfl, _⟩ := h.facts
  by_cases he : mayE n ps = 0
  · obtain ⟨h1, h2, h3⟩ := mayE_zero he
    obtain ⟨N, rfl⟩ := Int.eq_ofNat_of_zero_le h1
    have hok : PsOk ps N := fun q hq => by
      have := h3 q hq
      simp only [pOk, decide_eq_true_eq] at this
      omega
    have HOk := Lib.hid hok
    have HE := Lib.hid he
    have HPs := Lib.hid hps
    have hN : N ≤ 4096 := by omega
    have hm := makeBools (E := (N : Int)) (k := N) (by omega) (by omega) (by omega)
    clear h3 hok he h1 hps h
    go_enter Try.func9, Try.ntmps9
    go_wp2_with fail
    refine HRel.out.mono ?_
    rintro e w1 (⟨h1, _⟩ | ⟨_, r, bB, aB, V, rfl, hR⟩)
    · exact absurd HE.out h1
    · rw [Int.toNat_natCast] at hR
      have HR := Lib.hid hR
      clear hR
      have hne0 : ((0 : Int) != 0) = false := by simp
      go_wp2_with fail
      have hst := walk_start HR.out HOk.out HPs.out (by omega)
      have hf2 : Fx No w ((w1.alloc (.cells (zeroBools N) 4)).alloc (.cells #[.pointer (some ⟨r, 0, none⟩), .slice none 0 0, .slice (some ⟨w1.heap.size, 0, none⟩) N N, .bool false, .bool false] 57)) := ((HR.out.fx).alloc _).alloc _
      have hw1 := HR.out.fx.size
      obtain ⟨l1, l2, l3⟩ := HR.out.lo
      have HLo : Hid (∀ b, Sx { toWC := ⟨N, r, bB, aB, fun b => w.heap.size ≤ b ∧ b < w1.heap.size ∧ b ≠ aB, ps⟩, wk := w1.heap.size + 1, iB := w1.heap.size } (.slice none 0 0) b ∨ (w.heap.size ≤ b ∧ b < w1.heap.size ∧ b ≠ aB) → w.heap.size ≤ b) := by
        rintro b ((hb | hb | hb | hb) | hb)
        · simp only at hb; omega
        · simp only at hb; omega
        · simp only at hb; omega
        · simp [Value.ownBlock] at hb
        · exact hb.1
      have HSt := Lib.hid hst
      have HF2 := Lib.hid hf2
      clear hst hf2
      refine (fill_any HSt.out).mono ?_
      rintro e w3 ⟨rfl, hf3, v3, hW3, hb3⟩
      obtain ⟨ao, rc, hv, _⟩ := hW3.own.ints.facts
      obtain ⟨c1a, c1b⟩ := hW3.c1
      obtain ⟨c3a, c3b⟩ := hW3.c3
      rw [hv] at c1a
      have HV := Lib.hid hv
      have HW3 := Lib.hid hW3
      have hsz3 := hf3.size
      simp only [World.size_alloc] at hsz3
      have HF3 : Hid (Fx No w w3) := HF2.out.trans' hf3 fun j hj hl => by have := HLo.out j (.inl hj); omega
      have HB3 : Hid (∀ g, v3.ownBlock = some g → w.heap.size ≤ g) := fun g e => by
        rcases hb3 g e with h | h
        · simp [Value.ownBlock] at h
        · simp only [World.size_alloc] at h; omega
      obtain ⟨rl, hrl⟩ : ∃ l, l = (fillP ps N []).length := ⟨_, rfl⟩
      have c1a : w3.cell? ⟨w1.heap.size + 1, 1, none⟩ = some (.slice ao rl rc) := by rw [hrl]; exact c1a
      have HRl := Lib.hid hrl
      clear hf3 hW3 hb3 hv hrl
      go_wp2
      go_ret2
      have hq : (((fillP ps N []).length : Int) == (N : Int)) = decide ((fillP ps N []).length = N) := by
        rw [Bool.eq_iff_iff, beq_iff_eq, decide_eq_true_iff]; omega
      obtain ⟨hf9, hW9⟩ := HW3.out.setAny (decide ((fillP ps N []).length = N))
      refine ⟨HF3.out.setCell (.inl (by simp only; omega)) _, .inr ⟨HE.out, { toWC := ⟨N, r, bB, aB, fun b => w.heap.size ≤ b ∧ b < w1.heap.size ∧ b ≠ aB, ps⟩, wk := w1.heap.size + 1, iB := w1.heap.size }, v3, rfl, (Int.toNat_natCast N).symm, rfl, ?_, ?_⟩⟩
      · rintro b ((hb | hb | hb | hb) | hb)
        · exact HLo.out b (.inl (.inl hb))
        · exact HLo.out b (.inl (.inr (.inl hb)))
        · exact HLo.out b (.inl (.inr (.inr (.inl hb))))
        · exact HB3.out b hb
        · exact hb.1
      · rw [Int.toNat_natCast]
        first | exact hW9 | (rw [hq]; exact hW9)
  · have HE := Lib.hid he
    have hne : (mayE n ps != 0) = true := by simpa using he
    obtain ⟨z, hz⟩ : ∃ z, z = mayE n ps := ⟨_, rfl⟩
    rw [← hz] at hne
    have HZ := Lib.hid hz
    clear he hz h
    go_enter Try.func9, Try.ntmps9
    go_wp2_with fail
    refine HRel.out.mono ?_
    rintro e w1 (⟨_, rfl, hf⟩ | ⟨h1, _⟩)
    · rw [← HZ.out]
      have HF := Lib.hid hf
      clear hf
      go_wp2
      go_ret2
      exact ⟨HF.out, .inl ⟨HE.out, by rw [← HZ.out]; rfl⟩⟩
    · exact absurd h1 HE.out
#print axioms new_any
end Go.Proofs.Ytddpdjbgidmdlaa
