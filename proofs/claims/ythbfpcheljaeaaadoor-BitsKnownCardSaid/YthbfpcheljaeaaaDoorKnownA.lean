/- The law BitsKnown: what its loop has built: rows of ints, and acts that hold earlier lengths of them. -/
import Derived.Test.YthbfpcheljaeaaaDoorAppend
import Derived.Test.YthbfpcheljaeaaaDoorPlaysA
import Derived.Deep.Slices
namespace Go.Proofs.YthbfpcheljaeaaaDoor
open Go.RowKit
set_option linter.unusedVariables false

structure ActC where
  d : Int
  i : Int
  s : Int
  lv : Value
  mv : Value
  own : Bool
def acells (c : ActC) : List Value := [.int .i64 c.d, .int .i64 c.i, .int .i64 c.s, c.lv, c.mv, .bool c.own]
def actCells (l : List ActC) : List Value := l.flatMap acells
theorem actCells_length : ∀ l : List ActC, (actCells l).length = l.length * 6
  | [] => rfl
  | c :: l => by
    have := actCells_length l
    have e : actCells (c :: l) = acells c ++ actCells l := rfl
    rw [e, List.length_append, this]; simp [acells]; omega
theorem actCells_snoc (l : List ActC) (c : ActC) : actCells (l ++ [c]) = actCells l ++ acells c := by simp [actCells]
def gc (l : List ActC) (k : Nat) : ActC := l.getD k ⟨0, 0, 0, undef, undef, false⟩
theorem actCells_at : ∀ {l : List ActC} {k j : Nat}, k < l.length → j < 6 → (actCells l)[k * 6 + j]? = (acells (gc l k))[j]?
  | [], k, j, h, _ => by simp at h
  | c :: l, 0, j, _, hj => by
    have e : actCells (c :: l) = acells c ++ actCells l := rfl
    rw [e, List.getElem?_append_left (by simp [acells]; omega)]
    simp [gc]
  | c :: l, k + 1, j, h, hj => by
    have ih := actCells_at (l := l) (k := k) (j := j) (by simpa using h) hj
    have e : actCells (c :: l) = acells c ++ actCells l := rfl
    have g : gc (c :: l) (k + 1) = gc l k := by simp [gc]
    rw [e, g, List.getElem?_append_right (by simp [acells]; omega), ← ih]
    congr 1
    simp [acells]; omega
theorem acells_one (c : ActC) (h1 : c.lv.oneCell' = true) (h2 : c.mv.oneCell' = true) : One (acells c) := by
  intro u hu
  simp only [acells, List.mem_cons, List.not_mem_nil, or_false] at hu
  rcases hu with rfl | rfl | rfl | rfl | rfl | rfl <;> first | rfl | assumption

/-- an earlier length of a row: it reads as integers, whatever is appended to the row -/
def LOk (w : World) (own o1 o2 : Option Nat) (n : Nat) (v : Value) : Prop :=
  ∃ g len cap, v = .slice (some ⟨g, 0, none⟩) len cap ∧ 0 < len ∧ len ≤ cap ∧ cap ≤ maxLen ∧ (∀ i, i < len → ∃ z, w.cell? ⟨g, i, none⟩ = some (.int .i64 z)) ∧ (own = some g → len ≤ n) ∧ o1 ≠ some g ∧ o2 ≠ some g
theorem LOk.no {w w' : World} {own o1 o2 : Option Nat} {n : Nat} {v : Value} (h : LOk w own o1 o2 n v) (hf : Fx No w w') : LOk w' own o1 o2 n v := by
  obtain ⟨g, len, cap, h1, h2, h3, h4, h5, h6⟩ := h
  exact ⟨g, len, cap, h1, h2, h3, h4, fun i hi => let ⟨z, hz⟩ := h5 i hi; ⟨z, hf.cell' hz (fun h => h)⟩, h6⟩
theorem LOk.swap {w : World} {own o1 o2 : Option Nat} {n : Nat} {v : Value} (h : LOk w own o1 o2 n v) : LOk w own o2 o1 n v := by
  obtain ⟨g, len, cap, h1, h2, h3, h4, h5, h6, h7, h8⟩ := h
  exact ⟨g, len, cap, h1, h2, h3, h4, h5, h6, h8, h7⟩
theorem LOk.same {w w' : World} {x x' : Value} {o1 o2 : Option Nat} {n : Nat} {v : Value} (h : LOk w x.ownBlock o1 o2 n v) (hk : AppKept w w' x (n * 1)) (hb : ∀ g, x'.ownBlock = some g → x.ownBlock = some g ∨ w.heap.size ≤ g) :
    LOk w' x'.ownBlock o1 o2 (n + 1) v := by
  obtain ⟨g, len, cap, h1, h2, h3, h4, h5, h6, h7, h8⟩ := h
  refine ⟨g, len, cap, h1, h2, h3, h4, fun i hi => ?_, fun e => ?_, h7, h8⟩
  · obtain ⟨z, hz⟩ := h5 i hi
    exact ⟨z, hk _ _ _ hz fun e => by have := h6 e; omega⟩
  · rcases hb g e with e | e
    · have := h6 e; omega
    · obtain ⟨z, hz⟩ := h5 0 h2
      have : g < w.heap.size := World.block_lt_of_cell? w _ hz
      omega
theorem LOk.other {w w' : World} {x x' : Value} {own o2 : Option Nat} {n m : Nat} {v : Value} (h : LOk w own x.ownBlock o2 n v) (hk : AppKept w w' x m) (hb : ∀ g, x'.ownBlock = some g → x.ownBlock = some g ∨ w.heap.size ≤ g) :
    LOk w' own x'.ownBlock o2 n v := by
  obtain ⟨g, len, cap, h1, h2, h3, h4, h5, h6, h7, h8⟩ := h
  refine ⟨g, len, cap, h1, h2, h3, h4, fun i hi => ?_, h6, fun e => ?_, h8⟩
  · obtain ⟨z, hz⟩ := h5 i hi
    exact ⟨z, hk _ _ _ hz fun e => absurd e h7⟩
  · rcases hb g e with e | e
    · exact h7 e
    · obtain ⟨z, hz⟩ := h5 0 h2
      have : g < w.heap.size := World.block_lt_of_cell? w _ hz
      omega
theorem LOk.read {w : World} {own o1 o2 : Option Nat} {n : Nat} {v : Value} (h : LOk w own o1 o2 n v) : ∃ zs, IntsV w (fun _ => True) v zs := by
  obtain ⟨g, len, cap, rfl, h2, h3, h4, h5, _⟩ := h
  obtain ⟨f, hf⟩ := Go.Deep.choose_lt h5
  refine ⟨(List.range len).map f, ?_⟩
  unfold IntsV
  rw [List.length_map, List.length_range]
  refine ⟨_, cap, rfl, h3, h4, by simp [ints], by simp, .inr ⟨g, 0, rfl, trivial, fun i hi => ?_⟩⟩
  have hi' : i < len := by simpa [ints] using hi
  rw [Nat.zero_add, hf i hi']
  simp [ints, hi']
theorem LOk.one {w : World} {own o1 o2 : Option Nat} {n : Nat} {v : Value} (h : LOk w own o1 o2 n v) : v.oneCell' = true := by
  obtain ⟨g, len, cap, rfl, _⟩ := h
  rfl
/-- the row itself, as it stands -/
theorem LOk.self {w : World} {base : Nat} {v : Value} {ll : List Int} {o1 o2 : Option Nat} (h : OwnI w base v ll) (hl : 0 < ll.length) (h1 : ∀ g, v.ownBlock = some g → o1 ≠ some g) (h2 : ∀ g, v.ownBlock = some g → o2 ≠ some g) :
    LOk w v.ownBlock o1 o2 ll.length v := by
  have h' : w.ownsRow base 3 1 v ll.length (ints ll) := h
  rcases h'.2 with ⟨_, h0⟩ | ⟨g, cap, cur, hv, hb, hg, h3, h4, h5, h6⟩
  · omega
  · have hc := h'.cells (g := g) (by rw [hv]; rfl)
    refine ⟨g, ll.length, cap, hv, hl, h3, h4, fun i hi => ⟨gi ll i, ?_⟩, fun _ => Nat.le_refl _, h1 g (by rw [hv]; rfl), h2 g (by rw [hv]; rfl)⟩
    have := hc i (.int .i64 (gi ll i)) (by simp [ints, gi, hi])
    rw [Addr.add_lit, Nat.zero_add] at this
    exact this

/-- what the inner loop has built -/
structure KInv (w : World) (base : Nat) (lv mv av : Value) (p q r : Nat) : Prop where
  l : ∃ ll : List Int, ll.length = p ∧ OwnI w base lv ll
  m : ∃ mm : List Int, mm.length = q ∧ OwnI w base mv mm
  a : ∃ cs : List ActC, cs.length = r ∧ w.ownsRow base 47 6 av r (actCells cs) ∧
    ∀ c ∈ cs, -9223372036854775808 ≤ c.s ∧ LOk w lv.ownBlock mv.ownBlock av.ownBlock p c.lv ∧ LOk w mv.ownBlock lv.ownBlock av.ownBlock q c.mv
  lm : ∀ g, lv.ownBlock = some g → mv.ownBlock ≠ some g
  la : ∀ g, lv.ownBlock = some g → av.ownBlock ≠ some g
  ma : ∀ g, mv.ownBlock = some g → av.ownBlock ≠ some g
theorem KInv.start (w : World) (base : Nat) : KInv w base (.slice none 0 0) (.slice none 0 0) (.slice none 0 0) 0 0 0 :=
  ⟨⟨[], rfl, World.ownsRow_nil _ _ _ _⟩, ⟨[], rfl, World.ownsRow_nil _ _ _ _⟩, ⟨[], rfl, World.ownsRow_nil _ _ _ _, fun c hc => by simp at hc⟩, by simp [Value.ownBlock], by simp [Value.ownBlock], by simp [Value.ownBlock]⟩
theorem KInv.no {w w' : World} {base : Nat} {lv mv av : Value} {p q r : Nat} (h : KInv w base lv mv av p q r) (hf : Fx No w w') : KInv w' base lv mv av p q r := by
  obtain ⟨⟨ll, h1, h2⟩, ⟨mm, h3, h4⟩, ⟨cs, h5, h6, h7⟩, h8, h9, h10⟩ := h
  exact ⟨⟨ll, h1, ownsRow_fx h2 hf (fun _ _ h => h)⟩, ⟨mm, h3, ownsRow_fx h4 hf (fun _ _ h => h)⟩, ⟨cs, h5, ownsRow_fx h6 hf (fun _ _ h => h), fun c hc => ⟨(h7 c hc).1, (h7 c hc).2.1.no hf, (h7 c hc).2.2.no hf⟩⟩, h8, h9, h10⟩
theorem owned_lt {w : World} {base : Nat} {e : TypeId} {size : Nat} {v : Value} {n : Nat} {xs : List Value} (h : w.ownsRow base e size v n xs) {g : Nat} (hg : v.ownBlock = some g) : g < w.heap.size := (World.ownsRow.lt h g hg).2
theorem KInv.stepL {w w' : World} {base : Nat} {lv mv av lv' : Value} {p q r : Nat} {l' : List Int} (h : KInv w base lv mv av p q r) (hl' : l'.length = p + 1)
    (ho : OwnI w' base lv' l') (hf : Fx (fun k => lv.ownBlock = some k) w w') (hk : AppKept w w' lv (p * 1)) (hb : ∀ g, lv'.ownBlock = some g → lv.ownBlock = some g ∨ w.heap.size ≤ g) :
    KInv w' base lv' mv av (p + 1) q r := by
  obtain ⟨⟨ll, h1, h2⟩, ⟨mm, h3, h4⟩, ⟨cs, h5, h6, h7⟩, h8, h9, h10⟩ := h
  refine ⟨⟨l', hl', ho⟩, ⟨mm, h3, ownsRow_fx h4 hf fun k e1 e2 => h8 k e2 e1⟩, ⟨cs, h5, ownsRow_fx h6 hf fun k e1 e2 => h9 k e2 e1, fun c hc => ⟨(h7 c hc).1, (h7 c hc).2.1.same hk hb, (h7 c hc).2.2.other hk hb⟩⟩, ?_, ?_, h10⟩
  · intro g e
    rcases hb g e with e | e
    · exact h8 g e
    · intro e2; have := owned_lt h4 e2; omega
  · intro g e
    rcases hb g e with e | e
    · exact h9 g e
    · intro e2; have := owned_lt h6 e2; omega
theorem KInv.stepM {w w' : World} {base : Nat} {lv mv av mv' : Value} {p q r : Nat} {l' : List Int} (h : KInv w base lv mv av p q r) (hl' : l'.length = q + 1)
    (ho : OwnI w' base mv' l') (hf : Fx (fun k => mv.ownBlock = some k) w w') (hk : AppKept w w' mv (q * 1)) (hb : ∀ g, mv'.ownBlock = some g → mv.ownBlock = some g ∨ w.heap.size ≤ g) :
    KInv w' base lv mv' av p (q + 1) r := by
  obtain ⟨⟨ll, h1, h2⟩, ⟨mm, h3, h4⟩, ⟨cs, h5, h6, h7⟩, h8, h9, h10⟩ := h
  refine ⟨⟨ll, h1, ownsRow_fx h2 hf fun k e1 e2 => h8 k e1 e2⟩, ⟨l', hl', ho⟩, ⟨cs, h5, ownsRow_fx h6 hf fun k e1 e2 => h10 k e2 e1, fun c hc => ⟨(h7 c hc).1, (h7 c hc).2.1.other hk hb, (h7 c hc).2.2.same hk hb⟩⟩, ?_, h9, ?_⟩
  · intro g e e2
    rcases hb g e2 with e3 | e3
    · exact h8 g e e3
    · have := owned_lt h2 e; omega
  · intro g e
    rcases hb g e with e | e
    · exact h10 g e
    · intro e2; have := owned_lt h6 e2; omega
theorem KInv.stepA {w w' : World} {base : Nat} {lv mv av av' : Value} {p q r : Nat} (c : ActC) {cs : List ActC} (h : KInv w base lv mv av p q r) (h5 : cs.length = r)
    (h7 : ∀ c ∈ cs, -9223372036854775808 ≤ c.s ∧ LOk w lv.ownBlock mv.ownBlock av.ownBlock p c.lv ∧ LOk w mv.ownBlock lv.ownBlock av.ownBlock q c.mv) (hp : 0 < p) (hq : 0 < q) (hc1 : c.lv = lv) (hc2 : c.mv = mv) (hs : -9223372036854775808 ≤ c.s)
    (ho : w'.ownsRow base 47 6 av' (r + 1) (actCells cs ++ acells c)) (hf : Fx (fun k => av.ownBlock = some k) w w') (hk : AppKept w w' av (r * 6))
    (hb : ∀ g, av'.ownBlock = some g → av.ownBlock = some g ∨ w.heap.size ≤ g) :
    KInv w' base lv mv av' p q (r + 1) := by
  obtain ⟨⟨ll, h1, h2⟩, ⟨mm, h3, h4⟩, _, h8, h9, h10⟩ := h
  have la : ∀ g, lv.ownBlock = some g → av'.ownBlock ≠ some g := by
    intro g e e2
    rcases hb g e2 with e3 | e3
    · exact h9 g e e3
    · have := owned_lt h2 e; omega
  have ma : ∀ g, mv.ownBlock = some g → av'.ownBlock ≠ some g := by
    intro g e e2
    rcases hb g e2 with e3 | e3
    · exact h10 g e e3
    · have := owned_lt h4 e; omega
  have l' : OwnI w' base lv ll := ownsRow_fx h2 hf fun k e1 e2 => h9 k e1 e2
  have m' : OwnI w' base mv mm := ownsRow_fx h4 hf fun k e1 e2 => h10 k e1 e2
  refine ⟨⟨ll, h1, l'⟩, ⟨mm, h3, m'⟩, ⟨cs ++ [c], by simp [h5], by rw [actCells_snoc]; exact ho, ?_⟩, h8, la, ma⟩
  intro d hd
  rw [List.mem_append] at hd
  rcases hd with hd | hd
  · exact ⟨(h7 d hd).1, ((h7 d hd).2.1.swap.other hk hb).swap, ((h7 d hd).2.2.swap.other hk hb).swap⟩
  · obtain rfl : d = c := by simpa using hd
    rw [hc1, hc2]
    refine ⟨hs, ?_, ?_⟩
    · have := LOk.self l' (by omega) h8 la
      rwa [h1] at this
    · have := LOk.self m' (by omega) (fun g e e2 => h8 g e2 e) ma
      rwa [h3] at this
/-- what it gives to the laws -/
theorem KInv.acts {w : World} {base : Nat} {lv mv av : Value} {p q r : Nat} (h : KInv w base lv mv av p q r) : ∃ xs, ActsV w (fun _ => True) av xs := by
  obtain ⟨_, _, ⟨cs, h5, h6, h7⟩, _, _, _⟩ := h
  have main : ∀ k, k < r → ∃ y : ActM, ∃ b o lv mv, (∃ cap, av = .slice (some ⟨b, o, none⟩) r cap) ∧ ActAt w (fun _ => True) b (o + k * 6) lv mv y := by
    intro k hk
    have hmem : gc cs k ∈ cs := by have : k < cs.length := by omega
                                   simp [gc, this]
    obtain ⟨s1, s2, s3⟩ := h7 _ hmem
    obtain ⟨zl, hl⟩ := s2.read
    obtain ⟨zm, hm⟩ := s3.read
    rcases h6.2 with ⟨_, h0⟩ | ⟨g, cap, cur, hv, _⟩
    · omega
    · have hc := h6.cells (g := g) (by rw [hv]; rfl)
      have at_ : ∀ j u, j < 6 → (acells (gc cs k))[j]? = some u → w.cell? ⟨g, 0 + k * 6 + j, none⟩ = some u := by
        intro j u hj hu
        have := hc (k * 6 + j) u (by rw [actCells_at (by omega) hj]; exact hu)
        rwa [Addr.add_lit, ← Nat.add_assoc] at this
      exact ⟨⟨(gc cs k).d, (gc cs k).i, (gc cs k).s, zl, zm, (gc cs k).own⟩, g, 0, _, _, ⟨cap, hv⟩, ⟨at_ 0 _ (by omega) rfl, at_ 1 _ (by omega) rfl, at_ 2 _ (by omega) rfl, at_ 3 _ (by omega) rfl, at_ 4 _ (by omega) rfl, at_ 5 _ (by omega) rfl, hl, hm, s1⟩⟩
  have hr : r ≤ 9223372036854775807 ∧ ∃ ao cap, av = .slice ao r cap := by
    rcases h6.2 with ⟨rfl, rfl⟩ | ⟨g, cap, cur, hv, _, _, h8, h9, _⟩
    · exact ⟨by omega, _, _, rfl⟩
    · unfold maxLen at h9; exact ⟨by omega, _, _, hv⟩
  obtain ⟨hr1, ao, cap, rfl⟩ := hr
  have : Inhabited ActM := ⟨⟨0, 0, 0, [], [], false⟩⟩
  obtain ⟨f, hf⟩ := Go.Deep.choose_lt main
  refine ⟨(List.range r).map f, ao, cap, by simp, by simpa using hr1, fun k hk => ?_⟩
  have hk' : k < r := by simpa using hk
  obtain ⟨b, o, lv, mv, ⟨c, e⟩, h2⟩ := hf k hk'
  simp only [Value.slice.injEq] at e
  refine ⟨b, o, lv, mv, e.1, trivial, ?_⟩
  have : ga ((List.range r).map f) k = f k := by simp [ga, List.getD, hk']
  rw [this]; exact h2
#print axioms KInv.acts
end Go.Proofs.YthbfpcheljaeaaaDoor
