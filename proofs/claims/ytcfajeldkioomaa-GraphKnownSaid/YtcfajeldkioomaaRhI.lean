/- The law GraphKnown: the rows of acts that it builds, and its walk. -/
import Derived.Test.YtcfajeldkioomaaRhG
import Derived.Test.YtcfajeldkioomaaRgK
import Derived.Test.YtcfajeldkioomaaGNil
namespace Go.Proofs.Ytcfajeldkioomaa
open Go.RowKit
set_option linter.unusedVariables false

/-- the cells of a row of acts -/
def acells (ds : Nat → Int) (vs : Nat → Value) (n : Nat) : List Value := (List.range n).flatMap fun k => [.int .i64 (ds k), vs k]
theorem acells_succ (ds : Nat → Int) (vs : Nat → Value) (n : Nat) : acells ds vs (n + 1) = acells ds vs n ++ [.int .i64 (ds n), vs n] := by simp [acells, List.range_succ]
theorem acells_congr {ds ds' : Nat → Int} {vs vs' : Nat → Value} {n : Nat} (h : ∀ k, k < n → ds k = ds' k ∧ vs k = vs' k) : acells ds vs n = acells ds' vs' n := by
  induction n with
  | zero => rfl
  | succ n ih => rw [acells_succ, acells_succ, ih fun k hk => h k (by omega), (h n (by omega)).1, (h n (by omega)).2]
theorem acells_push (ds : Nat → Int) (vs : Nat → Value) (n : Nat) (d : Int) (v : Value) : acells (upd' ds n d) (upd' vs n v) (n + 1) = acells ds vs n ++ [.int .i64 d, v] := by
  rw [acells_succ, upd'_same, upd'_same]
  rw [acells_congr (ds' := ds) (vs' := vs) fun k hk => ⟨upd'_ne _ _ (by omega), upd'_ne _ _ (by omega)⟩]
theorem acells_length (ds : Nat → Int) (vs : Nat → Value) : ∀ n, (acells ds vs n).length = n * 2
  | 0 => rfl
  | n + 1 => by rw [acells_succ, List.length_append, acells_length ds vs n]; simp; omega
theorem acells_at (ds : Nat → Int) (vs : Nat → Value) : ∀ {n k : Nat}, k < n → (acells ds vs n)[k * 2]? = some (.int .i64 (ds k)) ∧ (acells ds vs n)[k * 2 + 1]? = some (vs k)
  | 0, _, h => by omega
  | n + 1, k, h => by
    rw [acells_succ]
    have hl := acells_length ds vs n
    by_cases e : k = n
    · subst e
      rw [List.getElem?_append_right (by omega), List.getElem?_append_right (by omega), hl]
      simp
    · rw [List.getElem?_append_left (by omega), List.getElem?_append_left (by omega)]
      exact acells_at ds vs (by omega)
theorem gt_fn {α : Type} [Inhabited α] (f : Nat → α) {n k : Nat} (h : k < n) : gt ((List.range n).map f) k = f k := by simp [gt, List.getD, h]
/-- a row of acts of the call's own, read -/
theorem actsG_of {w : World} {base n : Nat} {v : Value} {ds : Nat → Int} {vs : Nat → Value} {rs : Nat → List Ed} {E : Nat → Prop} {t : TypeId} (h : w.ownsRow base t 2 v n (acells ds vs n)) (hn : n ≤ 1000)
    (hr : ∀ k, k < n → EdsV w E (vs k) (rs k)) (hok : ∀ k, k < n → ∀ x ∈ rs k, x.ok) : ActsG w E v ((List.range n).map fun k => (⟨ds k, rs k⟩ : ActG)) := by
  have hlen : ((List.range n).map fun k => (⟨ds k, rs k⟩ : ActG)).length = n := by simp
  rcases Nat.eq_zero_or_pos n with h0 | h0
  · subst h0
    rcases h.2 with ⟨e1, _⟩ | ⟨g, cap, cur, e1, _⟩
    · exact ⟨none, 0, e1, by simp, fun k hk => by simp at hk⟩
    · exact ⟨_, cap, e1, by simp, fun k hk => by simp at hk⟩
  · obtain ⟨g, cap, rfl, _, _⟩ := ownsRow_pos h h0
    refine ⟨some ⟨g, 0, none⟩, cap, by rw [hlen], by rw [hlen]; omega, fun k hk => ?_⟩
    rw [hlen] at hk
    obtain ⟨c0, c1⟩ := acells_at ds vs hk
    have h0' := h.cells (g := g) rfl _ _ c0
    have h1' := h.cells (g := g) rfl _ _ c1
    rw [Addr.add_lit] at h0' h1'
    refine ⟨g, 0, vs k, rfl, by rw [gt_fn _ hk]; simpa using h0', by simpa using h1', by rw [gt_fn _ hk]; exact hr k hk, by rw [gt_fn _ hk]; exact hok k hk⟩
theorem actsG_one {W : World} {E : Nat → Prop} {b c : Nat} {d : Int} {v : Value} {xs : List Ed} (h0 : W.cell? ⟨b, 0, none⟩ = some (.int .i64 d)) (h1 : W.cell? ⟨b, 1, none⟩ = some v) (hr : EdsV W E v xs) (hok : ∀ x ∈ xs, x.ok) : ActsG W E (.slice (some ⟨b, 0, none⟩) 1 c) [⟨d, xs⟩] :=
  ⟨some ⟨b, 0, none⟩, c, rfl, by simp, fun k hk => by
    obtain rfl : k = 0 := by simp at hk; omega
    exact ⟨b, 0, v, rfl, by simpa [gt] using h0, by simpa using h1, by simpa [gt] using hr, by simpa [gt] using hok⟩⟩
/-- what a round of GraphKnown has built: n acts, their edges, numbers -/
structure KnS (w0 ws : World) (n m k : Nat) (lv av ov : Value) (ds : Nat → Int) (vs : Nat → Value) (rs : Nat → List Ed) (es : List Ed) (zs : List Int) (E : Nat → Prop) : Prop where
  fx : Fx No w0 ws
  l : ws.ownsRow w0.heap.size 54 2 lv n (acells ds vs n)
  a : OwnT 25 e3 3 ws w0.heap.size av es
  o : ws.ownsRow w0.heap.size 3 1 ov zs.length (ints zs)
  row : ∀ k, k < n → EdsV ws E (vs k) (rs k)
  rok : ∀ k, k < n → ∀ x ∈ rs k, x.ok
  eok : ∀ x ∈ es, x.ok
  el : es.length ≤ 3 * m
  zl : zs.length = k
  la : ∀ g, lv.ownBlock = some g → ¬ av.ownBlock = some g
  lo : ∀ g, lv.ownBlock = some g → ¬ ov.ownBlock = some g
  ao : ∀ g, av.ownBlock = some g → ¬ ov.ownBlock = some g
  eE : ∀ j, E j → j < ws.heap.size ∧ ¬ lv.ownBlock = some j ∧ ¬ av.ownBlock = some j ∧ ¬ ov.ownBlock = some j
theorem KnS.no {w0 ws w' : World} {n m k : Nat} {lv av ov : Value} {ds : Nat → Int} {vs : Nat → Value} {rs : Nat → List Ed} {es : List Ed} {zs : List Int} {E : Nat → Prop} (h : KnS w0 ws n m k lv av ov ds vs rs es zs E) (hf : Fx No ws w') : KnS w0 w' n m k lv av ov ds vs rs es zs E :=
  ⟨h.fx.trans hf, ownsRow_fx h.l hf fun _ _ h => h, OwnT.no h.a hf, ownsRow_fx h.o hf fun _ _ h => h, fun k hk => RowV.no (h.row k hk) hf, h.rok, h.eok, h.el, h.zl, h.la, h.lo, h.ao, fun j hj => ⟨Nat.lt_of_lt_of_le (h.eE j hj).1 hf.size, (h.eE j hj).2⟩⟩
theorem KnS.start (w0 : World) : KnS w0 w0 0 0 0 (.slice none 0 0) (.slice none 0 0) (.slice none 0 0) (fun _ => 0) (fun _ => .slice none 0 0) (fun _ => []) [] [] No :=
  ⟨Fx.refl _ _, World.ownsRow_nil _ _ _ _, OwnT.nil _ _, World.ownsRow_nil _ _ _ _, fun k hk => by omega, fun k hk => by omega, fun x hx => by simp at hx, Nat.le_refl _, rfl, fun g h => (by cases h), fun g h => (by cases h), fun g h => (by cases h), fun j hj => False.elim hj⟩
section
variable {w0 ws w1 w2 : World} {n m k : Nat} {lv av ov lv' rv : Value} {ds : Nat → Int} {vs : Nat → Value} {rs : Nat → List Ed} {es xs : List Ed} {zs : List Int} {E Er : Nat → Prop}
theorem KnS.pushL (h : KnS w0 ws n m k lv av ov ds vs rs es zs E) (hA : Fx No ws w1) (hf : Fx (fun b => lv.ownBlock = some b) w1 w2) {d : Int} (ho : w2.ownsRow w0.heap.size 54 2 lv' (n + 1) (acells ds vs n ++ [.int .i64 d, rv]))
    (hb : ∀ g, lv'.ownBlock = some g → lv.ownBlock = some g ∨ w1.heap.size ≤ g) (hr : EdsV ws Er rv xs) (hrk : ∀ x ∈ xs, x.ok) (hE : ∀ j, Er j → j < ws.heap.size ∧ ¬ lv.ownBlock = some j ∧ ¬ av.ownBlock = some j ∧ ¬ ov.ownBlock = some j) :
    KnS w0 w2 (n + 1) m k lv' av ov (upd' ds n d) (upd' vs n rv) (upd' rs n xs) es zs (fun j => E j ∨ Er j) := by
  have hz := hA.size
  have hz2 := hf.size
  have hla : ∀ g, av.ownBlock = some g → g < ws.heap.size := fun g e => (World.ownsRow.lt h.a g e).2
  have hlo : ∀ g, ov.ownBlock = some g → g < ws.heap.size := fun g e => (World.ownsRow.lt h.o g e).2
  have hlb : ∀ g, lv.ownBlock = some g → w0.heap.size ≤ g := fun g e => (World.ownsRow.lt h.l g e).1
  have hEE : ∀ j, E j ∨ Er j → j < ws.heap.size ∧ ¬ lv.ownBlock = some j ∧ ¬ av.ownBlock = some j ∧ ¬ ov.ownBlock = some j := fun j hj => hj.elim (h.eE j) (hE j)
  have hl' : ∀ j, j < ws.heap.size → ¬ lv.ownBlock = some j → ¬ lv'.ownBlock = some j := fun j h1 h2 e => by
    rcases hb j e with h3 | h3
    · exact h2 h3
    · omega
  refine ⟨(h.fx.trans hA).trans' hf fun j h1 h2 => by have := hlb j h1; omega, by rw [acells_push]; exact ho, (OwnT.no h.a hA).fx hf fun g e1 e2 => h.la g e2 e1, ownsRow_fx (ownsRow_fx h.o hA fun _ _ h => h) hf fun g e1 e2 => h.lo g e2 e1, fun q hq => ?_, fun q hq => ?_, h.eok, h.el, h.zl, ?_, ?_, h.ao, fun j hj => ?_⟩
  · by_cases e : q = n
    · subst e
      rw [upd'_same, upd'_same]
      exact ((RowV.no hr hA).keep hf fun j hj => (hE j hj).2.1).mono fun j hj => .inr hj
    · rw [upd'_ne _ _ e, upd'_ne _ _ e]
      exact ((RowV.no (h.row q (by omega)) hA).keep hf fun j hj => (h.eE j hj).2.1).mono fun j hj => .inl hj
  · by_cases e : q = n
    · subst e; rw [upd'_same]; exact hrk
    · rw [upd'_ne _ _ e]; exact h.rok q (by omega)
  · intro g e1 e2
    exact hl' g (hla g e2) (fun e3 => h.la g e3 e2) e1
  · intro g e1 e2
    exact hl' g (hlo g e2) (fun e3 => h.lo g e3 e2) e1
  · obtain ⟨h1, h2, h3, h4⟩ := hEE j hj
    exact ⟨by omega, hl' j h1 h2, h3, h4⟩
theorem KnS.pushA (h : KnS w0 ws n m k lv av ov ds vs rs es zs E) (hf : Fx (fun b => av.ownBlock = some b) ws w2) (ho : OwnT 25 e3 3 w2 w0.heap.size lv' (es ++ xs))
    (hb : ∀ g, lv'.ownBlock = some g → av.ownBlock = some g ∨ ws.heap.size ≤ g) (hrk : ∀ x ∈ xs, x.ok) (hxl : xs.length ≤ 3) :
    KnS w0 w2 n (m + 1) k lv lv' ov ds vs rs (es ++ xs) zs E := by
  have hz2 := hf.size
  have hll : ∀ g, lv.ownBlock = some g → g < ws.heap.size := fun g e => (World.ownsRow.lt h.l g e).2
  have hlo : ∀ g, ov.ownBlock = some g → g < ws.heap.size := fun g e => (World.ownsRow.lt h.o g e).2
  have hlb : ∀ g, av.ownBlock = some g → w0.heap.size ≤ g := fun g e => (World.ownsRow.lt h.a g e).1
  have hl' : ∀ j, j < ws.heap.size → ¬ av.ownBlock = some j → ¬ lv'.ownBlock = some j := fun j h1 h2 e => by
    rcases hb j e with h3 | h3
    · exact h2 h3
    · omega
  refine ⟨h.fx.trans' hf fun j h1 h2 => by have := hlb j h1; omega, ownsRow_fx h.l hf fun g e1 e2 => h.la g e1 e2, ho, ownsRow_fx h.o hf fun g e1 e2 => h.ao g e2 e1, fun q hq => RowV.keep (h.row q hq) hf fun j hj => (h.eE j hj).2.2.1, h.rok, fun x hx => ?_, ?_, h.zl, ?_, h.lo, ?_, fun j hj => ?_⟩
  · rcases List.mem_append.1 hx with h1 | h1
    · exact h.eok x h1
    · exact hrk x h1
  · have := h.el; simp; omega
  · intro g e1 e2
    exact hl' g (hll g e1) (fun e3 => h.la g e1 e3) e2
  · intro g e1 e2
    exact hl' g (hlo g e2) (fun e3 => h.ao g e3 e2) e1
  · obtain ⟨h1, h2, h3, h4⟩ := h.eE j hj
    exact ⟨by omega, h2, hl' j h1 h3, h4⟩
theorem KnS.pushO (h : KnS w0 ws n m k lv av ov ds vs rs es zs E) (hA : Fx No ws w1) (hf : Fx (fun b => ov.ownBlock = some b) w1 w2) {z : Int} (ho : w2.ownsRow w0.heap.size 3 1 lv' (zs.length + 1) (ints zs ++ [.int .i64 z]))
    (hb : ∀ g, lv'.ownBlock = some g → ov.ownBlock = some g ∨ w1.heap.size ≤ g) :
    KnS w0 w2 n m (k + 1) lv av lv' ds vs rs es (zs ++ [z]) E := by
  have hz := hA.size
  have hz2 := hf.size
  have hll : ∀ g, lv.ownBlock = some g → g < ws.heap.size := fun g e => (World.ownsRow.lt h.l g e).2
  have hla : ∀ g, av.ownBlock = some g → g < ws.heap.size := fun g e => (World.ownsRow.lt h.a g e).2
  have hlb : ∀ g, ov.ownBlock = some g → w0.heap.size ≤ g := fun g e => (World.ownsRow.lt h.o g e).1
  have hl' : ∀ j, j < ws.heap.size → ¬ ov.ownBlock = some j → ¬ lv'.ownBlock = some j := fun j h1 h2 e => by
    rcases hb j e with h3 | h3
    · exact h2 h3
    · omega
  refine ⟨(h.fx.trans hA).trans' hf fun j h1 h2 => by have := hlb j h1; omega, ownsRow_fx (ownsRow_fx h.l hA fun _ _ h => h) hf fun g e1 e2 => h.lo g e1 e2, (OwnT.no h.a hA).fx hf fun g e1 e2 => h.ao g e1 e2, by rw [List.length_append, ints_append]; exact ho, fun q hq => RowV.keep (RowV.no (h.row q hq) hA) hf fun j hj => (h.eE j hj).2.2.2, h.rok, h.eok, h.el, by simp [h.zl], h.la, ?_, ?_, fun j hj => ?_⟩
  · intro g e1 e2
    exact hl' g (hll g e1) (fun e3 => h.lo g e1 e3) e2
  · intro g e1 e2
    exact hl' g (hla g e1) (fun e3 => h.ao g e1 e3) e2
  · obtain ⟨h1, h2, h3, h4⟩ := h.eE j hj
    exact ⟨by omega, h2, h3, hl' j h1 h4⟩
end
/-- the first of a row of ints -/
theorem ints_prefix {w : World} {base g n cap r : Nat} {zs : List Int} {t : TypeId} (h : w.ownsRow base t 1 (.slice (some ⟨g, 0, none⟩) n cap) zs.length (ints zs)) (hr : r ≤ zs.length) : IntsV w (fun _ => True) (.slice (some ⟨g, 0, none⟩) r cap) (zs.take r) := by
  obtain ⟨ao, cap', e, h2, h3, _, _, _⟩ := SlV.ofOwns h
  simp only [Value.slice.injEq] at e
  obtain ⟨_, _, rfl⟩ := e
  unfold IntsV
  rw [List.length_take, Nat.min_eq_left hr]
  refine ⟨_, cap, rfl, by omega, h3, by simp [ints]; omega, by simp, .inr ⟨g, 0, rfl, trivial, fun i hi => ?_⟩⟩
  have hi' : i < r := by simp [ints] at hi; omega
  have := h.cells (g := g) rfl i (.int .i64 (gi zs i)) (by simp [ints, gi, List.getD, show i < zs.length by omega])
  rw [Addr.add_lit] at this
  rw [this]
  simp [ints, gi, List.getD, hi', show i < zs.length by omega]
theorem info_act : (Try.prog.info? 54).map (fun i => (i.zero, i.size, i.bytes)) = some (some (.agg #[.int .i64 0, .slice none 0 0]), 2, 32) := by kernel_rfl
theorem wpList_append_nil {P : Program} {w : World} {ops : Array Oper} {rest : List Oper} {o : Oper} {a : Act} {Q : Exit → Act → World → Prop} (hgd : o.guard = none) (s x : Operand) (t : TypeId)
    (ho : o.op = .call { callee := .builtin .append, args := #[s, x], argTypes := #[t, t] })
    (base : Nat) (e : TypeId) {i : TypeInfo} {size : Nat} (ht : P.underlying t = some (.slice e)) (hi : P.info? e = some i) (hsize : i.size = size)
    {v : Value} {n : Nat} {xs : List Value} (hs : a.eval s = v) (hown : w.ownsRow base e size v n xs) (hx : a.eval x = .slice none 0 0)
    (h : wpList P ops Q rest (a.put o.dst v) w) : wpList P ops Q (o :: rest) a w := by
  refine wpList_plain hgd fun K hK => ?_
  have hrun := run_append_owned_none (P := P) w base t o.type e i size ht hi v n xs hown
  unfold Oper.wp
  simp [execOp, ho, resolve, invoke, builtin, hs, hx, hrun, Result.andThen]
  exact hK _ _ h
#print axioms actsG_of
#print axioms KnS.start

theorem ok_small {x : Int} (h0 : 0 ≤ x) (h1 : x ≤ 1000000) : Ok64 x := by unfold Ok64; omega
set_option maxRecDepth 100000 in
set_option maxHeartbeats 8000000 in
theorem known_any (w : World) : Calls Try.prog 7 #[] w fun e w' => e = .returned (.bool true) ∧ Fx No w w' := by
  obtain ⟨ii, hi, hz, hs, hb⟩ := info_edge'
  obtain ⟨ij, hi2, hz2, hs2, hb2⟩ := info_parts info_act
  obtain ⟨ik, hi3, hz3, hs3, hb3⟩ := info_parts info_int'
  go_enter Try.func7, Try.ntmps7
  go_wp2
  go_loopw [1, 2, 3, 4, 5, 6, 7, 8] (fun kk ii _ _ _ _ _ _ ws => ∃ κ i : Nat, kk = .int .i64 κ ∧ κ < 100003 ∧ ii = .int .i64 i ∧ i ≤ 50 ∧ Fx No w ws) (fun _ ii _ _ _ _ _ _ _ => 50 - (intOf ii).toNat)
  case atStart => exact ⟨1, 0, rfl, by omega, rfl, by omega, Fx.refl _ _⟩
  case round =>
    obtain ⟨κ, i, rfl, hκ, rfl, hi50, hf⟩ := hrel
    have HF := Lib.hid hf
    obtain ⟨wa, hwa⟩ : ∃ x, x = wr := ⟨_, rfl⟩
    subst hwa
    clear hf
    by_cases hil : i < 50
    · have di : decide ((i : Int) < 50) = true := decide_eq_true (by omega)
      have HI := Lib.hid hil
      clear hil
      go_wp2
      go_loopw [1, 3, 4, 5, 6, 7, 8] (fun kk lv av ov nn _ _ ws => ∃ (κ n : Nat) (ds : Nat → Int) (vs : Nat → Value) (rs : Nat → List Ed) (es : List Ed) (zs : List Int) (E : Nat → Prop), kk = .int .i64 κ ∧ κ < 100003 ∧ nn = .int .i64 n ∧ n ≤ 10 ∧ KnS wa ws n n n lv av ov ds vs rs es zs E ∧ ∀ z ∈ zs, Ok64 z) (fun _ _ _ _ nn _ _ _ => 10 - (intOf nn).toNat)
      case atStart => exact ⟨κ, 0, _, _, _, _, _, _, rfl, hκ, rfl, by omega, KnS.start wa, by simp⟩
      case round =>
        clear hκ
        obtain ⟨κ, n, ds, vs, rs, es, zs, E, rfl, hκ, rfl, hn10, hK, hzk⟩ := hrel
        have HK := Lib.hid hK
        have HZk := Lib.hid hzk
        obtain ⟨wb, hwb⟩ : ∃ x, x = wr := ⟨_, rfl⟩
        subst hwb
        clear hK hzk
        by_cases hnl : n < 10
        · have dn : decide ((n : Int) < 10) = true := decide_eq_true (by omega)
          have HN := Lib.hid hnl
          clear hnl
          go_wp2
          go_loopw [1, 7, 8] (fun kk rv mm ws => ∃ (κ m : Nat) (xs : List Ed), kk = .int .i64 κ ∧ κ < 100003 ∧ mm = .int .i64 m ∧ m ≤ 3 ∧ xs.length = m ∧ (m = 0 → rv = .slice none 0 0) ∧ Fx No wb ws ∧ OwnT 25 e3 3 ws wb.heap.size rv xs ∧ ∀ x ∈ xs, x.ok) (fun _ _ mm _ => 3 - (intOf mm).toNat)
          case atStart => exact ⟨κ, 0, [], rfl, hκ, rfl, by omega, rfl, fun _ => rfl, Fx.refl _ _, OwnT.nil _ _, by simp⟩
          case round =>
            clear hκ
            obtain ⟨κ, m, xs, rfl, hκ, rfl, hm, hxl, hm0, hf, ho, hxk⟩ := hrel
            have HFm := Lib.hid hf
            have HO := Lib.hid ho
            have HXk := Lib.hid hxk
            have HXl := Lib.hid hxl
            have HM0 := Lib.hid hm0
            have hxl3 : xs.length ≤ 3 := by omega
            have hzm := hf.size
            obtain ⟨q4, hq4⟩ : ∃ q, q = κ % 4 := ⟨_, rfl⟩
            have a1 : (κ : Int).tmod 4 = (q4 : Int) := by rw [hq4]; rfl
            have a2 : (κ : Int) % 4 = (q4 : Int) := by omega
            have hq43 : q4 ≤ 3 := by omega
            obtain ⟨wm, hwm⟩ : ∃ x, x = wr := ⟨_, rfl⟩
            subst hwm
            clear hf ho hxk hxl hm0 hq4
            by_cases hml : m < q4
            · have dm : decide ((m : Int) < (q4 : Int)) = true := decide_eq_true (by omega)
              have dm2 : decide (m < q4) = true := decide_eq_true hml
              obtain ⟨a5, ha5⟩ : ∃ q, q = κ % 5 := ⟨_, rfl⟩
              have b1 : (κ : Int).tmod 5 = (a5 : Int) := by rw [ha5]; rfl
              have b2 : (κ : Int) % 5 = (a5 : Int) := by omega
              obtain ⟨d5, hd5⟩ : ∃ q, q = κ / 5 := ⟨_, rfl⟩
              have c1 : (κ : Int).tdiv 5 = (d5 : Int) := by rw [hd5]; rfl
              have c2 : (κ : Int) / 5 = (d5 : Int) := by omega
              obtain ⟨b5, hb5⟩ : ∃ q, q = d5 % 5 := ⟨_, rfl⟩
              have e1 : (d5 : Int).tmod 5 = (b5 : Int) := by rw [hb5]; rfl
              have e2 : (d5 : Int) % 5 = (b5 : Int) := by omega
              obtain ⟨d25, hd25⟩ : ∃ q, q = κ / 25 := ⟨_, rfl⟩
              have f1 : (κ : Int).tdiv 25 = (d25 : Int) := by rw [hd25]; rfl
              have f2 : (κ : Int) / 25 = (d25 : Int) := by omega
              obtain ⟨c3, hc3⟩ : ∃ q, q = d25 % 3 := ⟨_, rfl⟩
              have g1 : (d25 : Int).tmod 3 = (c3 : Int) := by rw [hc3]; rfl
              have g2 : (d25 : Int) % 3 = (c3 : Int) := by omega
              obtain ⟨κ', hκ'⟩ : ∃ q, q = (κ * 31 + 7 * m + 11) % 100003 := ⟨_, rfl⟩
              have h1 : ((κ : Int) * 31 + 7 * (m : Int) + 11).tmod 100003 = (κ' : Int) := by rw [hκ']; rfl
              have h2 : ((κ : Int) * 31 + 7 * (m : Int) + 11) % 100003 = (κ' : Int) := by omega
              have hκl : κ' < 100003 := by omega
              have HOk : Hid ((⟨a5, b5, c3⟩ : Ed).ok) := Lib.hid ⟨ok_small (x := (a5 : Nat)) (by omega) (by omega), ok_small (x := (b5 : Nat)) (by omega) (by omega), ok_small (x := (c3 : Nat)) (by omega) (by omega)⟩
              have hd5l : d5 ≤ 100003 := by omega
              have hd25l : d25 ≤ 100003 := by omega
              clear ha5 hd5 hb5 hd25 hc3 hκ'
              go_wp2_with (at_builtin; refine wpList_append_kept rfl _ _ 22 rfl wb.heap.size 25 Try.underlying22 hi hz hs hb rfl (by decide) rfl (World.ownsRow.alloc HO.out _) rfl (SlV.lit _ 25 #[.int .i64 (a5 : Nat), .int .i64 (b5 : Nat), .int .i64 (c3 : Nat)] 3 1 rfl (by unfold maxLen; omega)) (ints_one [_, _, _]) (by omega) (by unfold maxLen; omega) (by omega) (by simp; omega) ?_)
              intro v2 w6 ho hf _ _
              have HO2 : Hid (OwnT 25 e3 3 w6 wb.heap.size v2 (xs ++ [⟨a5, b5, c3⟩])) := Lib.hid (OwnT.snoc ho)
              have HF2 : Hid (Fx No wb w6) := Lib.hid ((HFm.out.alloc _).trans' hf fun j h1 h2 => by have := (OwnT.lt HO.out h1).1; omega)
              clear ho hf
              go_wp2
              go_roundw
              case rel => exact ⟨κ', m + 1, xs ++ [⟨a5, b5, c3⟩], by first | rfl | go_num, hκl, by go_num, by omega, by have := HXl.out; simp; omega, fun h => by omega, HF2.out, HO2.out, fun x hx => by
                rcases List.mem_append.1 hx with h | h
                · exact HXk.out x h
                · rw [List.mem_singleton] at h; rw [h]; exact HOk.out⟩
              case measure => simp [intOf]; omega
            · have dm : decide ((m : Int) < (q4 : Int)) = false := decide_eq_false (by omega)
              have dm2 : decide (m < q4) = false := decide_eq_false hml
              clear hml
              obtain ⟨ro, rc, rfl, _, _, _⟩ := EdsV.facts (OwnT.row HO.out)
              have HKm := Lib.hid (HK.out.no HFm.out)
              have hes := HK.out.el
              have hzs := HK.out.zl
              have HRw : Hid (EdsV wm (fun b => (Value.slice ro xs.length rc).ownBlock = some b) (.slice ro xs.length rc) xs) := Lib.hid (SlV.own HO.out)
              have hwab : wa.heap.size ≤ wm.heap.size := HKm.out.fx.size
              obtain ⟨κ', hκ'⟩ : ∃ q, q = (κ * 31 + 7 * n + 11) % 100003 := ⟨_, rfl⟩
              have h1 : ((κ : Int) * 31 + 7 * (n : Int) + 11).tmod 100003 = (κ' : Int) := by rw [hκ']; rfl
              have h2 : ((κ : Int) * 31 + 7 * (n : Int) + 11) % 100003 = (κ' : Int) := by omega
              have hκl : κ' < 100003 := by omega
              have HEr : Hid (∀ j, (Value.slice ro xs.length rc).ownBlock = some j → j < wm.heap.size ∧ ¬ u3.ownBlock = some j ∧ ¬ u4.ownBlock = some j ∧ ¬ u5.ownBlock = some j) := Lib.hid fun j hj => by
                obtain ⟨h3, h4⟩ := OwnT.lt HO.out hj
                refine ⟨h4, fun e => ?_, fun e => ?_, fun e => ?_⟩
                · have := (World.ownsRow.lt HK.out.l j e).2; omega
                · have := (World.ownsRow.lt HK.out.a j e).2; omega
                · have := (World.ownsRow.lt HK.out.o j e).2; omega
              have HKap : Hid (κ < 100003) := Lib.hid hκ
              clear hκ'
              go_wp2_with (at_builtin; refine wpList_append_kept rfl _ _ 47 rfl wa.heap.size 54 Try.underlying47 hi2 hz2 hs2 hb2 rfl (by decide) rfl (World.ownsRow.alloc HKm.out.l _) rfl (SlV.lit _ 54 #[.int .i64 (q4 : Nat), .slice ro xs.length rc] 2 1 rfl (by unfold maxLen; omega)) (by intro u hu; simp at hu; rcases hu with rfl | rfl <;> rfl) (by omega) (by unfold maxLen; omega) (by omega) (by simp; omega) ?_)
              intro lv' w6 ho hf _ hbk
              have HK1 := Lib.hid (HKm.out.pushL ((Fx.refl No _).alloc _) hf ho (fun g e => (hbk g e).imp_right fun h => by first | exact h | simpa using h | (unfold World.alloc; simpa using h) | simpa [World.alloc] using h) HRw.out HXk.out HEr.out)
              have HRw1 : Hid (EdsV w6 _ (.slice ro xs.length rc) xs) := Lib.hid (by have := HK1.out.row n (by omega); rw [upd'_same, upd'_same] at this; exact this)
              have hz6 := HK1.out.fx.size
              clear ho hf hbk
              rcases Nat.eq_zero_or_pos m with hmz | hmz
              · subst hmz
                have hxe : xs = [] := List.eq_nil_of_length_eq_zero HXl.out
                obtain ⟨rfl, _, rfl⟩ : ro = none ∧ xs.length = 0 ∧ rc = 0 := by simpa using HM0.out rfl
                have HK2 : Hid (KnS wa w6 (n + 1) (n + 1) n lv' u4 u5 _ _ _ es zs _) := Lib.hid { HK1.out with el := by have := HK1.out.el; omega }
                clear HM0 HRw1
                subst hxe
                go_wp2_with (at_builtin; first | (refine wpList_append_nil rfl _ _ 22 rfl wa.heap.size 25 Try.underlying22 hi hs rfl HK2.out.a rfl ?_) | (refine wpList_append_kept rfl _ _ 23 rfl wa.heap.size 3 Try.underlying23 hi3 hz3 hs3 hb3 rfl (by decide) rfl (World.ownsRow.alloc HK2.out.o _) rfl (SlV.lit _ 3 #[.int .i64 (κ : Nat)] 1 1 rfl (by unfold maxLen; omega)) (ints_one [_]) (by omega) (by unfold maxLen; omega) (by omega) (by simp; omega) ?_))
                intro ov' w7 ho hf _ hbk
                have HK3 := Lib.hid (HK2.out.pushO ((Fx.refl No _).alloc _) hf (by rw [HK2.out.zl]; exact ho) (fun g e => (hbk g e).imp_right fun h => by first | exact h | simpa using h | (unfold World.alloc; simpa using h) | simpa [World.alloc] using h))
                clear ho hf hbk
                go_wp2
                go_roundw
                case rel => exact ⟨κ', n + 1, _, _, _, _, _, _, by first | rfl | go_num, hκl, by go_num, by have := HN.out; omega, HK3.out, fun z hz => by
                  rcases List.mem_append.1 hz with h | h
                  · exact HZk.out z h
                  · rw [List.mem_singleton] at h; rw [h]; exact ok_small (by omega) (by have := HKap.out; omega)⟩
                case measure => (have := HN.out; simp [intOf]; omega)
              · clear HM0
                go_wp2_with (at_builtin; refine wpList_append_kept rfl _ _ 22 rfl wa.heap.size 25 Try.underlying22 hi hz hs hb rfl (by decide) rfl HK1.out.a rfl HRw1.out (icells_one _) (by have := HXl.out; omega) (by unfold maxLen; omega) (by omega) (by omega) ?_)
                intro av' w7 ho hf _ hbk
                have HK2 := Lib.hid (HK1.out.pushA hf (xs := xs) (by unfold OwnT; rw [List.length_append, icells_append]; exact ho) hbk HXk.out hxl3)
                have hz7 := HK2.out.fx.size
                clear ho hf hbk
                go_wp2_with (at_builtin; refine wpList_append_kept rfl _ _ 23 rfl wa.heap.size 3 Try.underlying23 hi3 hz3 hs3 hb3 rfl (by decide) rfl (World.ownsRow.alloc HK2.out.o _) rfl (SlV.lit _ 3 #[.int .i64 (κ : Nat)] 1 1 rfl (by unfold maxLen; omega)) (ints_one [_]) (by omega) (by unfold maxLen; omega) (by omega) (by simp; omega) ?_)
                intro ov' w8 ho hf _ hbk
                have HK3 := Lib.hid (HK2.out.pushO ((Fx.refl No _).alloc _) hf (by rw [HK2.out.zl]; exact ho) (fun g e => (hbk g e).imp_right fun h => by first | exact h | simpa using h | (unfold World.alloc; simpa using h) | simpa [World.alloc] using h))
                clear ho hf hbk
                go_wp2
                go_roundw
                case rel => exact ⟨κ', n + 1, _, _, _, _, _, _, by first | rfl | go_num, hκl, by go_num, by have := HN.out; omega, HK3.out, fun z hz => by
                  rcases List.mem_append.1 hz with h | h
                  · exact HZk.out z h
                  · rw [List.mem_singleton] at h; rw [h]; exact ok_small (by omega) (by have := HKap.out; omega)⟩
                case measure => (have := HN.out; simp [intOf]; omega)
        · obtain rfl : n = 10 := by omega
          have hes := HK.out.el
          have hzl := HK.out.zl
          obtain ⟨og, oc, rfl, _, _⟩ := ownsRow_pos HK.out.o (by omega)
          have hoc : 10 ≤ oc := by
            obtain ⟨ao, cap', e, h2, _⟩ := SlV.ofOwns HK.out.o
            simp only [Value.slice.injEq] at e
            omega
          have HActs := Lib.hid (actsG_of HK.out.l (by omega) HK.out.row HK.out.rok)
          have HEs := Lib.hid (OwnT.row HK.out.a)
          have HZs : Hid (∀ r, r ≤ 10 → IntsV wb (fun _ => True) (.slice (some ⟨og, 0, none⟩) r oc) (zs.take r)) := Lib.hid fun r hr => ints_prefix HK.out.o (by omega)
          have HEk := Lib.hid HK.out.eok
          have HWb := Lib.hid HK.out.fx
          have hi51 := HI.out
          rw [hzl]
          obtain ⟨r10, hr10⟩ : ∃ q, q = i % 10 := ⟨_, rfl⟩
          have a1 : (i : Int).tmod 10 = (r10 : Int) := by rw [hr10]; rfl
          have a2 : (i : Int) % 10 = (r10 : Int) := by omega
          have hr1 : r10 ≤ 10 := by omega
          have hr2 : r10 ≤ oc := by omega
          have hr3 : (r10 : Int) ≤ (oc : Int) := by omega
          have hr4 : (0 : Int) ≤ (r10 : Int) := by omega
          obtain ⟨k50, hk50⟩ : ∃ q, q = κ % 50 := ⟨_, rfl⟩
          have b1 : (κ : Int).tmod 50 = (k50 : Int) := by rw [hk50]; rfl
          have b2 : (κ : Int) % 50 = (k50 : Int) := by omega
          have hk1 : k50 ≤ 50 := by omega
          have HKap : Hid (κ < 100003) := Lib.hid hκ
          clear hr10 hk50 hnl hn10
          obtain ⟨q7, hq7⟩ : ∃ q, q = i % 7 := ⟨_, rfl⟩
          have c1 : (i : Int).tmod 7 = (q7 : Int) := by rw [hq7]; rfl
          have c2 : (i : Int) % 7 = (q7 : Int) := by omega
          have hq77 : q7 ≤ 7 := by omega
          obtain ⟨q6, hq6⟩ : ∃ q, q = i % 6 := ⟨_, rfl⟩
          have d1 : (i : Int).tmod 6 = (q6 : Int) := by rw [hq6]; rfl
          have d2 : (i : Int) % 6 = (q6 : Int) := by omega
          have hq66 : q6 ≤ 6 := by omega
          obtain ⟨d6, hd6⟩ : ∃ q, q = i / 6 := ⟨_, rfl⟩
          have e1 : (i : Int).tdiv 6 = (d6 : Int) := by rw [hd6]; rfl
          have e2 : (i : Int) / 6 = (d6 : Int) := by omega
          have hd66 : d6 ≤ 50 := by omega
          have y1 : IntKind.i64.wrap ((q6 : Int) - 1) = (q6 : Int) - 1 := IntWalk.i64_in _ (by omega)
          have y2 : IntKind.i64.wrap ((d6 : Int) - 1) = (d6 : Int) - 1 := IntWalk.i64_in _ (by omega)
          clear hq7 hq6 hd6
          go_wp2_with fail
          refine (plays_any _ HActs.out _ _).mono ?_
          rintro e w1 ⟨rfl, hf⟩
          have HF1 : Hid (Fx No wb w1) := Lib.hid hf
          clear hf
          go_wp2_with fail
          refine (turns_any _ (RowV.no HEs.out HF1.out) HEk.out (IntsV.no (HZs.out r10 hr1) HF1.out) (fun z hz => HZk.out z (List.mem_of_mem_take hz)) ⟨i, 0, 0⟩ ⟨k50, 1, 0⟩ ⟨ok_small (x := (i : Nat)) (by omega) (by omega), ok_small (x := 0) (by omega) (by omega), ok_small (x := 0) (by omega) (by omega)⟩ ⟨ok_small (x := (k50 : Nat)) (by omega) (by omega), ok_small (x := 1) (by omega) (by omega), ok_small (x := 0) (by omega) (by omega)⟩).mono ?_
          rintro e w2 ⟨rfl, hf⟩
          have HF2 : Hid (Fx No wb w2) := Lib.hid (HF1.out.trans hf)
          clear hf
          go_wp2_with fail
          refine (orders_any _ (RowV.no HEs.out HF2.out) HEk.out (IntsV.no (HZs.out 10 (by omega)) HF2.out) _).mono ?_
          rintro e w3 ⟨rfl, hf⟩
          have HF3 : Hid (Fx No wb w3) := Lib.hid (HF2.out.trans hf)
          clear hf
          go_wp2_with fail
          refine (none_any ⟨0, 0, i⟩ ⟨ok_small (x := 0) (by omega) (by omega), ok_small (x := 0) (by omega) (by omega), ok_small (x := (i : Nat)) (by omega) (by omega)⟩ _).mono ?_
          rintro e w4 ⟨rfl, hf⟩
          have HF4 : Hid (Fx No wa w4) := Lib.hid (HWb.out.trans (HF3.out.trans hf))
          have HF5 : Hid (Fx No w w4) := Lib.hid (HF.out.trans HF4.out)
          clear hf
          go_wp2
          go_roundw
          case rel => exact ⟨κ, i + 1, by first | rfl | go_num, HKap.out, by go_num, by omega, HF5.out⟩
          case measure => simp [intOf]; omega
    · have di : decide ((i : Int) < 50) = false := decide_eq_false (by omega)
      have hNil : ∀ W, ActsG W No (.slice none 0 0) [] := fun W => ⟨none, 0, rfl, by simp, fun k hk => by simp at hk⟩
      have HNil := Lib.hid hNil
      clear hil hNil
      go_wp2_with fail
      refine (plays_any (-1) (HNil.out _) 0 0).mono ?_
      rintro e w1 ⟨rfl, hf⟩
      have HF1 := Lib.hid (HF.out.trans hf)
      clear hf
      go_wp2_with fail
      refine (plays_any 65537 (HNil.out _) 0 0).mono ?_
      rintro e w2 ⟨rfl, hf⟩
      have HF2 := Lib.hid (HF1.out.trans hf)
      clear hf
      go_wp2_with fail
      refine (plays_any 0 (actsG_one (xs := [⟨0, 0, 0⟩]) (d := 0) (v := .slice (some ⟨w2.heap.size, 0, none⟩) 1 1) (b := w2.heap.size + 1) (c := 1) (by go_simp) (by go_simp) (RowV.no (EdsV.lit (t := 25) [⟨0, 0, 0⟩] (by simp)) ((Fx.refl No _).alloc _)) (fun x hx => by rw [List.mem_singleton] at hx; rw [hx]; exact ⟨ok_small (x := 0) (by omega) (by omega), ok_small (x := 0) (by omega) (by omega), ok_small (x := 0) (by omega) (by omega)⟩)) 0 0).mono ?_
      rintro e w3 ⟨rfl, hf⟩
      have HF3 := Lib.hid (HF2.out.trans ((((Fx.refl No _).alloc _).alloc _).trans hf))
      clear hf
      go_wp2_with fail
      refine (plays_any 2 (actsG_one (xs := [⟨1, 1, -9223372036854775808⟩, ⟨1, -1, 0⟩]) (d := 0) (v := .slice (some ⟨w3.heap.size, 0, none⟩) 2 2) (b := w3.heap.size + 1) (c := 1) (by go_simp) (by go_simp) (RowV.no (EdsV.lit (t := 25) [⟨1, 1, -9223372036854775808⟩, ⟨1, -1, 0⟩] (by simp)) ((Fx.refl No _).alloc _)) (fun x hx => by
        simp only [List.mem_cons, List.not_mem_nil, or_false] at hx
        rcases hx with rfl | rfl <;> (refine ⟨?_, ?_, ?_⟩ <;> (unfold Ok64; decide)))) 1 1).mono ?_
      rintro e w4 ⟨rfl, hf⟩
      have HF4 := Lib.hid (HF3.out.trans ((((Fx.refl No _).alloc _).alloc _).trans hf))
      clear hf
      go_wp2_with fail
      refine (works_any _).mono ?_
      rintro e w5 ⟨rfl, hf⟩
      have HF5 := Lib.hid (HF4.out.trans hf)
      clear hf
      go_wp2
      go_ret
      exact ⟨rfl, HF5.out⟩
#print axioms known_any
end Go.Proofs.Ytcfajeldkioomaa
