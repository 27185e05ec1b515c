/- Tables of names: the map and the row behind one. -/
import Derived.Test.YtpegloapdkfgiaaNMath
import Derived.Test.YtpegloapdkfgiaaAppend
import Derived.Maps.OwnSet
import Derived.Maps.Ext
import Derived.DeepKeys4
import Derived.Test.YtpegloapdkfgiaaProg
namespace Go.Proofs.Ytpegloapdkfgiaa
open Go.RowKit
open Go.Maps (Keyed)
open Go.ChangeMaps Go.WideElems
set_option linter.unusedVariables false

/-- how names of one kind lie in memory -/
structure NameK (α : Type) where
  kt : TypeId
  mt : TypeId
  val : α → Value
  cells : α → List Value
  s : Nat
  key : α → Lit
  ok : α → Prop
structure NameK.Fit {α : Type} (K : NameK α) : Prop where
  keyed : Keyed Try.prog K.kt
  und : Try.prog.underlying K.mt = some (.map K.kt 3)
  keyOf : ∀ x, K.ok x → Go.keyOf Try.prog K.kt (K.val x) = some (K.key x)
  inj : ∀ a b, K.ok a → K.ok b → K.key a = K.key b → a = b
  len : ∀ x, (K.cells x).length = K.s
  pos : 0 < K.s
  one : ∀ x, One (K.cells x)
theorem zero_int (w : World) : (zeroValue 3).run Try.prog w = .ok (.int .i64 0) w := by kernel_rfl
theorem wf_nat {n : Nat} (h : n ≤ 1000000) : (Lit.int .i64 (n : Int)).wf = true := WalkArith.wf_i64 (by omega)
noncomputable abbrev intR : Value → Option (DataW Unit × List MemPlace) := plainElem (H := Unit) Try.prog 3
section
variable {α : Type} {K : NameK α} {w w' : World} {S : Nat → Prop} {L : List α} {x : α}
theorem look_nil (F : K.Fit) (hx : K.ok x) : (Instr.lookup K.mt (.map none) (K.val x) true).run Try.prog w = .ok (.tuple #[.int .i64 0, .bool false]) w := by
  have := Maps.look_nil (P := Try.prog) (w := w) true F.keyed F.und (zero_int w) (F.keyOf x hx)
  simpa using this
/-- the cells of names -/
def ncells (K : NameK α) (L : List α) : List Value := L.flatMap K.cells
theorem ncells_append (a b : List α) : ncells K (a ++ b) = ncells K a ++ ncells K b := List.flatMap_append
theorem ncells_single (x : α) : ncells K [x] = K.cells x := by simp [ncells]
theorem ncells_one (F : K.Fit) (L : List α) : One (ncells K L) := by
  intro u hu
  obtain ⟨q, _, hq⟩ := List.mem_flatMap.1 hu
  exact F.one q u hq
theorem ncells_length (F : K.Fit) (L : List α) : (ncells K L).length = L.length * K.s := by
  induction L with
  | nil => simp [ncells]
  | cons x l ih =>
    have : ncells K (x :: l) = K.cells x ++ ncells K l := rfl
    rw [this, List.length_append, ih, F.len]; simp [Nat.succ_mul]; omega
theorem ncells_at (F : K.Fit) : ∀ {L : List α} {k j : Nat} {x : α}, L[k]? = some x → j < K.s → (ncells K L)[k * K.s + j]? = (K.cells x)[j]?
  | [], k, j, x, h, _ => by simp at h
  | y :: xs, 0, j, x, h, hj => by
    simp only [List.getElem?_cons_zero, Option.some.injEq] at h
    subst h
    have : ncells K (y :: xs) = K.cells y ++ ncells K xs := rfl
    rw [this, Nat.zero_mul, Nat.zero_add, List.getElem?_append_left (by rw [F.len]; exact hj)]
  | y :: xs, k + 1, j, x, h, hj => by
    simp only [List.getElem?_cons_succ] at h
    have ih := ncells_at F h hj
    have : ncells K (y :: xs) = K.cells y ++ ncells K xs := rfl
    rw [this, List.getElem?_append_right (by rw [F.len, Nat.succ_mul]; omega), F.len, show (k + 1) * K.s + j - K.s = k * K.s + j by rw [Nat.succ_mul]; omega]
    exact ih
/-- a slice that reads as names -/
def NamV (K : NameK α) (w : World) (D : Nat → Prop) (v : Value) (L : List α) : Prop := SlV w D v K.s L.length (ncells K L)
theorem NamV.keep {D : Nat → Prop} {v : Value} (h : NamV K w D v L) (hf : Fx S w w') (hd : ∀ k, D k → ¬ S k) : NamV K w' D v L := SlV.keep h hf hd
theorem NamV.no {D : Nat → Prop} {v : Value} (h : NamV K w D v L) (hf : Fx No w w') : NamV K w' D v L := SlV.keep h hf No.disj
theorem NamV.mono {D T : Nat → Prop} {v : Value} (h : NamV K w D v L) (hd : ∀ k, D k → T k) : NamV K w T v L := SlV.mono h hd
theorem NamV.facts (F : K.Fit) {D : Nat → Prop} {v : Value} (h : NamV K w D v L) :
    ∃ ao cap, v = .slice ao L.length cap ∧ L.length ≤ cap ∧ cap ≤ 9223372036854775807 ∧ ∀ k x, L[k]? = some x → ∃ b o, ao = some ⟨b, o, none⟩ ∧ D b ∧ ∀ j u, (K.cells x)[j]? = some u → w.cell? ⟨b, o + (k * K.s + j), none⟩ = some u := by
  obtain ⟨ao, cap, h1, h2, h3, h4, h5, h6⟩ := h
  unfold maxLen at h3
  refine ⟨ao, cap, h1, h2, by omega, fun k x hk => ?_⟩
  have hkl : k < L.length := (List.getElem?_eq_some_iff.1 hk).1
  have hp := F.pos
  have hl := ncells_length F L
  have hk2 : k * K.s + K.s ≤ L.length * K.s := by rw [← Nat.succ_mul]; exact Nat.mul_le_mul_right _ hkl
  obtain ⟨b, o, h7, h8, h9⟩ := h6.addr (by rw [hl]; omega)
  refine ⟨b, o, h7, h8, fun j u hu => ?_⟩
  have hj : j < K.s := by have := (List.getElem?_eq_some_iff.1 hu).1; rw [F.len] at this; exact this
  rw [h9 _ (by rw [hl]; omega)]
  have := ncells_at F hk hj
  rw [hu] at this
  simp [List.getD, this]
end
section
variable {α : Type} [DecidableEq α] {K : NameK α}
/-- a name's number, or 0 -/
def fnd (L : List α) (k : α) : Int := if k ∈ L then ((ix L k : Nat) : Int) else 0
/-- is it there -/
def isIn (L : List α) (k : α) : Bool := decide (k ∈ L)
theorem isIn_in {L : List α} {k : α} (h : k ∈ L) : isIn L k = true := decide_eq_true h
theorem isIn_out {L : List α} {k : α} (h : k ∉ L) : isIn L k = false := decide_eq_false h
theorem fnd_in {L : List α} {k : α} (h : k ∈ L) : fnd L k = ((ix L k : Nat) : Int) := if_pos h
theorem fnd_out {L : List α} {k : α} (h : k ∉ L) : fnd L k = 0 := if_neg h
/-- the map of the names' numbers -/
structure MapN (K : NameK α) (w : World) (mb : Nat) (L : List α) : Prop where
  ok : ∀ x ∈ L, K.ok x
  ex : ∃ D : DataW Unit, w.ownsMap Try.prog K.kt intR mb L.length D ∧ ∀ x, K.ok x → Maps.has D (K.key x) = decide (x ∈ L) ∧ D.atKey (K.key x) (.lit (.int .i64 0)) = .lit (.int .i64 (fnd L x))
variable {w w' : World} {S : Nat → Prop} {mb : Nat} {L : List α} {x : α}
theorem MapN.lt (h : MapN K w mb L) : mb < w.heap.size := by obtain ⟨_, D, h1, _⟩ := h; exact h1.lt
theorem MapN.keep (h : MapN K w mb L) (hf : Fx S w w') (hn : ¬ S mb) : MapN K w' mb L := by
  obtain ⟨h0, D, ⟨es, clock, h1, h2⟩, h3⟩ := h
  exact ⟨h0, D, ⟨es, clock, hf.at_ h1 hn, h2⟩, h3⟩
theorem MapN.no (h : MapN K w mb L) (hf : Fx No w w') : MapN K w' mb L := h.keep hf fun h => h
theorem MapN.made (w : World) : MapN K (w.alloc (.map #[] 0)) w.heap.size [] :=
  ⟨by simp, _, World.ownsMap_made w _ _ _, fun x _ => ⟨by simp [Maps.has], by simp [DataW.atKey, fnd]⟩⟩
theorem MapN.look (F : K.Fit) (h : MapN K w mb L) (hx : K.ok x) : (Instr.lookup K.mt (.map (some mb)) (K.val x) true).run Try.prog w = .ok (.tuple #[.int .i64 (fnd L x), .bool (decide (x ∈ L))]) w := by
  obtain ⟨h0, D, h1, h2⟩ := h
  obtain ⟨v, ps, hr, hv⟩ := h1.look_ok F.keyed F.und (zero_int w) (plainElem_int Try.underlying3 (by decide)) (F.keyOf x hx)
  obtain ⟨c, rfl, hc, _⟩ := plainElem_int_inv Try.underlying3 hv
  have h3 := (h2 x hx).2
  have h4 := congrArg Prod.fst hc
  simp only at h4
  rw [h3] at h4
  obtain rfl : fnd L x = c := by simpa using h4
  rw [hr, (h2 x hx).1]
theorem MapN.look_in (F : K.Fit) (h : MapN K w mb L) (hx : K.ok x) (hin : x ∈ L) : (Instr.lookup K.mt (.map (some mb)) (K.val x) true).run Try.prog w = .ok (.tuple #[.int .i64 (ix L x : Nat), .bool true]) w := by
  have := h.look F hx
  rw [fnd_in hin, decide_eq_true hin] at this
  exact this
theorem MapN.look_out (F : K.Fit) (h : MapN K w mb L) (hx : K.ok x) (hin : x ∉ L) : (Instr.lookup K.mt (.map (some mb)) (K.val x) true).run Try.prog w = .ok (.tuple #[.int .i64 0, .bool false]) w := by
  have := h.look F hx
  rw [fnd_out hin, decide_eq_false hin] at this
  exact this
theorem MapN.store (F : K.Fit) (h : MapN K w mb L) (hl : L.length ≤ 100000) (hx : K.ok x) (hn : x ∉ L) :
    ∃ w', (Instr.mapUpdate K.mt (.map (some mb)) (K.val x) (.int .i64 (L.length : Nat))).run Try.prog w = .ok () w' ∧ Hid (MapN K w' mb (L ++ [x])) ∧ Hid (Fx (fun j => j = mb) w w') := by
  obtain ⟨h0, D, h1, h2⟩ := h
  obtain ⟨w', hr, g1, g2⟩ := h1.store F.keyed F.und (by unfold maxLen; omega) (F.keyOf x hx) (plainElem_int (H := Unit) Try.underlying3 (wf_nat (n := L.length) (by omega)))
  have hK := F.keyed.key (F.keyOf x hx)
  have hm := h1.isMap
  refine ⟨w', hr, Lib.hid ⟨fun y hy => ?_, D.put (K.key x) (.lit (.int .i64 (L.length : Nat))), by simpa using g1, fun y hy => ?_⟩, Lib.hid (Fx.ofGrown g2.grown fun k hk _ => by simpa using hk.symm)⟩
  · rcases List.mem_append.1 hy with hy | hy
    · exact h0 y hy
    · rw [List.mem_singleton.1 hy]; exact hx
  · by_cases hyx : y = x
    · subst hyx
      refine ⟨by rw [Maps.has_put_same hm hK, decide_eq_true (by simp)], ?_⟩
      rw [Maps.atKey_put_same hm hK, fnd_in (by simp), ix_append_out hn]
      simp [ix]
    · have hne : K.key y ≠ K.key x := fun q => hyx (F.inj _ _ hy hx q)
      refine ⟨?_, ?_⟩
      · rw [Maps.has_put_other hne, (h2 y hy).1]
        simp [hyx]
      · rw [Maps.atKey_put_other hne, (h2 y hy).2]
        by_cases hyl : y ∈ L
        · rw [fnd_in hyl, fnd_in (by simp [hyl]), ix_append_in hyl]
        · rw [fnd_out hyl, fnd_out (by simp [hyl, hyx])]
/-- block mb of w has the entry of x, whose number is not in it yet -/
def Half (K : NameK α) (w : World) (mb : Nat) (L : List α) (x : α) (st : Nat) : Prop :=
  ∃ es1 clock1, w.heap[mb]? = some (.map es1 clock1) ∧ ∀ w2 : World, w2.heap[mb]? = some (.map es1 clock1) → ∃ w3, (Instr.entryStore K.mt (.map (some mb)) (.int .i64 (st : Nat)) (.int .i64 (L.length : Nat))).run Try.prog w2 = .ok () w3 ∧ Hid (MapN K w3 mb (L ++ [x])) ∧ Hid (Fx (fun j => j = mb) w2 w3)
theorem Half.keep {st : Nat} (h : Half K w mb L x st) (hf : Fx S w w') (hn : ¬ S mb) : Half K w' mb L x st := by
  obtain ⟨es1, clock1, h1, h2⟩ := h
  exact ⟨es1, clock1, hf.at_ h1 hn, h2⟩
theorem Half.store {st : Nat} (h : Half K w mb L x st) : ∃ w3, (Instr.entryStore K.mt (.map (some mb)) (.int .i64 (st : Nat)) (.int .i64 (L.length : Nat))).run Try.prog w = .ok () w3 ∧ Hid (MapN K w3 mb (L ++ [x])) ∧ Hid (Fx (fun j => j = mb) w w3) := by
  obtain ⟨es1, clock1, h1, h2⟩ := h
  exact h2 w h1
theorem fx_setBlock {b : Nat} {es es' : Array MapEntry} {clock clock' : Nat} (h : w.heap[b]? = some (.map es clock)) : Fx (fun j => j = b) w (setBlock w b (.map es' clock')) :=
  Fx.ofGrown (World.mapTurned.grown ⟨es, clock, es', clock', h, rfl⟩) fun k hk _ => by simpa using hk.symm
theorem findIdx_arr' (xs : Array MapEntry) (p : MapEntry → Bool) : xs.findIdx? p = xs.toList.findIdx? p := by
  cases xs; simp
theorem findIdx_last {l : List MapEntry} {q : MapEntry → Bool} {x : MapEntry} (h : ∀ e ∈ l, q e = false) (hx : q x = true) : (l ++ [x]).findIdx? q = some l.length := by
  rw [List.findIdx?_append]
  have : l.findIdx? q = none := by
    rw [List.findIdx?_eq_none_iff]; exact h
  rw [this]
  simp [hx]
theorem modify_end {β : Type} (f : β → β) (a : β) : ∀ l : List β, (l ++ [a]).modify l.length f = l ++ [f a]
  | [] => rfl
  | c :: r => by simp [modify_end f a r]
theorem MapN.entry (F : K.Fit) (h : MapN K w mb L) (hl : L.length ≤ 100000) (hx : K.ok x) (hn : x ∉ L) :
    ∃ (v0 : Value) (st : Nat) (w1 : World), (Instr.mapEntry K.mt (.map (some mb)) (K.val x)).run Try.prog w = .ok (.tuple #[v0, .int .i64 (st : Nat)]) w1 ∧ Hid (Half K w1 mb L x st) ∧ Hid (Fx (fun j => j = mb) w w1) := by
  obtain ⟨w', hr, hM, hF⟩ := h.store F hl hx hn
  have HM := hM.out
  obtain ⟨h0, D, ⟨es, clock, hb, Ft, hs, rfl⟩, h2⟩ := h
  have hkey := F.keyOf x hx
  have hno : ∀ y ∈ es.toList, y.key ≠ K.val x := by
    rcases Maps.fit_look true F.keyed F.und (zero_int w) hb Ft hkey with ⟨_, h3, _⟩ | ⟨e0, y, _, _, _, _, hat, _⟩
    · exact h3
    · have h4 := (h2 x hx).1
      rw [Maps.has_true_of_atKey hat, decide_eq_false hn] at h4
      cases h4
  have hf1 : (Instr.findKey K.kt (K.val x) es.toList).run Try.prog w = .ok none w := by
    rcases F.keyed.find w hkey es.toList Ft.keys with ⟨h3, _⟩ | ⟨j, e, _, h4, h5⟩
    · exact h3
    · exact absurd h5 (hno e (List.mem_of_getElem? h4))
  obtain ⟨s1, s2, _⟩ := Ft.stamped
  have hup : (Instr.mapUpdate K.mt (.map (some mb)) (K.val x) (.int .i64 (L.length : Nat))).run Try.prog w = .ok () (setBlock w mb (.map (es.push ⟨K.val x, .int .i64 (L.length : Nat), clock⟩) (clock + 1))) := by
    simp [Instr.mapUpdate, run_underlying F.und, MapKept.run_getObj_map hb, F.keyed.check w false hkey, hf1, MapKept.run_setObj_map _ hb, Result.andThen, setBlock]
  rw [hr] at hup
  obtain rfl : w' = _ := by simpa using hup
  refine ⟨.int .i64 0, clock, setBlock w mb (.map (es.push ⟨K.val x, .int .i64 0, clock⟩) (clock + 1)), ?_, Lib.hid ⟨_, _, heap_setBlock_same hb _, fun w2 hw2 => ?_⟩, Lib.hid (fx_setBlock hb)⟩
  · simp [Instr.mapEntry, run_underlying F.und, MapKept.run_getObj_map hb, F.keyed.check w false hkey, hf1, zero_int, MapKept.run_setObj_map _ hb, Result.andThen, setBlock, goInt]
  · refine ⟨setBlock w2 mb (.map (es.push ⟨K.val x, .int .i64 (L.length : Nat), clock⟩) (clock + 1)), ?_, Lib.hid ?_, Lib.hid (fx_setBlock hw2)⟩
    · have hidx : (es.push ⟨K.val x, .int .i64 0, clock⟩).findIdx? (fun e => ((e.born : Nat) : Int) == ((clock : Nat) : Int)) = some es.size := by
        rw [findIdx_arr', Array.toList_push, findIdx_last]
        · simp
        · intro e he
          have := s1 e he
          simp; omega
        · simp
      have hmod : (es.push ⟨K.val x, .int .i64 0, clock⟩).modify es.size (fun e => { e with val := .int .i64 (L.length : Nat) }) = es.push ⟨K.val x, .int .i64 (L.length : Nat), clock⟩ := by
        apply Array.ext'
        rw [Array.toList_modify, Array.toList_push, Array.toList_push, ← Array.length_toList, modify_end]
      simp [Instr.entryStore, MapKept.run_getObj_map hw2, asInt, asIntOf, hidx, hmod, MapKept.run_setObj_map _ hw2, Result.andThen, setBlock]
    · obtain ⟨k0, D', ⟨es2, clock2, kb, kr⟩, k2⟩ := HM
      rw [heap_setBlock_same hb _] at kb
      obtain ⟨rfl, rfl⟩ : _ = es2 ∧ _ = clock2 := by simpa using kb
      exact ⟨k0, D', ⟨_, _, heap_setBlock_same hw2 _, kr⟩, k2⟩
/-- a table's parts: the map's block, the names' row -/
structure TabP (K : NameK α) (t : TypeId) (w : World) (D : Nat → Prop) (b : Nat) (L : List α) (mv nv : Value) : Prop where
  nd : L.Nodup
  ok : ∀ x ∈ L, K.ok x
  small : L.length ≤ 100000
  lt : ∀ j, D j → j < w.heap.size
  db : D b
  z0 : w.frozen? ⟨b, 0, none⟩ = false
  z1 : w.frozen? ⟨b, 1, none⟩ = false
  c0 : w.cell? ⟨b, 0, none⟩ = some mv
  c1 : w.cell? ⟨b, 1, none⟩ = some nv
  row : w.ownsRow 0 t K.s nv L.length (ncells K L)
  nb : ∀ g, nv.ownBlock = some g → D g ∧ g ≠ b
  map : (mv = .map none ∧ L = []) ∨ ∃ mb, mv = .map (some mb) ∧ D mb ∧ mb ≠ b ∧ ¬ nv.ownBlock = some mb ∧ MapN K w mb L
def TabV (K : NameK α) (t : TypeId) (w : World) (D : Nat → Prop) (b : Nat) (L : List α) : Prop := ∃ mv nv, TabP K t w D b L mv nv
variable {t : TypeId} {D : Nat → Prop} {b : Nat} {mv nv : Value}
theorem TabP.keep (h : TabP K t w D b L mv nv) (hf : Fx S w w') (hd : ∀ j, D j → ¬ S j) : TabP K t w' D b L mv nv := by
  have hb := h.lt _ h.db
  refine ⟨h.nd, h.ok, h.small, fun j hj => Nat.lt_of_lt_of_le (h.lt j hj) hf.size, h.db, (hf.frozen hb (hd _ h.db)).trans h.z0, (hf.frozen hb (hd _ h.db)).trans h.z1, hf.cell' h.c0 (hd _ h.db), hf.cell' h.c1 (hd _ h.db), ownsRow_fx h.row hf fun g e => hd g (h.nb g e).1, h.nb, ?_⟩
  rcases h.map with hm | ⟨mb, e, d1, d2, d3, hm⟩
  · exact .inl hm
  · exact .inr ⟨mb, e, d1, d2, d3, hm.keep hf (hd _ d1)⟩
theorem TabV.keep (h : TabV K t w D b L) (hf : Fx S w w') (hd : ∀ j, D j → ¬ S j) : TabV K t w' D b L := by
  obtain ⟨mv, nv, h⟩ := h
  exact ⟨mv, nv, h.keep hf hd⟩
theorem TabV.no (h : TabV K t w D b L) (hf : Fx No w w') : TabV K t w' D b L := h.keep hf No.disj
theorem TabV.nd (h : TabV K t w D b L) : L.Nodup := by obtain ⟨_, _, h⟩ := h; exact h.nd
theorem TabV.small (h : TabV K t w D b L) : L.length ≤ 100000 := by obtain ⟨_, _, h⟩ := h; exact h.small
theorem TabV.ok (h : TabV K t w D b L) : ∀ x ∈ L, K.ok x := by obtain ⟨_, _, h⟩ := h; exact h.ok
theorem TabV.lt (h : TabV K t w D b L) : ∀ j, D j → j < w.heap.size := by obtain ⟨_, _, h⟩ := h; exact h.lt
theorem TabP.look (F : K.Fit) (h : TabP K t w D b L mv nv) (hx : K.ok x) : (Instr.lookup K.mt mv (K.val x) true).run Try.prog w = .ok (.tuple #[.int .i64 (fnd L x), .bool (isIn L x)]) w := by
  rcases h.map with ⟨rfl, rfl⟩ | ⟨mb, rfl, _, _, _, hm⟩
  · rw [look_nil F hx]; simp [fnd, isIn]
  · exact hm.look F hx
/-- a slice of names, in blocks of D -/
theorem TabP.names (h : TabP K t w D b L mv nv) : NamV K w (fun j => nv.ownBlock = some j) nv L := by
  obtain ⟨ao, cap, h1, h2, h3, h4, h5, h6⟩ := SlV.ofOwns h.row
  subst h1
  refine ⟨ao, cap, rfl, h2, h3, h4, h5, ?_⟩
  rcases h6 with h6 | ⟨g, o, h7, h8, h9⟩
  · exact .inl h6
  · refine .inr ⟨g, o, h7, ?_, h9⟩
    rcases h.row.2 with ⟨e1, _⟩ | ⟨g', cap', cur, e1, _⟩
    · simp only [Value.slice.injEq] at e1; rw [e1.1] at h7; cases h7
    · simp only [Value.slice.injEq] at e1
      rw [e1.1] at h7
      simp only [Option.some.injEq, Addr.mk.injEq] at h7
      obtain ⟨rfl, rfl, _⟩ := h7
      rw [e1.1]; rfl
theorem TabP.namesD (h : TabP K t w D b L mv nv) : NamV K w D nv L := h.names.mono fun j e => (h.nb j e).1
/-- a new table -/
theorem TabV.new (w : World) (T : TypeId) : TabV K t (w.alloc (.cells #[.map none, .slice none 0 0] T)) (fun j => j = w.heap.size) w.heap.size [] :=
  ⟨.map none, .slice none 0 0, ⟨List.nodup_nil, by simp, by simp, fun j e => (by rw [e]; simp), rfl, by simp, by simp, by simp, by simp, World.ownsRow_nil _ _ _ _, fun g e => (by cases e), .inl ⟨rfl, rfl⟩⟩⟩
/-- the first name: a map is made -/
theorem TabP.made (h : TabP K t w D b L (.map none) nv) : ∃ D', TabP K t ((w.alloc (.map #[] 0)).setCell ⟨b, 0, none⟩ (.map (some w.heap.size))) D' b L (.map (some w.heap.size)) nv ∧ (∀ j, D' j → D j ∨ w.heap.size ≤ j) ∧ Fx D w ((w.alloc (.map #[] 0)).setCell ⟨b, 0, none⟩ (.map (some w.heap.size))) := by
  obtain ⟨_, rfl⟩ : _ ∧ L = [] := by
    rcases h.map with h1 | ⟨mb, h1, _⟩
    · exact h1
    · cases h1
  have hb := h.lt _ h.db
  have hnm : ∀ g, nv.ownBlock = some g → g < w.heap.size := fun g e => h.lt g (h.nb g e).1
  have hA : Fx No w (w.alloc (.map #[] 0)) := (Fx.refl No w).alloc _
  have hP := Fx.put (w.alloc (.map #[] 0)) b 0 (.map (some w.heap.size))
  have hsz : (w.alloc (.map #[] 0)).heap.size = w.heap.size + 1 := by simp
  have hsz2 : ((w.alloc (.map #[] 0)).setCell ⟨b, 0, none⟩ (.map (some w.heap.size))).heap.size = w.heap.size + 1 := by rw [← hsz]; simp [World.setCell]
  have hall : Fx D w ((w.alloc (.map #[] 0)).setCell ⟨b, 0, none⟩ (.map (some w.heap.size))) := (hA.no (S := D)).setCell (.inr h.db) _
  have c0 := hA.cell' h.c0 (fun h => h)
  have c1 := hA.cell' h.c1 (fun h => h)
  refine ⟨fun j => (D j ∨ w.heap.size ≤ j) ∧ j < w.heap.size + 1, ⟨h.nd, h.ok, h.small, fun j hj => by rw [hsz2]; exact hj.2, ⟨.inl h.db, by omega⟩, ?_, ?_, World.cell?_setCell_same _ _ _ c0, ?_, ?_, fun g e => ⟨⟨.inl (h.nb g e).1, by have := hnm g e; omega⟩, (h.nb g e).2⟩, .inr ⟨_, rfl, ⟨.inr (Nat.le_refl _), by omega⟩, by omega, fun e => by have := hnm _ e; omega, ?_⟩⟩, fun j hj => hj.1, hall⟩
  · have := h.z0
    have h2 := (hA.frozen (a := ⟨b, 0, none⟩) hb (fun h => h)).trans this
    simpa using h2
  · have := h.z1
    have h2 := (hA.frozen (a := ⟨b, 1, none⟩) hb (fun h => h)).trans this
    simpa using h2
  · rw [World.cell?_setCell_other]
    · exact c1
    · simp
  · exact ownsRow_fx (ownsRow_fx h.row hA fun _ _ h => h) hP fun g e e2 => (h.nb g e).2 e2
  · exact MapN.keep (MapN.made w) hP fun e => by omega
/-- one more name -/
theorem TabP.put {w3 w4 w5 w6 : World} {mb : Nat} {nv' : Value} (F : K.Fit) (h : TabP K t w D b L (.map (some mb)) nv) (h3 : Fx No w w3) (ho : w4.ownsRow 0 t K.s nv' (L.length + 1) (ncells K L ++ K.cells x)) (hf4 : Fx (fun k => nv.ownBlock = some k) w3 w4)
    (hb4 : ∀ g, nv'.ownBlock = some g → nv.ownBlock = some g ∨ w3.heap.size ≤ g) (hM : MapN K w6 mb (L ++ [x])) (hf5 : Fx (fun j => j = mb) w4 w5) (hf6 : Fx (fun j => j = mb) w5 w6) (hx : K.ok x) (hn : x ∉ L) (hl : L.length + 1 ≤ 100000) :
    ∃ D', TabP K t (w6.setCell ⟨b, 1, none⟩ nv') D' b (L ++ [x]) (.map (some mb)) nv' ∧ (∀ j, D' j → D j ∨ w.heap.size ≤ j) ∧ Fx D w (w6.setCell ⟨b, 1, none⟩ nv') := by
  obtain ⟨mb', e, d1, d2, d3, _⟩ : ∃ mb', mb = mb' ∧ D mb' ∧ mb' ≠ b ∧ ¬ nv.ownBlock = some mb' ∧ MapN K w mb' L := by
    rcases h.map with h1 | ⟨mb', h1, h2⟩
    · cases h1.1
    · exact ⟨mb', by simpa using h1, h2⟩
  subst e
  have hb := h.lt _ h.db
  have hmb := h.lt _ d1
  have z3 := h3.size
  have z4 := hf4.size
  have z5 := hf5.size
  have z6 := hf6.size
  have hnb : ∀ g, nv.ownBlock = some g → g ≠ b := fun g e => (h.nb g e).2
  have hb' : ¬ nv.ownBlock = some b := fun e => hnb b e rfl
  have hbm : ¬ b = mb := fun e => d2 e.symm
  have hall : Fx D w w6 := (((h3.no (S := D)).trans' hf4 fun j e _ => (h.nb j e).1).trans' hf5 fun j e _ => e ▸ d1).trans' hf6 fun j e _ => e ▸ d1
  have hs7 : (w6.setCell ⟨b, 1, none⟩ nv').heap.size = w6.heap.size := by simp [World.setCell]
  have hP := Fx.put w6 b 1 nv'
  have c0 := hf6.cell' (hf5.cell' (hf4.cell' (h3.cell' h.c0 (fun h => h)) hb') hbm) hbm
  have c1 := hf6.cell' (hf5.cell' (hf4.cell' (h3.cell' h.c1 (fun h => h)) hb') hbm) hbm
  have fz : ∀ i, w.frozen? ⟨b, i, none⟩ = false → w6.frozen? ⟨b, i, none⟩ = false := fun i hz => by
    rw [hf6.frozen (a := ⟨b, i, none⟩) (by simp only; omega) hbm, hf5.frozen (a := ⟨b, i, none⟩) (by simp only; omega) hbm, hf4.frozen (a := ⟨b, i, none⟩) (by simp only; omega) hb', h3.frozen (a := ⟨b, i, none⟩) hb (fun h => h)]
    exact hz
  have own' : ∀ g, nv'.ownBlock = some g → g < w4.heap.size ∧ g ≠ b ∧ g ≠ mb ∧ (D g ∨ w.heap.size ≤ g) := fun g e => by
    have h1 := (World.ownsRow.lt ho g e).2
    rcases hb4 g e with h2 | h2
    · exact ⟨h1, hnb g h2, fun q => d3 (q ▸ h2), .inl (h.nb g h2).1⟩
    · exact ⟨h1, by omega, by omega, .inr (by omega)⟩
  refine ⟨fun j => (D j ∨ w.heap.size ≤ j) ∧ j < w6.heap.size, ⟨?_, fun y hy => ?_, by simpa using hl, fun j hj => by rw [hs7]; exact hj.2, ⟨.inl h.db, by omega⟩, ?_, ?_, ?_, World.cell?_setCell_same _ _ _ c1, ?_, fun g e => ?_, .inr ⟨mb, rfl, ⟨.inl d1, by omega⟩, d2, fun e => (own' mb e).2.2.1 rfl, ?_⟩⟩, fun j hj => hj.1, hall.setCell (.inr h.db) _⟩
  · have := nodup_add1 (k := x) h.nd
    rwa [add1_out hn] at this
  · rcases List.mem_append.1 hy with hy | hy
    · exact h.ok y hy
    · rw [List.mem_singleton.1 hy]; exact hx
  · simpa using fz 0 h.z0
  · simpa using fz 1 h.z1
  · rw [World.cell?_setCell_other]
    · exact c0
    · simp
  · rw [List.length_append, ncells_append, ncells_single]
    exact ownsRow_fx (ownsRow_fx (ownsRow_fx ho hf5 fun g e q => (own' g e).2.2.1 q) hf6 fun g e q => (own' g e).2.2.1 q) hP fun g e q => (own' g e).2.1 q
  · obtain ⟨h1, h2, h3, h4⟩ := own' g e
    exact ⟨⟨h4, by omega⟩, h2⟩
  · exact hM.keep hP fun e => d2 e
end
#print axioms MapN.store
#print axioms TabP.put
end Go.Proofs.Ytpegloapdkfgiaa
