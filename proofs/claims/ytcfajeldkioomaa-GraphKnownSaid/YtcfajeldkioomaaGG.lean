/- graph: the map of edges. -/
import Derived.Test.YtcfajeldkioomaaGF
import Derived.Maps.OwnSet
import Derived.Maps.RangeWalk
import Derived.Maps.Ext
import Derived.DeepKeys4
namespace Go.Proofs.Ytcfajeldkioomaa
open Go.RowKit
open Go.Maps (Keyed)
set_option linter.unusedVariables false

theorem laidOutG : laidOutB Try.prog = true := by kernel_rfl
theorem rowE : (25 : TypeId) < Try.prog.types.size := of_decide_eq_true (by kernel_rfl)
theorem law_edge : Keyed Try.prog 25 := Keyed.of_law (deep_law_laid laidOutG (m := 2) (by omega) rowE (by kernel_rfl) (by kernel_rfl))
def Ok64 (x : Int) : Prop := -9223372036854775808 ≤ x ∧ x ≤ 9223372036854775807
/-- an edge of numbers of 64 bits -/
structure Ed.ok (e : Ed) : Prop where
  f : Ok64 e.f
  t : Ok64 e.t
  l : Ok64 e.l
def keyE (e : Ed) : Lit := .string (keyBytes [.int .i64 e.f, .int .i64 e.t, .int .i64 e.l])
theorem wf64 {x : Int} (h : Ok64 x) : (Lit.int .i64 x).wf = true := by
  unfold Ok64 at h
  exact WalkArith.wf_i64 (by omega)
theorem typesPos : ∃ m, Try.prog.types.size = m + 1 := by
  have h := rowE
  revert h
  generalize Try.prog.types.size = s
  intro h
  cases s with
  | zero => exact absurd h (Nat.not_lt_zero _)
  | succ m => exact ⟨m, rfl⟩
theorem fieldsE : (Try.prog.fieldsOf 25).toList.map (fun f => (f.name, f.type, f.offset)) = [("From", 0), ("To", 1), ("Label", 2)].map fun q => (q.1, 3, q.2) := by kernel_rfl
theorem key_edge {e : Ed} (h : e.ok) : keyOf Try.prog 25 (evE e) = some (keyE e) := by
  obtain ⟨m, hm⟩ := typesPos
  obtain ⟨j, hj, _, hjs, _⟩ := info_parts info_int'
  have hc : Try.prog.cellsOf 3 = 1 := by simp [Program.cellsOf, hj, hjs]
  obtain ⟨ii, hi, _, hs, _⟩ := info_edge'
  have hce : Try.prog.cellsOf 25 = 3 := by simp [Program.cellsOf, hi, hs]
  have hk : Try.prog.keyType 25 = true := by kernel_rfl
  have hv : (evE e).formed Try.prog 25 = true := by simp [evE, Value.formed, Try.underlying25, hce]
  have hcells : (evE e).cells.toList = [.int .i64 e.f, .int .i64 e.t, .int .i64 e.l] := rfl
  have w1 := wf64 h.f
  have w2 := wf64 h.t
  have w3 := wf64 h.l
  unfold keyOf
  rw [Try.underlying25]
  simp only [hk, hv, Bool.and_self, if_true, hcells, hm]
  simp [Program.keyLits, Try.underlying25, Try.underlying3, hc, hce, w1, w2, w3, keyE]
theorem keyE_inj {a b : Ed} (ha : a.ok) (hb : b.ok) (h : keyE a = keyE b) : a = b := by
  have h1 := key_edge ha
  rw [h] at h1
  have h2 := law_edge.inj h1 (key_edge hb)
  simp [evE] at h2
  exact Ed.ext' h2.1 h2.2.1 h2.2.2
theorem zero_unit (w : World) : (zeroValue 77).run Try.prog w = .ok (.agg #[]) w := by kernel_rfl
abbrev unitR : Value → Option (DataW Unit × List MemPlace) := unitElem (H := Unit)
/-- the map of the edges of a row -/
structure MapE (w : World) (mb : Nat) (L : List Ed) : Prop where
  ok : ∀ x ∈ L, x.ok
  ex : ∃ D : DataW Unit, w.ownsMap Try.prog 25 unitR mb L.length D ∧ (∀ e, e.ok → Maps.has D (keyE e) = decide (e ∈ L)) ∧ Maps.size D = L.length ∧ ∀ kl, Maps.has D kl = true → ∃ e, e ∈ L ∧ kl = keyE e
theorem ownsMap_tight {w : World} {k : TypeId} {R : Value → Option (DataW Unit × List MemPlace)} {b n : Nat} {D : DataW Unit} (h : w.ownsMap Try.prog k R b n D) : w.ownsMap Try.prog k R b (Maps.size D) D := by
  obtain ⟨es, clock, hb, F, hs, rfl⟩ := h
  exact ⟨es, clock, hb, F, by simp [Maps.size, length_sorted], rfl⟩
section
variable {w w' : World} {S : Nat → Prop} {mb : Nat} {L : List Ed} {e : Ed}
theorem MapE.lt (h : MapE w mb L) : mb < w.heap.size := by obtain ⟨_, D, h1, _⟩ := h; exact h1.lt
theorem MapE.keep (h : MapE w mb L) (hf : Fx S w w') (hn : ¬ S mb) : MapE w' mb L := by
  obtain ⟨h0, D, ⟨es, clock, h1, h2⟩, h3⟩ := h
  exact ⟨h0, D, ⟨es, clock, hf.at_ h1 hn, h2⟩, h3⟩
theorem MapE.no (h : MapE w mb L) (hf : Fx No w w') : MapE w' mb L := h.keep hf fun h => h
theorem MapE.made (w : World) : MapE (w.alloc (.map #[] 0)) w.heap.size [] :=
  ⟨by simp, _, World.ownsMap_made w _ _ _, fun e _ => by simp [Maps.has], rfl, fun kl h => by simp [Maps.has] at h⟩
theorem MapE.look (h : MapE w mb L) (he : e.ok) : (Instr.lookup 76 (.map (some mb)) (evE e) true).run Try.prog w = .ok (.tuple #[.agg #[], .bool (decide (e ∈ L))]) w := by
  obtain ⟨h0, D, h1, h2, _⟩ := h
  obtain ⟨v, ps, hr, hv⟩ := h1.look_ok law_edge Try.underlying76 (zero_unit w) unitElem_mk (key_edge he)
  obtain ⟨rfl, _⟩ := unitElem_inv hv
  rw [hr, h2 e he]
theorem MapE.len (h : MapE w mb L) (ty : TypeId) : (Builtin.len_ #[76] ty #[.map (some mb)]).run Try.prog w = .ok (.int .i64 (L.length : Nat)) w := by
  obtain ⟨h0, D, h1, _, h3, _⟩ := h
  rw [h1.len Try.underlying76 ty, h3]
theorem MapE.store (h : MapE w mb L) (ha : Asc L) (hl : L.length ≤ 1000000) (he : e.ok) (hn : e ∉ L) :
    ∃ w', (Instr.mapUpdate 76 (.map (some mb)) (evE e) (.agg #[])).run Try.prog w = .ok () w' ∧ Hid (MapE w' mb (insE e L)) ∧ Hid (Fx (fun j => j = mb) w w') := by
  obtain ⟨h0, D, h1, h2, h3, h4⟩ := h
  obtain ⟨w', hr, g1, g2⟩ := h1.store law_edge Try.underlying76 (by unfold maxLen; omega) (key_edge he) (unitElem_mk (H := Unit))
  have hK := law_edge.key (key_edge he)
  have hm := h1.isMap
  refine ⟨w', hr, Lib.hid ⟨fun x hx => ?_, D.put (keyE e) (.agg []), ?_, fun x hx => ?_, ?_, fun kl hk => ?_⟩, Lib.hid (Fx.ofGrown g2.grown fun k hk _ => by simpa using hk.symm)⟩
  · rcases mem_insE.1 hx with rfl | hx
    · exact he
    · exact h0 x hx
  · rw [length_insE ha hn]; exact g1
  · by_cases hxe : x = e
    · subst hxe
      rw [Maps.has_put_same hm hK, decide_eq_true (mem_insE.2 (.inl rfl))]
    · have hne : keyE x ≠ keyE e := fun q => hxe (keyE_inj hx he q)
      rw [Maps.has_put_other hne, h2 x hx]
      rw [Bool.eq_iff_iff, decide_eq_true_iff, decide_eq_true_iff, mem_insE]
      exact ⟨.inr, fun q => q.resolve_left hxe⟩
  · rw [Maps.size_put (h1.tidy law_edge), h2 e he, decide_eq_false hn, h3, length_insE ha hn]; rfl
  · by_cases hke : kl = keyE e
    · exact ⟨e, mem_insE.2 (.inl rfl), hke⟩
    · rw [Maps.has_put_other hke] at hk
      obtain ⟨x, hx, hx2⟩ := h4 kl hk
      exact ⟨x, mem_insE.2 (.inr hx), hx2⟩
theorem MapE.drop (h : MapE w mb L) (ha : Asc L) (he : e ∈ L) (ty : TypeId) :
    ∃ w', (Builtin.delete_ #[76, 25] ty #[.map (some mb), evE e]).run Try.prog w = .ok (.tuple #[]) w' ∧ Hid (MapE w' mb (delE e L)) ∧ Hid (Fx (fun j => j = mb) w w') := by
  obtain ⟨h0, D, h1, h2, h3, h4⟩ := h
  have heo := h0 e he
  obtain ⟨w', hr, g1, g2⟩ := h1.drop law_edge Try.underlying76 (key_edge heo) ty
  have hK := law_edge.key (key_edge heo)
  have hsz := Maps.size_del (h1.tidy law_edge) (k := keyE e)
  rw [h2 e heo, decide_eq_true he, h3] at hsz
  have hln := length_delE ha he
  have hsz2 : Maps.size (D.del (keyE e)) = (delE e L).length := by simp at hsz; omega
  refine ⟨w', hr, Lib.hid ⟨fun x hx => h0 x (mem_delE.1 hx).1, D.del (keyE e), ?_, fun x hx => ?_, hsz2, fun kl hk => ?_⟩, Lib.hid (Fx.ofGrown g2.grown fun k hk _ => by simpa using hk.symm)⟩
  · rw [← hsz2]; exact ownsMap_tight g1
  · by_cases hxe : x = e
    · subst hxe
      rw [Maps.has_del_same, decide_eq_false (fun q => (mem_delE.1 q).2 rfl)]
    · have hne : keyE x ≠ keyE e := fun q => hxe (keyE_inj hx heo q)
      rw [Maps.has_del_other hne, h2 x hx]
      rw [Bool.eq_iff_iff, decide_eq_true_iff, decide_eq_true_iff, mem_delE]
      exact ⟨fun q => ⟨q, hxe⟩, fun q => q.1⟩
  · have hke : kl ≠ keyE e := by
      rintro rfl
      rw [Maps.has_del_same] at hk
      cases hk
    rw [Maps.has_del_other hke] at hk
    obtain ⟨x, hx, hx2⟩ := h4 kl hk
    exact ⟨x, mem_delE.2 ⟨hx, fun q => hke (by rw [hx2, q])⟩, hx2⟩
end
#print axioms MapE.store
#print axioms MapE.drop
end Go.Proofs.Ytcfajeldkioomaa
