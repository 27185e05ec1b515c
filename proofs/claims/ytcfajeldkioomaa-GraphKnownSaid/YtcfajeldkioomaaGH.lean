/- graph: what a graph is; Len, Many, Has, of, Out, In. -/
import Derived.Test.YtcfajeldkioomaaGG
namespace Go.Proofs.Ytcfajeldkioomaa
open Go.RowKit
set_option linter.unusedVariables false

/-- a graph's parts -/
structure GParts (w : World) (D : Nat → Prop) (b n : Nat) (L : List Ed) (ob ib mb : Nat) (DO DI : Nat → Prop) : Prop where
  db : D b
  dm : D mb
  dO : ∀ x, DO x → D x
  dI : ∀ x, DI x → D x
  ap : ∀ x, DO x → ¬ DI x
  bO : ¬ DO b
  bI : ¬ DI b
  mO : ¬ DO mb
  mI : ¬ DI mb
  bm : b ≠ mb
  c0 : w.cell? ⟨b, 0, none⟩ = some (.slice (some ⟨ob, 0, none⟩) n n)
  c1 : w.cell? ⟨b, 1, none⟩ = some (.slice (some ⟨ib, 0, none⟩) n n)
  c2 : w.cell? ⟨b, 2, none⟩ = some (.map (some mb))
  outs : RowsV w DO ob n (outE L)
  ins : RowsV w DI ib n (inE L)
  map : MapE w mb L
/-- a graph of n nodes with the edges L -/
structure GraphV (w : World) (D : Nat → Prop) (b n : Nat) (L : List Ed) : Prop where
  asc : Asc L
  nodes : ∀ x ∈ L, (0 ≤ x.f ∧ x.f < (n : Int)) ∧ 0 ≤ x.t ∧ x.t < (n : Int)
  small : L.length ≤ 1000000
  nn : n ≤ 70000
  lt : ∀ x, D x → x < w.heap.size
  ex : ∃ ob ib mb DO DI, GParts w D b n L ob ib mb DO DI
section
variable {w w' : World} {D S T : Nat → Prop} {b n : Nat} {L : List Ed} {ob ib mb : Nat} {DO DI : Nat → Prop}
theorem GParts.keep (h : GParts w D b n L ob ib mb DO DI) (hf : Fx S w w') (hd : ∀ k, D k → ¬ S k) : GParts w' D b n L ob ib mb DO DI :=
  { h with
    c0 := hf.cell' h.c0 (hd _ h.db)
    c1 := hf.cell' h.c1 (hd _ h.db)
    c2 := hf.cell' h.c2 (hd _ h.db)
    outs := h.outs.keep hf fun k hk => hd k (h.dO k hk)
    ins := h.ins.keep hf fun k hk => hd k (h.dI k hk)
    map := h.map.keep hf (hd _ h.dm) }
theorem GraphV.keep (h : GraphV w D b n L) (hf : Fx S w w') (hd : ∀ k, D k → ¬ S k) : GraphV w' D b n L := by
  obtain ⟨ob, ib, mb, DO, DI, hp⟩ := h.ex
  exact ⟨h.asc, h.nodes, h.small, h.nn, fun x hx => Nat.lt_of_lt_of_le (h.lt x hx) hf.size, ob, ib, mb, DO, DI, hp.keep hf hd⟩
theorem GraphV.no (h : GraphV w D b n L) (hf : Fx No w w') : GraphV w' D b n L := h.keep hf No.disj
theorem GraphV.ok (h : GraphV w D b n L) : ∀ x ∈ L, x.ok := by
  obtain ⟨ob, ib, mb, DO, DI, hp⟩ := h.ex
  exact hp.map.ok
theorem outE_len (L : List Ed) (i : Nat) : (outE L i).length ≤ L.length := List.length_filter_le _ _
theorem inE_len (L : List Ed) (i : Nat) : (inE L i).length ≤ L.length := List.length_filter_le _ _
/-- the row of whatever number -/
def rowI (rr : Nat → List Ed) (n : Nat) (m : Int) : List Ed := if 0 ≤ m ∧ m < (n : Int) then rr m.toNat else []
theorem gLen_any (h : GraphV w D b n L) : Calls Try.prog 30 #[.pointer (some ⟨b, 0, none⟩)] w fun e w' => e = .returned (.int .i64 (n : Nat)) ∧ w = w' := by
  obtain ⟨ob, ib, mb, DO, DI, hp⟩ := h.ex
  have c0 := hp.c0
  clear h hp
  go_enter Try.func30, Try.ntmps30
  go_wp2
  go_ret
  exact ⟨rfl, rfl⟩
theorem gMany_any (h : GraphV w D b n L) : Calls Try.prog 33 #[.pointer (some ⟨b, 0, none⟩)] w fun e w' => e = .returned (.int .i64 (L.length : Nat)) ∧ w = w' := by
  obtain ⟨ob, ib, mb, DO, DI, hp⟩ := h.ex
  have c2 := hp.c2
  have hlen : ∀ ty, (Builtin.len_ #[76] ty #[.map (some mb)]).run Try.prog w = .ok (.int .i64 (L.length : Nat)) w := hp.map.len
  clear h hp
  go_enter Try.func33, Try.ntmps33
  go_wp2
  go_ret
  exact ⟨rfl, rfl⟩
theorem gNode_any (h : GraphV w D b n L) (m : Int) : Calls Try.prog 49 #[.pointer (some ⟨b, 0, none⟩), .int .i64 m] w fun e w' => e = .returned (.bool (decide (0 ≤ m ∧ m < (n : Int)))) ∧ w = w' := by
  have H := Lib.hid h
  clear h
  by_cases h1 : 0 ≤ m
  · have d1 : decide (0 ≤ m) = true := decide_eq_true h1
    have he : decide (0 ≤ m ∧ m < (n : Int)) = decide (m < (n : Int)) := by simp [h1]
    rw [he]
    clear he
    go_enter Try.func49, Try.ntmps49
    go_wp2_with fail
    refine (gLen_any H.out).mono ?_
    rintro e w' ⟨rfl, rfl⟩
    go_wp2
    go_ret
    exact ⟨rfl, rfl⟩
  · have d1 : decide (0 ≤ m) = false := decide_eq_false h1
    have he : decide (0 ≤ m ∧ m < (n : Int)) = false := by simp [h1]
    rw [he]
    clear he
    go_enter Try.func49, Try.ntmps49
    go_wp2
    go_ret
    exact ⟨rfl, rfl⟩
theorem of_any {o sb : Nat} {rr : Nat → List Ed} (hc : w.cell? ⟨b, o, none⟩ = some (.slice (some ⟨sb, 0, none⟩) n n)) (h : RowsV w D sb n rr) (hl : ∀ i, i < n → (rr i).length ≤ 1000000) (m : Int) :
    Calls Try.prog 56 #[.pointer (some ⟨b, o, none⟩), .int .i64 m] w fun e w' => ∃ v', e = .returned v' ∧ Fx No w w' ∧ OwnT 25 e3 3 w' w.heap.size v' (rowI rr n m) := by
  have H := Lib.hid h
  have HL := Lib.hid hl
  have HE : Hid (rowI rr n m = if 0 ≤ m ∧ m < (n : Int) then rr m.toNat else []) := Lib.hid rfl
  clear h hl
  by_cases h1 : m < 0
  · have d1 : decide (m < 0) = true := decide_eq_true h1
    rw [HE.out, if_neg (by omega)]
    go_enter Try.func56, Try.ntmps56
    go_wp2
    go_ret
    exact ⟨_, rfl, Fx.refl _ _, OwnT.nil _ _⟩
  · obtain ⟨i, rfl⟩ := Int.eq_ofNat_of_zero_le (by omega : 0 ≤ m)
    have d1 : decide ((i : Int) < 0) = false := decide_eq_false (by omega)
    by_cases h2 : i < n
    · have d2 : decide ((n : Int) ≤ (i : Int)) = false := decide_eq_false (by omega)
      have hin0 : (0 : Int) ≤ (i : Int) := by omega
      have hin1 : (i : Int) < (n : Int) := by omega
      obtain ⟨v, hv, hr⟩ := H.out.rowAt h2
      have HR := Lib.hid hr
      have hll := HL.out i h2
      rw [HE.out, if_pos ⟨by omega, by omega⟩, show ((i : Int)).toNat = i from rfl]
      clear hr
      go_enter Try.func56, Try.ntmps56
      go_wp2_with fail
      refine (clone_any HR.out hll).mono ?_
      rintro e w' ⟨v', rfl, hf, ho⟩
      have HF := Lib.hid hf
      have HO := Lib.hid ho
      clear hf ho
      go_wp2
      go_ret
      exact ⟨_, rfl, HF.out, HO.out⟩
    · have d2 : decide ((n : Int) ≤ (i : Int)) = true := decide_eq_true (by omega)
      rw [HE.out, if_neg (by omega)]
      go_enter Try.func56, Try.ntmps56
      go_wp2
      go_ret
      exact ⟨_, rfl, Fx.refl _ _, OwnT.nil _ _⟩
theorem gOut_any (h : GraphV w D b n L) (m : Int) : Calls Try.prog 31 #[.pointer (some ⟨b, 0, none⟩), .int .i64 m] w fun e w' => ∃ v', e = .returned v' ∧ Fx No w w' ∧ OwnT 25 e3 3 w' w.heap.size v' (rowI (outE L) n m) := by
  have H := Lib.hid h
  obtain ⟨ob, ib, mb, DO, DI, hp⟩ := h.ex
  have HP := Lib.hid hp
  clear h hp
  go_enter Try.func31, Try.ntmps31
  go_wp2_with fail
  refine (of_any HP.out.c0 HP.out.outs (fun i _ => Nat.le_trans (outE_len L i) H.out.small) m).mono ?_
  rintro e w' ⟨v', rfl, hf, ho⟩
  have HF := Lib.hid hf
  have HO := Lib.hid ho
  clear hf ho
  go_wp2
  go_ret
  exact ⟨_, rfl, HF.out, HO.out⟩
theorem gIn_any (h : GraphV w D b n L) (m : Int) : Calls Try.prog 32 #[.pointer (some ⟨b, 0, none⟩), .int .i64 m] w fun e w' => ∃ v', e = .returned v' ∧ Fx No w w' ∧ OwnT 25 e3 3 w' w.heap.size v' (rowI (inE L) n m) := by
  have H := Lib.hid h
  obtain ⟨ob, ib, mb, DO, DI, hp⟩ := h.ex
  have HP := Lib.hid hp
  clear h hp
  go_enter Try.func32, Try.ntmps32
  go_wp2_with fail
  refine (of_any HP.out.c1 HP.out.ins (fun i _ => Nat.le_trans (inE_len L i) H.out.small) m).mono ?_
  rintro e w' ⟨v', rfl, hf, ho⟩
  have HF := Lib.hid hf
  have HO := Lib.hid ho
  clear hf ho
  go_wp2
  go_ret
  exact ⟨_, rfl, HF.out, HO.out⟩
end
#print axioms gIn_any
end Go.Proofs.Ytcfajeldkioomaa
