/- closure's rows: join. -/
import Derived.Test.YtfpggeiphbekoaaDoorFam
namespace Go.Proofs.YtfpggeiphbekoaaDoor
open Go.RowKit
set_option linter.unusedVariables false

/-- the same place, blocks that are there alone -/
def FC.cut (c : FC) (w : World) : FC := ⟨c.v, c.B, fun k => c.G k ∧ k < w.heap.size, fun i k => c.Ds i k ∧ k < w.heap.size⟩
theorem Fam.cut {w : World} {D : Nat → Prop} {n : Nat} {M : Nat → Nat} {c : FC} (h : Fam w D n M c) : Fam w (fun k => D k ∧ k < w.heap.size) n M (c.cut w) :=
  ⟨h.row.bound, fun i hi => (h.set i hi).bound, fun i j k h1 h2 => h.dj i j k h1.1 h2.1, fun i k h1 h2 => h.dg i k h1.1 h2.1, fun k h1 => ⟨h.gD k h1.1, h1.2⟩, fun i k h1 => ⟨h.sD i k h1.1, h1.2⟩⟩
theorem Fam.uncut {w0 w w' : World} {D D' : Nat → Prop} {n : Nat} {M M0 : Nat → Nat} {c : FC} (h : Fam w' D' n M (c.cut w)) (h0 : Fam w0 D n M0 c) : Fam w' D n M c :=
  ⟨h.row.mono fun k hk => hk.1, fun i hi => (h.set i hi).mono fun k hk => hk.1, h0.dj, h0.dg, h0.gD, h0.sD⟩
/-- the sets of some nodes, Y joined in -/
def joinM (n Y : Nat) (l : List Int) (M : Nat → Nat) : Nat → Nat := fun i => if (i : Int) ∈ l then (M i ||| Y) % 2 ^ n else M i
theorem joinM_lt {n Y : Nat} {l : List Int} {M : Nat → Nat} {i : Nat} (h : M i < 2 ^ n) : joinM n Y l M i < 2 ^ n := by
  unfold joinM; split
  · exact Nat.mod_lt _ (Nat.two_pow_pos n)
  · exact h
theorem joinM_snoc {n Y x : Nat} {l : List Int} {M : Nat → Nat} : ∀ i, (if i = x then (joinM n Y l M x ||| Y) % 2 ^ n else joinM n Y l M i) = joinM n Y (l ++ [(x : Int)]) M i := by
  intro i
  by_cases e : i = x
  · subst e
    rw [if_pos rfl]
    unfold joinM
    rw [if_pos (by simp : (i : Int) ∈ l ++ [(i : Int)])]
    split
    · apply Nat.eq_of_testBit_eq
      intro j
      simp only [Nat.testBit_mod_two_pow, Nat.testBit_or]
      cases decide (j < n) <;> cases (M i).testBit j <;> cases Y.testBit j <;> rfl
    · rfl
  · rw [if_neg e]
    unfold joinM
    have h : ((i : Int) ∈ l ++ [(x : Int)]) ↔ (i : Int) ∈ l := by
      rw [List.mem_append, List.mem_singleton]
      constructor
      · rintro (h | h)
        · exact h
        · omega
      · exact .inl
    by_cases hm : (i : Int) ∈ l
    · rw [if_pos hm, if_pos (h.2 hm)]
    · rw [if_neg hm, if_neg fun hh => hm (h.1 hh)]
theorem joinM_nil (n Y : Nat) (M : Nat → Nat) : joinM n Y [] M = M := by funext i; simp [joinM]
theorem rawX_one (X Y : Nat) : rawX 0 X [Y] = X ||| Y := rfl
set_option maxHeartbeats 1000000 in
theorem rowsJoin_any {w : World} {D E E2 : Nat → Prop} {n m m2 X Y : Nat} {M : Nat → Nat} {c : FC} {p q : Option Addr} {u : Value} (h : Fam w D n M c) (hp : SetP w E p m X) (hm : m ≤ n)
    (hu : SlV w E2 u 1 1 [.pointer q]) (hq : SetP w E2 q m2 Y) (hd : ∀ k, E2 k → ¬ D k) (hT : TabOk w) :
    Calls Tryd.prog 43 #[.agg #[c.v], .pointer p, u] w fun e w' => e = .returned (.tuple #[]) ∧ Fx D w w' ∧ Fam w' D n (joinM n Y (allX m X) M) c := by
  obtain ⟨ao, cap, hv, _⟩ := h.facts
  have H := Lib.hid h
  have HP := Lib.hid hp
  have HU := Lib.hid hu
  have HQ := Lib.hid hq
  have HD := Lib.hid hd
  have HT := Lib.hid hT
  have HV : Hid ((c.cut w).v = .slice ao n cap) := Lib.hid hv
  have hle := h.le
  rw [hv]
  obtain ⟨l, hl⟩ : ∃ l, l = allX m X := ⟨_, rfl⟩
  have HL : Hid (∀ k, k < l.length → ∃ x : Nat, gi l k = (x : Int) ∧ x < n) := Lib.hid fun k hk => by
    have := gi_mem hk
    rw [hl] at this
    obtain ⟨x, h1, h2, _⟩ := mem_allX.1 this
    exact ⟨x, by rw [hl]; exact h1, by omega⟩
  rw [← hl]
  have hll : l.length ≤ m := by rw [hl]; exact allX_length_le _ _
  have HLe := Lib.hid hl
  clear h hp hu hq hd hT hv hl
  go_enter Tryd.func43, Tryd.ntmps43
  go_wp2_with fail
  refine (all_any (HP.out.no' ((Fx.refl No w).alloc _)) (HT.out.keep ((Fx.refl No w).alloc _) (fun h => h))).mono ?_
  rintro e w1 ⟨v, rfl, hf, ho⟩
  rw [← HLe.out] at ho
  obtain ⟨vo, vc, rfl, _, hvc⟩ := ho.ints.facts
  have hc0 : w1.cell? ⟨w.heap.size, 0, none⟩ = some (.slice ao n cap) := hf.cell' (by simp) (fun h => h)
  have HF1 : Hid (Fx No w w1) := ((Fx.refl No w).alloc _).trans hf
  have HVC := Lib.hid hvc
  have HC0 := Lib.hid hc0
  have hz1 := hf.size
  simp only [World.size_alloc] at hz1
  clear hf ho hvc hc0
  go_wp2
  go_loopw [7, 11] (fun _ i wr => ∃ k : Nat, i = .int .i64 k ∧ k ≤ l.length ∧ Fx (fun k => D k ∧ k < w.heap.size) w1 wr ∧ Fam wr (fun k => D k ∧ k < w.heap.size) n (joinM n Y (l.take k) M) (c.cut w)) (fun _ i _ => l.length - (intOf i).toNat)
  case atStart => exact ⟨0, rfl, Nat.zero_le _, Fx.refl _ _, by rw [List.take_zero, joinM_nil]; exact H.out.cut.no HF1.out⟩
  case round =>
    obtain ⟨k, rfl, hk, hf, hm⟩ := hrel
    have HF := Lib.hid hf
    have HM := Lib.hid hm
    clear hf hm
    by_cases hlt : k < l.length
    · obtain ⟨b, o, rfl, hb, hcell⟩ := HVC.out k hlt
      have hcell' := HF.out.cell' hcell (fun h => by have h1 := hb.1; simp only [World.size_alloc] at h1; have h2 : b < w.heap.size := h.2; omega)
      have hc0 := HF.out.cell' HC0.out (fun h => by have h2 : w.heap.size < w.heap.size := h.2; omega)
      obtain ⟨x, hx1, hx2⟩ := HL.out k hlt
      rw [hx1] at hcell'
      obtain ⟨ao', cap', hv', hcc⟩ := HM.out.facts
      rw [HV.out] at hv'
      simp only [Value.slice.injEq] at hv'
      obtain ⟨rfl, _, rfl⟩ := hv'
      obtain ⟨b2, o2, rfl, hg2, hc2⟩ := hcc x hx2
      have HTk : Hid (l.take (k + 1) = l.take k ++ [(x : Int)]) := by rw [← hx1]; exact Lib.hid (take_gi hlt)
      have hx3 : (x : Int) < (n : Int) := by omega
      clear hcell hx1 hcc hb hg2
      go_wp2_with fail
      have HFu : Hid (Fx (fun k => D k ∧ k < w.heap.size) w wr) := (HF1.out.no).trans HF.out
      refine (join_any (L := [(q, Y)]) (E := E2) (HM.out.set x hx2) (HU.out.keep HFu.out fun k hk hd => HD.out k hk hd.1) (by
        intro z hz
        rw [List.mem_singleton] at hz
        subst hz
        exact .inr ⟨m2, HQ.out.keep HFu.out fun k hk hd => HD.out k hk hd.1⟩) (fun k hk hd => HD.out k hk (H.out.sD x k hd.1)) (by simp)).mono ?_
      rintro e w2 ⟨rfl, hf2, hs2⟩
      have hs3 : SetIn w2 ((c.cut w).Ds x) ((c.cut w).B x) n ((joinM n Y (l.take k) M x ||| Y) % 2 ^ n) := hs2
      have HM2 : Hid (Fam w2 (fun k => D k ∧ k < w.heap.size) n (joinM n Y (l.take (k + 1)) M) (c.cut w)) := by
        rw [HTk.out]
        exact (HM.out.put hx2 hf2 hs3).congr fun i _ => joinM_snoc i
      have HF2 : Hid (Fx (fun k => D k ∧ k < w.heap.size) w1 w2) := HF.out.trans (hf2.mono fun k _ hk => ⟨H.out.sD x k hk.1, hk.2⟩)
      clear hf2 hs2 hs3
      go_wp2
      go_roundw
      case rel => exact ⟨k + 1, by go_num, by omega, HF2.out, HM2.out⟩
      case measure => simp [intOf]; omega
    · obtain rfl : k = l.length := by omega
      go_wp2
      go_end0
      refine ⟨rfl, (HF1.out.no).trans (HF.out.mono fun k _ hk => hk.1), ?_⟩
      have := HM.out
      rw [List.take_length, ← show l = l from rfl] at this
      exact this.uncut H.out
#print axioms rowsJoin_any
end Go.Proofs.YtfpggeiphbekoaaDoor
