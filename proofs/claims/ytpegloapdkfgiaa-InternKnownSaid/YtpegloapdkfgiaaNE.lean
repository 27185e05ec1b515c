/- intern: a table of numbers: what it tells. -/
import Derived.Test.YtpegloapdkfgiaaNC
namespace Go.Proofs.Ytpegloapdkfgiaa
open Go.RowKit
set_option linter.unusedVariables false

abbrev TabU (w : World) (D : Nat → Prop) (b : Nat) (L : List Int) : Prop := TabV kU 23 w D b L
abbrev NumV (w : World) (D : Nat → Prop) (v : Value) (L : List Int) : Prop := NamV kU w D v L
theorem NumV.facts {w : World} {D : Nat → Prop} {v : Value} {L : List Int} (h : NumV w D v L) :
    ∃ ao cap, v = .slice ao L.length cap ∧ L.length ≤ cap ∧ cap ≤ 9223372036854775807 ∧ ∀ k, k < L.length → ∃ b o, ao = some ⟨b, o, none⟩ ∧ D b ∧ w.cell? ⟨b, o + k, none⟩ = some (.int .u64 (gi L k)) := by
  obtain ⟨ao, cap, h1, h2, h3, h4⟩ := NamV.facts fitU h
  refine ⟨ao, cap, h1, h2, h3, fun k hk => ?_⟩
  obtain ⟨b, o, h5, h6, h7⟩ := h4 k (gi L k) (by simp [gi, List.getD, hk])
  exact ⟨b, o, h5, h6, by simpa [kU] using h7 0 _ rfl⟩
section
variable {w : World} {D E : Nat → Prop} {b : Nat} {L ks : List Int} {v : Value} {x : Int}
set_option maxRecDepth 100000 in
theorem findU_core (h : TabU w D b L) (hx : OkU x) : Calls Try.prog 33 #[.pointer (some ⟨b, 0, none⟩), .int .u64 x] w fun e w' => e = .returned (.tuple #[.int .i64 (fnd L x), .bool (isIn L x)]) ∧ Fx No w w' := by
  obtain ⟨mv, nv, hP⟩ := h
  have c0 := hP.c0
  have hlook : (Instr.lookup 26 mv (.int .u64 x) true).run Try.prog w = .ok (.tuple #[.int .i64 (fnd L x), .bool (isIn L x)]) w := hP.look fitU hx
  clear hP hx
  go_enter Try.func33, Try.ntmps33
  go_wp2
  go_ret2
  exact ⟨rfl, Fx.refl _ _⟩
theorem find_any (h : TabU w D b L) (hx : OkU x) : Calls Try.prog 13 #[.pointer (some ⟨b, 0, none⟩), .int .u64 x] w fun e w' => e = .returned (.tuple #[.int .i64 (fnd L x), .bool (isIn L x)]) ∧ Fx No w w' := by
  have H := Lib.hid h
  have HX := Lib.hid hx
  clear h hx
  go_enter Try.func13, Try.ntmps13
  go_wp2_with fail
  refine (findU_core H.out HX.out).mono ?_
  rintro e w1 ⟨rfl, hf⟩
  go_wp2
  go_ret2
  exact ⟨rfl, hf⟩
/-- a number's name -/
def nam (L : List Int) (n : Int) : Int := if 0 ≤ n ∧ n < (L.length : Int) then gi L n.toNat else 0
def namE (L : List Int) (n : Int) : Int := if 0 ≤ n ∧ n < (L.length : Int) then 0 else 70
theorem name_core (h : TabU w D b L) (n : Int) : Calls Try.prog 34 #[.pointer (some ⟨b, 0, none⟩), .int .i64 n] w fun e w' => e = .returned (.tuple #[.int .u64 (nam L n), .int .i64 (namE L n)]) ∧ Fx No w w' := by
  obtain ⟨mv, nv, hP⟩ := h
  have c1 := hP.c1
  obtain ⟨ao, cap, rfl, _, _, hc⟩ := NumV.facts hP.namesD
  have HC := Lib.hid hc
  have HN : Hid (nam L n = if 0 ≤ n ∧ n < (L.length : Int) then gi L n.toNat else 0) := Lib.hid rfl
  have HE : Hid (namE L n = if 0 ≤ n ∧ n < (L.length : Int) then 0 else 70) := Lib.hid rfl
  clear hP hc
  by_cases h1 : n < 0
  · have d1 : decide (n < 0) = true := decide_eq_true h1
    rw [HN.out, HE.out, if_neg (by omega), if_neg (by omega)]
    go_enter Try.func34, Try.ntmps34
    go_wp2
    go_ret2
    exact ⟨rfl, Fx.refl _ _⟩
  · obtain ⟨k, rfl⟩ := Int.eq_ofNat_of_zero_le (by omega : 0 ≤ n)
    have d1 : decide ((k : Int) < 0) = false := decide_eq_false (by omega)
    by_cases h2 : k < L.length
    · obtain ⟨g, o, rfl, _, hc⟩ := HC.out k h2
      have d2 : decide ((L.length : Int) ≤ (k : Int)) = false := decide_eq_false (by omega)
      rw [HN.out, HE.out, if_pos (by omega), if_pos (by omega), Int.toNat_natCast]
      go_enter Try.func34, Try.ntmps34
      go_wp2
      go_ret2
      exact ⟨rfl, Fx.refl _ _⟩
    · have d2 : decide ((L.length : Int) ≤ (k : Int)) = true := decide_eq_true (by omega)
      rw [HN.out, HE.out, if_neg (by omega), if_neg (by omega)]
      go_enter Try.func34, Try.ntmps34
      go_wp2
      go_ret2
      exact ⟨rfl, Fx.refl _ _⟩
theorem name_any (h : TabU w D b L) (n : Int) : Calls Try.prog 14 #[.pointer (some ⟨b, 0, none⟩), .int .i64 n] w fun e w' => e = .returned (.tuple #[.int .u64 (nam L n), .int .i64 (namE L n)]) ∧ Fx No w w' := by
  have H := Lib.hid h
  clear h
  go_enter Try.func14, Try.ntmps14
  go_wp2_with fail
  refine (name_core H.out n).mono ?_
  rintro e w1 ⟨rfl, hf⟩
  go_wp2
  go_ret2
  exact ⟨rfl, hf⟩
theorem len_any (h : TabU w D b L) : Calls Try.prog 11 #[.pointer (some ⟨b, 0, none⟩)] w fun e w' => e = .returned (.int .i64 (L.length : Nat)) ∧ Fx No w w' := by
  obtain ⟨mv, nv, hP⟩ := h
  have c1 := hP.c1
  obtain ⟨ao, cap, rfl, _, _, hc⟩ := NumV.facts hP.namesD
  clear hP hc
  go_enter Try.func11, Try.ntmps11
  go_wp2
  go_ret
  exact ⟨rfl, Fx.refl _ _⟩
theorem add_any (h : TabU w D b L) (hv : NumV w E v ks) (hok : ∀ x ∈ ks, OkU x) (hE : ∀ j, E j → ¬ D j) (hs : L.length + ks.length ≤ 100000) :
    Calls Try.prog 10 #[.pointer (some ⟨b, 0, none⟩), v] w fun e w' => e = .returned (.int .i64 (numN L ks (-1))) ∧ Fx D w w' ∧ ∃ D', TabU w' D' b (addN L ks) ∧ ∀ j, D' j → D j ∨ w.heap.size ≤ j := by
  have H := Lib.hid h
  have HV := Lib.hid hv
  have HO := Lib.hid hok
  have HE := Lib.hid hE
  obtain ⟨ao, cap, rfl, _⟩ := NumV.facts hv
  clear h hv hok hE
  go_enter Try.func10, Try.ntmps10
  go_wp2_with fail
  refine (addU_any H.out HV.out HO.out HE.out hs).mono ?_
  rintro e w1 ⟨rfl, hf, hT⟩
  go_wp2
  go_ret
  exact ⟨rfl, hf, hT⟩
/-- a row of numbers of the call's own -/
abbrev OwnU (w : World) (base : Nat) (v : Value) (L : List Int) : Prop := w.ownsRow base 23 1 v L.length (ncells kU L)
theorem cloneU_any (h : NumV w D v L) (hl : L.length ≤ 1000000) : Calls Try.prog 32 #[v] w fun e w' => ∃ v', e = .returned v' ∧ Fx No w w' ∧ OwnU w' w.heap.size v' L := by
  obtain ⟨ii, hi, hz, hs, hb⟩ := info_parts info_u64
  have H := Lib.hid h
  obtain ⟨ao, cap, rfl, hcl, hcm, hc⟩ := NumV.facts h
  have HC := Lib.hid hc
  clear h hc
  cases ao with
  | none =>
    obtain rfl : L = [] := by
      rcases L with _ | ⟨x, xs⟩
      · rfl
      · obtain ⟨_, _, h0, _⟩ := HC.out 0 (by simp)
        cases h0
    have hq : ∀ n W, (binOp .eql 27 (.slice none n cap) (.slice none 0 0)).run Try.prog W = .ok (.bool true) W := fun n W => Lib.run_eql_slice_nil W _ _ none n cap 0 0 Try.underlying27
    go_enter Try.func32, Try.ntmps32
    go_wp2
    go_ret
    exact ⟨_, rfl, Fx.refl _ _, World.ownsRow_nil _ _ _ _⟩
  | some ad =>
    have hq : ∀ W, (binOp .eql 27 (.slice (some ad) L.length cap) (.slice none 0 0)).run Try.prog W = .ok (.bool false) W := fun W => Lib.run_eql_slice_nil W _ _ (some ad) _ cap 0 0 Try.underlying27
    have HO : Hid ((w.alloc (.cells #[] 23)).ownsRow w.heap.size 23 1 (.slice (some ⟨w.heap.size, 0, none⟩) 0 0) 0 []) := Lib.hid ⟨rfl, .inr ⟨_, 0, #[], rfl, Nat.le_refl _, by show (w.heap.push _)[w.heap.size]? = _; simp, Nat.le_refl _, Nat.zero_le _, rfl, rfl⟩⟩
    have HS : Hid (SlV (w.alloc (.cells #[] 23)) D (.slice (some ad) L.length cap) 1 L.length (ncells kU L)) := Lib.hid (H.out.no ((Fx.refl No w).alloc _))
    go_enter Try.func32, Try.ntmps32
    go_wp2_with (at_builtin; refine wpList_append_sl rfl _ _ 27 rfl w.heap.size 23 Try.underlying27 hi hz hs hb rfl (by decide) rfl HO.out rfl HS.out (ncells_one fitU _) (by unfold maxLen; omega) (by omega) (by simp) ?_)
    intro v' w1 ho hf _
    have HO2 : Hid (OwnU w1 w.heap.size v' L) := Lib.hid (by simpa using ho)
    have HF : Hid (Fx No w w1) := Lib.hid (((Fx.refl No w).alloc _).trans' hf fun j h1 h2 => by
      have h3 : w.heap.size = j := by simpa [Value.ownBlock] using h1
      omega)
    clear ho hf
    go_wp2
    go_ret
    exact ⟨_, rfl, HF.out, HO2.out⟩
theorem names_any (h : TabU w D b L) : Calls Try.prog 12 #[.pointer (some ⟨b, 0, none⟩)] w fun e w' => ∃ v', e = .returned v' ∧ Fx No w w' ∧ OwnU w' w.heap.size v' L := by
  obtain ⟨mv, nv, hP⟩ := h
  have c1 := hP.c1
  have hsm := hP.small
  have H := Lib.hid hP.namesD
  obtain ⟨ao, cap, rfl, _, _, hc⟩ := NumV.facts hP.namesD
  clear hP hc
  go_enter Try.func12, Try.ntmps12
  go_wp2_with fail
  refine (cloneU_any H.out (by omega)).mono ?_
  rintro e w1 ⟨v', rfl, hf, ho⟩
  obtain ⟨ao', cap', rfl, _⟩ := SlV.ofOwns ho
  have HF := Lib.hid hf
  have HO := Lib.hid ho
  clear hf ho
  go_wp2
  go_ret
  exact ⟨_, rfl, HF.out, HO.out⟩
theorem from_any (hv : NumV w E v ks) (hok : ∀ x ∈ ks, OkU x) (hs : ks.length ≤ 100000) (hE : ∀ j, E j → j < w.heap.size) :
    Calls Try.prog 24 #[v] w fun e w' => e = .returned (.pointer (some ⟨w.heap.size, 0, none⟩)) ∧ Fx No w w' ∧ ∃ D', TabU w' D' w.heap.size (addN [] ks) ∧ ∀ j, D' j → w.heap.size ≤ j := by
  have HV := Lib.hid (NamV.no hv ((Fx.refl No w).alloc (.cells #[.map none, .slice none 0 0] 31)))
  have HO := Lib.hid hok
  have HE : Hid (∀ j, E j → ¬ j = w.heap.size) := Lib.hid fun j e => by have := hE j e; omega
  have HT : Hid (TabU (w.alloc (.cells #[.map none, .slice none 0 0] 31)) (fun j => j = w.heap.size) w.heap.size []) := Lib.hid (TabV.new w _)
  obtain ⟨ao, cap, rfl, _⟩ := NumV.facts hv
  clear hv hok hE
  go_enter Try.func24, Try.ntmps24
  go_wp2_with fail
  refine (addU_any HT.out HV.out HO.out HE.out (by simpa using hs)).mono ?_
  rintro e w1 ⟨rfl, hf, D', hT, hD⟩
  have HF : Hid (Fx No w w1) := Lib.hid (((Fx.refl No w).alloc _).trans' hf fun j h1 h2 => by have h3 : j = w.heap.size := h1; omega)
  have HT2 := Lib.hid hT
  have HD : Hid (∀ j, D' j → w.heap.size ≤ j) := Lib.hid fun j e => by
    rcases hD j e with h | h
    · have h3 : j = w.heap.size := h; omega
    · simp at h; omega
  clear hf hT hD
  go_wp2
  go_ret
  exact ⟨rfl, HF.out, D', HT2.out, HD.out⟩
theorem copy_any (h : TabU w D b L) : Calls Try.prog 15 #[.pointer (some ⟨b, 0, none⟩)] w fun e w' => ∃ c, e = .returned (.pointer (some ⟨c, 0, none⟩)) ∧ w.heap.size ≤ c ∧ Fx No w w' ∧ ∃ D', TabU w' D' c L ∧ ∀ j, D' j → w.heap.size ≤ j := by
  obtain ⟨mv, nv, hP⟩ := h
  have c1 := hP.c1
  have hsm := hP.small
  have H := Lib.hid hP.namesD
  have HO := Lib.hid hP.ok
  have HL := Lib.hid hP.lt
  have HS := Lib.hid (addN_self hP.nd)
  obtain ⟨ao, cap, rfl, _, _, hc⟩ := NumV.facts hP.namesD
  clear hP hc
  go_enter Try.func15, Try.ntmps15
  go_wp2_with fail
  refine (from_any H.out HO.out hsm HL.out).mono ?_
  rintro e w1 ⟨rfl, hf, D', hT, hD⟩
  rw [HS.out] at hT
  have HF := Lib.hid hf
  have HT := Lib.hid hT
  have HD := Lib.hid hD
  clear hf hT hD
  go_wp2
  go_ret
  exact ⟨_, rfl, Nat.le_refl _, HF.out, D', HT.out, HD.out⟩
end
#print axioms copy_any
end Go.Proofs.Ytpegloapdkfgiaa
