/- closure: Edges, needed, Least. -/
import Derived.Test.YtfpggeiphbekoaaDoorClo
namespace Go.Proofs.YtfpggeiphbekoaaDoor
open Go.RowKit
set_option linter.unusedVariables false

theorem info_pair : (Tryd.prog.info? 33).map (fun i => (i.zero, i.size, i.bytes)) = some (some (.agg #[.int .i64 0, .int .i64 0]), 2, 16) := by kernel_rfl
abbrev OwnP (w : World) (base : Nat) (v : Value) (ps : List (Int × Int)) : Prop := OwnT 33 e2 2 w base v ps
/-- the edges out of the first m nodes -/
def edgesTo (n : Nat) (ed : Nat → Nat) (m : Nat) : List (Int × Int) := (List.range m).flatMap fun i : Nat => (allX n (ed i)).map fun j => ((i : Int), j)
theorem edgesTo_succ (n : Nat) (ed : Nat → Nat) (m : Nat) : edgesTo n ed (m + 1) = edgesTo n ed m ++ (allX n (ed m)).map fun j => ((m : Int), j) := by
  unfold edgesTo
  rw [List.range_succ, List.flatMap_append]
  simp
theorem edgesTo_len (n : Nat) (ed : Nat → Nat) : ∀ m, (edgesTo n ed m).length ≤ m * n
  | 0 => by simp [edgesTo]
  | m + 1 => by
    have h1 := edgesTo_len n ed m
    have h2 := allX_length_le n (ed m)
    rw [edgesTo_succ, List.length_append, List.length_map, Nat.succ_mul]
    omega
section
variable {w w' : World} {D S : Nat → Prop} {n : Nat} {dn up ed : Nat → Nat} {k : CC}
set_option maxHeartbeats 2000000 in
theorem edges_any (h : Clo w D n dn up ed k) (hT : TabOk w) : Calls Tryd.prog 24 #[.pointer (some ⟨k.b, 0, none⟩)] w fun e w' => ∃ v, e = .returned v ∧ Fx No w w' ∧ OwnP w' w.heap.size v (edgesTo n ed n) := by
  obtain ⟨ii, hi, hz, hs, hb⟩ := info_parts info_pair
  have H := Lib.hid h
  have HT := Lib.hid hT
  have hle := h.le
  clear h hT
  go_enter Tryd.func24, Tryd.ntmps24
  go_wp2_with fail
  refine (cloLen_any H.out).mono ?_
  rintro e w1 ⟨rfl, rfl⟩
  go_wp2
  go_loopw [2, 3, 5, 8] (fun l _ _ i wr => ∃ m : Nat, i = .int .i64 m ∧ m ≤ n ∧ Fx No w wr ∧ OwnP wr w.heap.size l (edgesTo n ed m)) (fun _ _ _ i _ => n - (intOf i).toNat)
  case atStart => exact ⟨0, rfl, Nat.zero_le _, Fx.refl _ _, OwnT.nil _ _⟩
  case round =>
    obtain ⟨m, rfl, hm, hf, ho⟩ := hrel
    have HF := Lib.hid hf
    have HO := Lib.hid ho
    have v2 := (H.out.no hf).v2
    have HFam := Lib.hid (H.out.no hf).f2
    have hzr := hf.size
    have hel := edgesTo_len n ed m
    have hmn : m * n ≤ 1024 * 1024 := Nat.mul_le_mul (by omega) hle
    clear hf ho
    by_cases hlt : m < n
    · have HM : Hid (ofM n ed (m : Int) = ed m ∧ ofN n (m : Int) = n) := Lib.hid ⟨by unfold ofM; rw [if_pos (by omega)]; rfl, by unfold ofN; rw [if_pos (by omega)]⟩
      have HE := Lib.hid (edgesTo_succ n ed m)
      go_wp2_with fail
      refine (rowsOf_any HFam.out (m : Int)).mono ?_
      rintro e w2 ⟨rfl, hf⟩
      have HF2 := Lib.hid (HF.out.trans hf)
      have hs' := (HFam.out.no hf).of (m : Int)
      rw [HM.out.1, HM.out.2] at hs'
      have HS := Lib.hid hs'
      have HO2 := Lib.hid (HO.out.no hf)
      have hz2 := hf.size
      clear hf hs'
      go_wp2_with fail
      refine (all_any HS.out (HT.out.keep HF2.out (fun h => h))).mono ?_
      rintro e w3 ⟨v3, rfl, hf, ho⟩
      obtain ⟨l3, hl3⟩ : ∃ l, l = allX n (ed m) := ⟨_, rfl⟩
      rw [← hl3] at ho HE
      obtain ⟨a3, c3, rfl, _, hc3⟩ := ho.ints.facts
      have hl3n : l3.length ≤ n := by rw [hl3]; exact allX_length_le _ _
      have HF3 := Lib.hid (HF2.out.trans hf)
      have HO3 := Lib.hid (HO2.out.no hf)
      have HC3 := Lib.hid hc3
      have hz3 := hf.size
      obtain ⟨s2, hs2⟩ : ∃ s, s = w2.heap.size := ⟨_, rfl⟩
      rw [← hs2] at HC3 hz3
      have HB0 : Hid (∀ g, u2.ownBlock = some g → g < s2 ∨ w3.heap.size ≤ g) := Lib.hid fun g e => .inl (by rw [hs2]; exact (HO2.out.lt e).2)
      have hws : w.heap.size ≤ s2 := by rw [hs2]; exact HF2.out.size
      clear hf ho hc3 hl3 hs2
      go_wp2
      obtain ⟨wo, hwo⟩ : ∃ wo, wo = w3 := ⟨_, rfl⟩
      subst hwo
      go_loopw [2, 5, 19] (fun l _ j ws => ∃ q : Nat, j = .int .i64 q ∧ q ≤ l3.length ∧ Fx (fun g => w.heap.size ≤ g ∧ g < s2) wo ws ∧ (∀ g, l.ownBlock = some g → g < s2 ∨ wo.heap.size ≤ g) ∧ OwnP ws w.heap.size l (edgesTo n ed m ++ (l3.take q).map fun j => ((m : Int), j))) (fun _ _ j _ => l3.length - (intOf j).toNat)
      case atStart => exact ⟨0, rfl, Nat.zero_le _, Fx.refl _ _, HB0.out, by simpa using HO3.out⟩
      case round =>
        obtain ⟨q, rfl, hq, hf, hbb, ho⟩ := hrel
        have HFq := Lib.hid hf
        have HBq := Lib.hid hbb
        have HOq := Lib.hid ho
        have hzq := hf.size
        have hlen : (edgesTo n ed m ++ (l3.take q).map fun j => ((m : Int), j)).length ≤ 2000000 := by
          rw [List.length_append, List.length_map, List.length_take]; omega
        obtain ⟨xs, hxs⟩ : ∃ xs, xs = edgesTo n ed m ++ (l3.take q).map fun j => ((m : Int), j) := ⟨_, rfl⟩
        rw [← hxs] at hlen HOq
        have HX := Lib.hid hxs
        clear hf ho hxs hbb
        by_cases hql : q < l3.length
        · obtain ⟨bq, oq, rfl, hbq, hcell⟩ := HC3.out q hql
          have hcell' := HFq.out.cell' hcell (fun h => by have h1 := hbq.1; have h2 : bq < s2 := h.2; omega)
          obtain ⟨j, hj⟩ : ∃ j, j = gi l3 q := ⟨_, rfl⟩
          have HTk : Hid (edgesTo n ed m ++ (l3.take (q + 1)).map (fun j => ((m : Int), j)) = xs ++ [((m : Int), j)]) := by
            show _ = _
            rw [take_gi hql, List.map_append, ← List.append_assoc, ← HX.out, hj]; rfl
          rw [← hj] at hcell'
          clear hcell hj hbq
          go_wp2_with (at_builtin; refine wpList_append_kept rfl _ _ 22 rfl w.heap.size 33 Tryd.underlying22 hi hz hs hb rfl (by decide) rfl (World.ownsRow.alloc HOq.out _) rfl (SlV.lit _ 33 #[.int .i64 _, .int .i64 _] 2 1 rfl (by unfold maxLen; omega)) (ints_one [_, _]) (by omega) (by unfold maxLen; omega) (by omega) (by simp; omega) ?_)
          intro v' w4 ho hfx hk4 hb4
          have HB4 : Hid (∀ g, v'.ownBlock = some g → g < s2 ∨ wo.heap.size ≤ g) := Lib.hid fun g e => by
            rcases hb4 g e with h | h
            · exact HBq.out g h
            · try simp only [World.size_alloc] at h
              exact .inr (by omega)
          have HO4 : Hid (OwnP w4 w.heap.size v' (edgesTo n ed m ++ (l3.take (q + 1)).map fun j => ((m : Int), j))) := by
            show OwnP w4 w.heap.size v' _
            rw [HTk.out]
            exact OwnT.snoc ho
          have HF4 : Hid (Fx (fun g => w.heap.size ≤ g ∧ g < s2) wo w4) := (HFq.out.alloc _).trans' hfx fun g e hl => by
            have h1 := (World.ownsRow.lt HOq.out g e).1
            have h2 := HBq.out g e
            exact ⟨h1, by omega⟩
          clear ho hfx hk4 hb4
          go_wp2
          go_roundw
          case rel => exact ⟨q + 1, by go_num, by omega, HF4.out, HB4.out, HO4.out⟩
          case measure => simp [intOf]; omega
        · obtain rfl : q = l3.length := by omega
          have HO5 : Hid (OwnP wr w.heap.size u2 (edgesTo n ed (m + 1))) := by
            show OwnP wr w.heap.size u2 (edgesTo n ed (m + 1))
            rw [HE.out, ← List.take_length (l := l3), ← HX.out]
            exact HOq.out
          go_wp2
          go_roundw
          case rel => exact ⟨m + 1, by go_num, by omega, HF3.out.trans' HFq.out (fun j h1 h2 => by have h3 : w.heap.size ≤ j := h1.1; omega), HO5.out⟩
          case measure => simp [intOf]; omega
    · obtain rfl : m = n := by omega
      go_wp2
      go_ret
      exact ⟨_, rfl, HF.out, HO.out⟩
/-- is an edge needed: does none other from where it begins lead to where it ends? -/
def neededB (n : Nat) (dn ed : Nat → Nat) (a b : Int) : Bool := (allX (ofN n a) (ofM n ed a)).all fun j => ! (decide (j ≠ b) && leadsB n dn j b)
end
#print axioms edges_any
end Go.Proofs.YtfpggeiphbekoaaDoor
