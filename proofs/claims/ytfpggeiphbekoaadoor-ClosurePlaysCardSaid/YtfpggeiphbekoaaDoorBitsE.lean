/- Contracts of package bits: the three closures of Join, Meet, Less; does. -/
import Derived.Test.YtfpggeiphbekoaaDoorBitsD
import Derived.Test.YtfpggeiphbekoaaDoorDoMath
namespace Go.Proofs.YtfpggeiphbekoaaDoor
open Go.RowKit
set_option linter.unusedVariables false

def gw (l : List Nat) (k : Nat) : Nat := l.getD k 0
def words (l : List Nat) : List Value := l.map fun x : Nat => .int .u64 (x : Int)
theorem words_one (l : List Nat) : One (words l) := by
  intro u hu
  obtain ⟨_, _, rfl⟩ := List.mem_map.1 hu
  rfl
theorem take_gw {l : List Nat} {k : Nat} (h : k < l.length) : l.take (k + 1) = l.take k ++ [gw l k] := by
  rw [List.take_succ_eq_append_getElem h]; simp [gw, h]
theorem gw_mem {l : List Nat} {k : Nat} (h : k < l.length) : gw l k ∈ l := by simp [gw, h]
theorem words_facts {w : World} {D : Nat → Prop} {v : Value} {l : List Nat} (h : SlV w D v 1 l.length (words l)) : ∃ ao cap, v = .slice ao l.length cap ∧ l.length ≤ 9223372036854775807 ∧
    ∀ k, k < l.length → ∃ b o, ao = some ⟨b, o, none⟩ ∧ D b ∧ w.cell? ⟨b, o + k, none⟩ = some (.int .u64 (gw l k : Int)) := by
  obtain ⟨ao, cap, h1, h2, h3, h4, h5, h6⟩ := h
  unfold maxLen at h3
  refine ⟨ao, cap, h1, by omega, fun k hk => ?_⟩
  obtain ⟨b, o, h7, h8, h9⟩ := h6.addr (by simp [words]; omega)
  have := h9 k (by simpa [words] using hk)
  exact ⟨b, o, h7, h8, by rw [this]; simp [words, gw, hk]⟩

/-- the closure of Join, Meet, Less -/
def toFn (how : Nat) : Nat := 65

theorem join1_any {w : World} {D : Nat → Prop} {v : Value} {l : List Nat} {x : Nat} (h : SlV w D v 1 l.length (words l)) (hx : x < 18446744073709551616) (hl : ∀ y ∈ l, y < 18446744073709551616) :
    Calls Tryd.prog 65 #[.int .u64 (x : Int), v] w fun e w' => e = .returned (.int .u64 (rawW 0 x l : Int)) ∧ w = w' := by
  obtain ⟨ao, cap, rfl, hlen, hc⟩ := words_facts h
  have HC := Lib.hid hc
  have HL := Lib.hid hl
  have HX := Lib.hid hx
  clear h hc hl hx
  go_enter Tryd.func65, Tryd.ntmps65
  go_wp2
  go_loop [0, 6, 9] (fun u _ i => ∃ k : Nat, k ≤ l.length ∧ i = .int .i64 k ∧ u = .int .u64 (rawW 0 x (l.take k) : Int)) (fun _ _ i => l.length - (intOf i).toNat)
  case atStart => exact ⟨0, Nat.zero_le _, rfl, rfl⟩
  case round =>
    obtain ⟨k, hk, rfl, rfl⟩ := hrel
    by_cases hlt : k < l.length
    · obtain ⟨b, o, rfl, _, hcell⟩ := HC.out k hlt
      have he := go_or (rawW 0 x (l.take k)) (gw l k) (rawW_lt 0 _ _ HX.out fun y hy => HL.out y (List.mem_of_mem_take hy)) (HL.out _ (gw_mem hlt))
      rw [← rawW_snoc, ← take_gw hlt] at he
      have HE := Lib.hid he
      clear he
      go_wp2
      go_round
      case rel => exact ⟨k + 1, by omega, by go_num, by rw [HE.out]⟩
      case measure => simp [intOf]; omega
    · obtain rfl : k = l.length := by omega
      go_wp2
      go_ret
      exact ⟨by simp, rfl⟩
theorem doesNil_any (w : World) (f v : Value) : Calls Tryd.prog 64 #[.pointer none, f, v] w fun e w' => e = .returned (.int .i64 0) ∧ w = w' := by
  go_enter Tryd.func64, Tryd.ntmps64
  go_wp2
  go_ret
  exact ⟨rfl, rfl⟩
/-- One of the sets that are handed in: a set of its own, or the very set that is turned (of which the words behind the k-th are as they were). -/
def itemOk (w : World) (E : Nat → Prop) (b k X : Nat) (q : Option Addr × Nat) : Prop :=
  (q.1 = some ⟨b, 0, none⟩ ∧ q.2 = X) ∨ ∃ m, SetP w E q.1 m q.2
def ptrs (L : List (Option Addr × Nat)) : List Value := L.map fun q => .pointer q.1
def gq (L : List (Option Addr × Nat)) (k : Nat) : Option Addr × Nat := L.getD k (none, 0)
theorem ptrs_facts {w : World} {D : Nat → Prop} {v : Value} {L : List (Option Addr × Nat)} (h : SlV w D v 1 L.length (ptrs L)) : ∃ ao cap, v = .slice ao L.length cap ∧ L.length ≤ 9223372036854775807 ∧
    ∀ k, k < L.length → ∃ b o, ao = some ⟨b, o, none⟩ ∧ D b ∧ w.cell? ⟨b, o + k, none⟩ = some (.pointer (gq L k).1) := by
  obtain ⟨ao, cap, h1, h2, h3, h4, h5, h6⟩ := h
  unfold maxLen at h3
  refine ⟨ao, cap, h1, by omega, fun k hk => ?_⟩
  obtain ⟨b, o, h7, h8, h9⟩ := h6.addr (by simp [ptrs]; omega)
  have := h9 k (by simpa [ptrs] using hk)
  exact ⟨b, o, h7, h8, by rw [this]; simp [ptrs, gq, hk]⟩
theorem gq_mem {L : List (Option Addr × Nat)} {k : Nat} (h : k < L.length) : gq L k ∈ L := by simp [gq, h]
theorem take_gq {L : List (Option Addr × Nat)} {k : Nat} (h : k < L.length) : L.take (k + 1) = L.take k ++ [gq L k] := by
  rw [List.take_succ_eq_append_getElem h]; simp [gq, h]
/-- the words number i of the sets -/
def row (L : List (Option Addr × Nat)) (i : Nat) : List Nat := L.map fun q => wd q.2 i
theorem row_length (L : List (Option Addr × Nat)) (i : Nat) : (row L i).length = L.length := by simp [row]
theorem row_take {L : List (Option Addr × Nat)} {k : Nat} (i : Nat) (h : k < L.length) : words (row (L.take (k + 1)) i) = words (row (L.take k) i) ++ [.int .u64 (wd (gq L k).2 i : Int)] := by
  rw [take_gq h]; simp [row, words]
theorem row_lt (L : List (Option Addr × Nat)) (i : Nat) : ∀ y ∈ row L i, y < 18446744073709551616 := by
  intro y hy
  obtain ⟨q, _, rfl⟩ := List.mem_map.1 hy
  exact wd_lt _ _

theorem SetIn.factsAt {w : World} {D : Nat → Prop} {b n X c cap : Nat} (h : SetIn w D b n X) (hc : w.cell? ⟨b, 1, none⟩ = some (.slice (some ⟨c, 0, none⟩) (nw n) cap)) :
    w.cell? ⟨b, 0, none⟩ = some (.int .i64 (n : Int)) ∧ (∀ k, k < nw n → w.cell? ⟨c, k, none⟩ = some (.int .u64 (wd X k)) ∧ w.frozen? ⟨c, k, none⟩ = false) ∧ (0 < nw n → D c ∧ c ≠ b) := by
  obtain ⟨c', cap', hm1, hm2, h1, h2⟩ := h.words
  have e : c' = c := by
    have : w.cell? ⟨b, 1, none⟩ = some (.slice (some ⟨c', 0, none⟩) (nw n) cap') := by simp [World.cell?, h1]
    rw [this] at hc
    simp only [Option.some.injEq, Value.slice.injEq, Addr.mk.injEq] at hc
    exact hc.1.1
  subst e
  refine ⟨by simp [World.cell?, h1], fun k hk => ?_, fun hn => ?_⟩
  · rcases h2 with h2 | ⟨_, cs, h3, h4⟩
    · omega
    · exact ⟨by simp [World.cell?, h3, h4 k hk], by simp [World.frozen?, h3]⟩
  · rcases h2 with h2 | ⟨hc, cs, h3, h4⟩
    · omega
    · exact ⟨hc, by rintro rfl; rw [h1] at h3; simp at h3⟩

set_option maxRecDepth 100000 in
set_option maxHeartbeats 1000000 in
theorem does_fn {w : World} {D E : Nat → Prop} {v : Value} {b n X Y f : Nat} {L : List (Option Addr × Nat)} {R : Nat → Nat} (hf : f = 65)
    (hto : ∀ (w : World) (D : Nat → Prop) (v : Value) (k : Nat), SlV w D v 1 (row L k).length (words (row L k)) → Calls Tryd.prog f #[.int .u64 (wd X k : Int), v] w fun e w' => e = .returned (.int .u64 (R k : Int)) ∧ w = w')
    (hR : ∀ k, R k < 18446744073709551616) (hY : Y < 2 ^ n) (hcut : ∀ k, 64 * k ≤ n → wd Y k = if n - 64 * k < 64 then R k &&& (2 ^ (n - 64 * k) - 1) else R k)
    (h : SetIn w D b n X) (hv : SlV w E v 1 L.length (ptrs L)) (hL : ∀ q ∈ L, itemOk w E b 0 X q) (hDE : ∀ k, E k → ¬ D k) (hlen : L.length ≤ 100000) :
    Calls Tryd.prog 64 #[.pointer (some ⟨b, 0, none⟩), .func (.func f) #[] #[], v] w fun e w' =>
      e = .returned (.int .i64 (turnN n X Y)) ∧ Fx D w w' ∧ SetIn w' D b n Y := by
  obtain ⟨i0, hi, hz, hs, hb⟩ := info_parts info_u64
  have hn := nw_le h.le
  have hn0 := h.le
  have HX := Lib.hid h.lt
  have HYl := Lib.hid hY
  have HH := Lib.hid h.bound
  have HTo := Lib.hid hto
  have HRl := Lib.hid hR
  have HCut := Lib.hid hcut
  have HL := Lib.hid hL
  have HDE := Lib.hid hDE
  obtain ⟨ao, acap, rfl, _, hcp⟩ := ptrs_facts hv
  have HCP := Lib.hid hcp
  obtain ⟨c, cap, hc0, hc1, _, _⟩ := h.facts
  clear h hv hto hR hcut hL hDE hcp hY
  subst hf
  all_goals
    go_enter Tryd.func64, Tryd.ntmps64
    go_wp2
    go_loopw [6, 21] (fun s i wr => ∃ k : Nat, i = .int .i64 k ∧ k ≤ nw n ∧ s = .int .i64 (cntX (64 * k) (X ^^^ Y)) ∧ Fx (fun j => D j ∧ j < w.heap.size) w wr ∧
        wr.cell? ⟨b, 1, none⟩ = some (.slice (some ⟨c, 0, none⟩) (nw n) cap) ∧ SetIn wr (fun j => D j ∧ j < w.heap.size) b n (mixX k X Y)) (fun _ i _ => nw n - (intOf i).toNat)
    case atStart => exact ⟨0, rfl, Nat.zero_le _, rfl, Fx.refl _ _, hc1, by rw [mixX_zero]; exact HH.out⟩
    case round =>
      obtain ⟨k, rfl, hk, rfl, hfr, hc2, hset⟩ := hrel
      have HF := Lib.hid hfr
      have HS := Lib.hid hset
      have hcl := cntX_le (64 * k) (X ^^^ Y)
      clear hfr hset
      by_cases hlt : k < nw n
      · obtain ⟨hd0, hd1, hd2⟩ := HS.out.factsAt hc2
        obtain ⟨hd3, hd4⟩ := hd1 k hlt
        rw [mixX_old] at hd3
        have HD1 := Lib.hid hd1
        have HD2 := Lib.hid hd2
        clear hd1 hd2
        obtain ⟨wo, rfl⟩ : ∃ wo : World, wo = wr := ⟨_, rfl⟩
        go_wp2
        go_loopw [9, 28] (fun u i wq => ∃ j : Nat, j ≤ L.length ∧ i = .int .i64 j ∧ wq.ownsRow wo.heap.size 119 1 u j (words (row (L.take j) k)) ∧ Fx No wo wq) (fun _ i _ => L.length - (intOf i).toNat)
        case atStart => exact ⟨0, Nat.zero_le _, rfl, World.ownsRow_nil _ _ _ _, Fx.refl _ _⟩
        case round =>
          obtain ⟨j, hj, rfl, ho, hfq⟩ := hrel
          have HO := Lib.hid ho
          have HFq := Lib.hid hfq
          clear ho hfq
          by_cases hjl : j < L.length
          · obtain ⟨bl, o, rfl, hE, hcell⟩ := HCP.out j hjl
            have hcell' := HFq.out.cell' (HF.out.cell' hcell (fun h => HDE.out _ hE h.1)) (fun h => h)
            have hat : Calls Tryd.prog 85 #[.pointer (gq L j).1, .int .i64 (k : Int)] wr fun e w' => e = .returned (.int .u64 (wd (gq L j).2 k : Int)) ∧ wr = w' := by
              rcases HL.out _ (gq_mem hjl) with ⟨h1, h2⟩ | ⟨m, h1⟩
              · rw [h1, h2]
                have := at_any (HS.out.p.no' HFq.out) k
                rwa [mixX_old] at this
              · exact at_any ((h1.keep HF.out (fun x hx hd => HDE.out x hx hd.1)).no' HFq.out) k
            have HAT := Lib.hid hat
            have HRT := Lib.hid (row_take k hjl)
            clear hcell hat
            go_wp2_with fail
            refine HAT.out.mono ?_
            rintro e w' ⟨rfl, rfl⟩
            go_wp2_with (at_builtin; refine wpList_append_sl rfl _ _ 120 rfl wo.heap.size 119 Tryd.underlying120 hi hz hs hb rfl (by decide) rfl (World.ownsRow.alloc HO.out _) rfl (SlV.lit wr 119 #[.int .u64 (wd (gq L j).2 k : Int)] 1 1 rfl (by unfold maxLen; omega)) (words_one [wd (gq L j).2 k]) (by unfold maxLen; omega) (by omega) (by have := HFq.out.size; simp; omega) ?_)
            intro u1 w1 hown1 hf1 _
            have HO1 : Hid (w1.ownsRow wo.heap.size 119 1 u1 (j + 1) (words (row (L.take (j + 1)) k))) := by
              rw [HRT.out]; exact hown1
            have HF1 : Hid (Fx No wo w1) := (HFq.out.alloc (.cells #[.int .u64 (wd (gq L j).2 k : Int)] 119)).trans' hf1 (fun x hx hlt => by have := (World.ownsRow.lt HO.out _ hx).1; omega)
            clear hown1 hf1
            go_wp2
            go_roundw
            case rel => exact ⟨j + 1, by omega, by go_num, HO1.out, HF1.out⟩
            case measure => simp [intOf]; omega
          · obtain rfl : j = L.length := by omega
            have hsl := SlV.ofOwns HO.out
            rw [List.take_length] at hsl
            have HSL : Hid (SlV wr (Iv wo.heap.size wr.heap.size) u9 1 (row L k).length (words (row L k))) := by rw [row_length]; exact hsl
            clear hsl
            go_wp2_with fail
            refine (HTo.out _ _ _ _ HSL.out).mono ?_
            rintro e w' ⟨rfl, rfl⟩
            have hg0 := HFq.out.cell' hd0 (fun h => h)
            have hg1 := HFq.out.cell' hc2 (fun h => h)
            obtain ⟨hg3, hg4⟩ := HFq.out.cellF hd3 hd4 (fun h => h)
            have hkn : 64 * k ≤ n := by unfold nw at hlt; omega
            have hck := HCut.out k hkn
            have hxr := go_xor (wd X k) (wd Y k) (wd_lt _ _) (wd_lt _ _)
            have HT := Lib.hid (turn_words X Y k)
            have hpop := cntX_le 64 (wd X k ^^^ wd Y k)
            rw [← popN_cntX (by have := @Nat.xor_lt_two_pow (wd X k) (wd Y k) 64 (wd_lt X k) (wd_lt Y k); omega)] at hpop
            clear hd0 hd3 hd4 hc2
            by_cases hov : n - 64 * k < 64
            · rw [if_pos hov] at hck
              have hgc := go_cut (R k) (n - k * 64) (HRl.out k) (by omega)
              rw [show n - k * 64 = n - 64 * k by omega, ← hck, show n - 64 * k = n - k * 64 by omega] at hgc
              have hlt1 : (n : Int) - (k : Int) * 64 < 64 := by omega
              have hlt2 : (0 : Int) ≤ (n : Int) - (k : Int) * 64 := by omega
              clear hck hov
              go_wp2_with fail
              refine (ones_any _ _ (Nat.xor_lt_two_pow (n := 64) (wd_lt X k) (wd_lt Y k))).mono ?_
              rintro e w' ⟨rfl, rfl⟩
              go_wp2
              go_roundw
              case rel =>
                have hset := (HS.out.no HFq.out).setWord hg1 hlt (mixX_lt (k + 1) HX.out HYl.out) (mixX_step k X Y)
                rw [mixX_new] at hset
                refine ⟨k + 1, by go_num, by omega, by rw [HT.out]; go_num, (HF.out.transNo HFq.out).setCell (.inr (HD2.out (by omega)).1) _, ?_, hset⟩
                rw [World.cell?_setCell_other _ _ _ _ (addr_ne (by simpa using (HD2.out (by omega)).2))]
                exact hg1
              case measure => simp [intOf]; omega
            · rw [if_neg hov] at hck
              rw [hck] at hxr
              have hge : (64 : Int) ≤ (n : Int) - (k : Int) * 64 := by omega
              have HCK := Lib.hid hck
              rw [hck] at hpop
              clear hck hov
              go_wp2_with fail
              refine (ones_any _ _ (Nat.xor_lt_two_pow (n := 64) (wd_lt X k) (HRl.out k))).mono ?_
              rintro e w' ⟨rfl, rfl⟩
              go_wp2
              go_roundw
              case rel =>
                have hset := (HS.out.no HFq.out).setWord hg1 hlt (mixX_lt (k + 1) HX.out HYl.out) (mixX_step k X Y)
                rw [mixX_new] at hset
                rw [HCK.out] at hset
                refine ⟨k + 1, by go_num, by omega, by rw [HT.out, HCK.out]; go_num, (HF.out.transNo HFq.out).setCell (.inr (HD2.out (by omega)).1) _, ?_, hset⟩
                rw [World.cell?_setCell_other _ _ _ _ (addr_ne (by simpa using (HD2.out (by omega)).2))]
                exact hg1
              case measure => simp [intOf]; omega
      · obtain rfl : k = nw n := by omega
        have HA := Lib.hid (turn_all HX.out HYl.out)
        go_wp2
        go_ret
        refine ⟨by rw [← HA.out]; rfl, HF.out.mono fun j _ hj => hj.1, ?_⟩
        have := HS.out
        rw [mixX_all HX.out HYl.out] at this
        exact this.mono fun j hj => hj.1

/-- Join (0), Meet (1), Less (2) of sets -/
theorem does_any {w : World} {D E : Nat → Prop} {v : Value} {b n X : Nat} {L : List (Option Addr × Nat)} (how : Nat) (hhow : how ≤ 0) (h : SetIn w D b n X) (hv : SlV w E v 1 L.length (ptrs L)) (hL : ∀ q ∈ L, itemOk w E b 0 X q)
    (hDE : ∀ k, E k → ¬ D k) (hlen : L.length ≤ 100000) :
    Calls Tryd.prog 64 #[.pointer (some ⟨b, 0, none⟩), .func (.func (toFn how)) #[] #[], v] w fun e w' =>
      e = .returned (.int .i64 (turnN n X (rawX how X (L.map (·.2)) % 2 ^ n))) ∧ Fx D w w' ∧ SetIn w' D b n (rawX how X (L.map (·.2)) % 2 ^ n) := by
  refine does_fn (R := fun k => rawW how (wd X k) (row L k)) ?_ ?_ (fun k => rawW_lt _ _ _ (wd_lt X k) (row_lt L k)) (Nat.mod_lt _ (Nat.two_pow_pos n)) ?_ h hv hL hDE hlen
  · rfl
  · intro w D v k hs
    obtain rfl : how = 0 := by omega
    exact join1_any hs (wd_lt X k) (row_lt L k)
  · intro k hk
    rw [wd_cut _ _ _ hk, rawX_wd, List.map_map]
    rfl
#print axioms join1_any
#print axioms doesNil_any
#print axioms does_any
end Go.Proofs.YtfpggeiphbekoaaDoor
