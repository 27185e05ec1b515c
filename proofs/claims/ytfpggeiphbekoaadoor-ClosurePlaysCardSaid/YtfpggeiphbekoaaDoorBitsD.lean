/- Contracts of package bits: Len, Copy; of math/bits: TrailingZeros64; of slices: Clone. -/
import Derived.Test.YtfpggeiphbekoaaDoorBitsC
import Derived.Test.YtfpggeiphbekoaaDoorPop
import Derived.Lib.TrailingZeros
import Derived.Deep.RegionWith
namespace Go.Proofs.YtfpggeiphbekoaaDoor
open Go.RowKit
set_option linter.unusedVariables false

theorem len_any {w : World} {D : Nat → Prop} {p : Option Addr} {n X : Nat} (h : SetP w D p n X) :
    Calls Tryd.prog 49 #[.pointer p] w fun e w' => e = .returned (.int .i64 (cntX n X)) ∧ w = w' := by
  rcases h with ⟨rfl, rfl, rfl⟩ | ⟨b, rfl, h⟩
  · go_enter Tryd.func49, Tryd.ntmps49
    go_wp2
    go_ret
    exact ⟨rfl, rfl⟩
  · obtain ⟨c, cap, h0, h1, hw, _⟩ := h.facts
    have hn := nw_le h.le
    have HA := Lib.hid (cntX_all h.lt)
    have HW := Lib.hid hw
    clear hw h0 h
    go_enter Tryd.func49, Tryd.ntmps49
    go_wp2
    go_loop [2, 4, 12] (fun s _ i => ∃ k : Nat, k ≤ nw n ∧ i = .int .i64 k ∧ s = .int .i64 (cntX (64 * k) X)) (fun _ _ i => nw n - (intOf i).toNat)
    case atStart => exact ⟨0, Nat.zero_le _, rfl, rfl⟩
    case round =>
      obtain ⟨k, hk, rfl, rfl⟩ := hrel
      have hcl := cntX_le (64 * k) X
      by_cases hlt : k < nw n
      · have hc := (HW.out k hlt).1
        have HS := Lib.hid (cntX_words X k)
        have hl := cntX_le 64 (wd X k)
        rw [← popN_cntX (wd_lt X k)] at hl
        go_wp2_with (go_at_call 70; refine (ones_any _ _ (wd_lt X k)).mono ?_; rintro e w' ⟨rfl, rfl⟩)
        go_round
        case rel => exact ⟨k + 1, by omega, by go_num, by rw [HS.out]; go_num⟩
        case measure => simp [intOf]; omega
      · obtain rfl : k = nw n := by omega
        go_wp2
        go_ret
        exact ⟨by rw [← HA.out]; rfl, rfl⟩

def wordsX (X m : Nat) : List Value := (List.range m).map fun k => .int .u64 (wd X k)
theorem wordsX_one (X m : Nat) : One (wordsX X m) := by
  intro u hu
  obtain ⟨_, _, rfl⟩ := List.mem_map.1 hu
  rfl
/-- slices.Clone of words: a row of its own -/
theorem cloneWords_any {w : World} {D : Nat → Prop} {v : Value} {m : Nat} {cs : List Value} (h : SlV w D v 1 m cs) (hv : v ≠ .slice none 0 0) (h1 : One cs) (hm : m ≤ 100000) :
    Calls Tryd.prog 83 #[v] w fun e w' => ∃ v', e = .returned v' ∧ Fx No w w' ∧ w'.ownsRow w.heap.size 119 1 v' m cs ∧ v' ≠ .slice none 0 0 := by
  obtain ⟨i0, hi, hz, hs, hb⟩ := info_parts info_u64
  have H := Lib.hid h
  have H1 := Lib.hid h1
  have HV := Lib.hid hv
  obtain ⟨ao, cap, rfl, hmc, hcm, hlen, hnil, _⟩ := h
  cases ao with
  | none =>
    obtain rfl := hnil rfl
    obtain rfl : m = 0 := by omega
    exact absurd rfl hv
  | some a =>
    clear h1 hv hnil
    have heq := fun w : World => Lib.run_eql_slice_nil (P := Tryd.prog) w 120 119 (some a) m cap 0 0 Tryd.underlying120
    go_enter Tryd.func83, Tryd.ntmps83
    go_wp2_with (at_builtin; refine wpList_append_sl rfl _ _ 120 rfl w.heap.size 119 Tryd.underlying120 hi hz hs hb rfl (by decide) rfl (World.ownsRow_lit w #[] 0 (Nat.le_refl _) (by unfold maxLen; omega) rfl) rfl (H.out.keep (S := No) ((Fx.refl _ _).alloc _) No.disj) H1.out (by unfold maxLen; omega) (by omega) (by simp) ?_)
    intro v' w1 hown1 hf1 hnil1
    have HO := Lib.hid hown1
    have HF := Lib.hid (((Fx.refl No w).alloc (.cells #[] 119)).trans' hf1 (by simp [Value.ownBlock]))
    have HN : Hid (v' ≠ .slice none 0 0) := hnil1
    clear hown1 hf1 hnil1
    go_wp2
    go_ret
    exact ⟨_, rfl, HF.out, by simpa using HO.out, HN.out⟩
theorem ownsRow_block {w : World} {base : Nat} {e : TypeId} {size : Nat} {v : Value} {n : Nat} {xs : List Value} (h : w.ownsRow base e size v n xs) (hv : v ≠ .slice none 0 0) :
    ∃ g cap cur, v = .slice (some ⟨g, 0, none⟩) n cap ∧ base ≤ g ∧ w.heap[g]? = some (.cells cur e (0, 0)) ∧ n ≤ cap ∧ cap ≤ maxLen ∧ cur.size = cap * size ∧ cur.toList.take (n * size) = xs := by
  rcases h.2 with ⟨h1, _⟩ | ⟨g, cap, cur, h1, h2, h3, h4, h5, h6, h7⟩
  · exact absurd h1 hv
  · exact ⟨g, cap, cur, h1, h2, h3, h4, h5, h6, h7⟩

theorem SetIn.words_sl {w : World} {D : Nat → Prop} {b n X : Nat} (h : SetIn w D b n X) : ∃ c cap, w.cell? ⟨b, 0, none⟩ = some (.int .i64 (n : Int)) ∧
    w.cell? ⟨b, 1, none⟩ = some (.slice (some ⟨c, 0, none⟩) (nw n) cap) ∧ SlV w D (.slice (some ⟨c, 0, none⟩) (nw n) cap) 1 (nw n) (wordsX X (nw n)) := by
  obtain ⟨c, cap, hm1, hm2, h1, h2⟩ := h.words
  refine ⟨c, cap, by simp [World.cell?, h1], by simp [World.cell?, h1], _, cap, rfl, hm1, hm2, by simp [wordsX], by simp, ?_⟩
  rcases h2 with h2 | ⟨hD, cs, h3, h4⟩
  · left; simp [wordsX, h2]
  · refine .inr ⟨c, 0, rfl, hD, fun i hi => ?_⟩
    have hi' : i < nw n := by simpa [wordsX] using hi
    simp [World.cell?, h3, h4 i hi', wordsX, hi']
theorem SetIn.ofOwns {w : World} {base b n X g cap : Nat} (hn : n ≤ 65536) (hX : X < 2 ^ n) (hb : base ≤ b ∧ b < w.heap.size) (hbl : w.heap[b]? = some (.cells #[.int .i64 (n : Int), .slice (some ⟨g, 0, none⟩) (nw n) cap] 122 (0, 0)))
    (ho : w.ownsRow base 119 1 (.slice (some ⟨g, 0, none⟩) (nw n) cap) (nw n) (wordsX X (nw n))) : SetIn w (Iv base w.heap.size) b n X := by
  obtain ⟨g', cap', cur, h1, h2, h3, h4, h5, h6, h7⟩ := ownsRow_block ho (by simp)
  simp only [Value.slice.injEq, Option.some.injEq, Addr.mk.injEq, and_true, true_and] at h1
  obtain ⟨rfl, rfl⟩ := h1
  refine ⟨hn, hX, hb, g, cap, h4, h5, hbl, .inr ⟨⟨h2, (Array.getElem?_eq_some_iff.1 h3).1⟩, cur, h3, fun k hk => ?_⟩⟩
  have := congrArg (fun l : List Value => l[k]?) h7
  simp only [Nat.mul_one, List.getElem?_take, hk, if_true] at this
  simpa [wordsX, hk] using this

theorem copyNil_any (w : World) : Calls Tryd.prog 62 #[.pointer none] w fun e w' => e = .returned (.pointer none) ∧ w = w' := by
  go_enter Tryd.func62, Tryd.ntmps62
  go_wp2
  go_ret
  exact ⟨rfl, rfl⟩

theorem copy_any {w : World} {D : Nat → Prop} {b n X : Nat} (h : SetIn w D b n X) :
    Calls Tryd.prog 62 #[.pointer (some ⟨b, 0, none⟩)] w fun e w' => ∃ b', e = .returned (.pointer (some ⟨b', 0, none⟩)) ∧ Fx No w w' ∧ SetIn w' (Iv w.heap.size w'.heap.size) b' n X := by
  have hle := h.le
  have hlt := Lib.hid h.lt
  have hn := nw_le h.le
  obtain ⟨c, cap, h0, h1, hsl⟩ := h.words_sl
  have HS := Lib.hid hsl
  clear hsl h
  go_enter Tryd.func62, Tryd.ntmps62
  go_wp2
  go_region_with (go_at_call 83; refine (cloneWords_any (HS.out.keep (S := No) ((Fx.refl _ _).drew) No.disj) (by simp) (wordsX_one _ _) (by omega)).mono ?_; rintro e w1 ⟨v1, rfl, hf1, ho1, hn1⟩; obtain ⟨g, gcap, cur, rfl, _⟩ := ownsRow_block ho1 hn1; have h0' := hf1.cell' h0 (fun h => h); have HO := Lib.hid ho1; have HF := Lib.hid hf1; clear hf1 ho1 hn1)
  all_goals
    go_wp2
    go_ret
    refine ⟨_, rfl, ((Fx.refl No w).drew.trans HF.out).alloc _, ?_⟩
    have hs := HF.out.size
    simp only [World.size_drew] at hs
    refine SetIn.ofOwns (g := g) (cap := gcap) hle hlt.out ⟨hs, by simp⟩ (heap_alloc_new w1 _) (World.ownsRow.alloc ?_ _)
    have ho := HO.out
    simpa only [World.size_drew] using ho

/-- the table that TrailingZeros64 reads -/
def TabOk (w : World) : Prop := ∀ j, j < 64 → w.cell? ⟨0, j, none⟩ = some (.int .u8 ((Lib.deBruijn64tab.getD j 0 : Nat) : Int))
theorem TabOk.keep {w w1 : World} {S : Nat → Prop} (h : TabOk w) (hf : Fx S w w1) (hn : ¬ S 0) : TabOk w1 := fun j hj => hf.cell' (h j hj) hn

theorem tz_any (x : Nat) (w : World) (h : x < 18446744073709551616) (h0 : x ≠ 0) (hT : TabOk w) :
    Calls Tryd.prog 89 #[.int .u64 (x : Int)] w fun e w' => e = .returned (.int .i64 (Lib.ctz 64 x : Nat)) ∧ w = w' := by
  have h1 : ((x : Int) == 0) = false := by simpa using h0
  obtain ⟨hl, hk⟩ := Lib.lowest_bit 64 x h0 h
  obtain ⟨hd1, hd2⟩ := Lib.deBruijn64_at _ hk
  have hc := hT _ hd1
  rw [hd2] at hc
  have e1 : bits .and .u64 (x : Int) (IntKind.u64.wrap (-(x : Int))) = ((2 ^ Lib.ctz 64 x : Nat) : Int) := by
    have : IntKind.u64.wrap (-(x : Int)) = ((18446744073709551616 - x : Nat) : Int) := by rw [IntKind.wrap_u64]; omega
    rw [this, u64_and_nat x _ h (by omega)]
    exact congrArg _ hl
  generalize Lib.ctz 64 x = k at *
  have HK := Lib.hid hk
  obtain ⟨p, hp⟩ : ∃ p, 2 ^ k = p := ⟨_, rfl⟩
  rw [hp] at e1 hc hd1
  have e2 : IntKind.u64.wrap ((p : Int) * 285870213051353865) = ((p * 285870213051353865 % 18446744073709551616 : Nat) : Int) := by rw [IntKind.wrap_u64]; omega
  obtain ⟨q, hq⟩ : ∃ q, p * 285870213051353865 % 18446744073709551616 = q := ⟨_, rfl⟩
  rw [hq] at e2 hc hd1
  obtain ⟨r, hr⟩ : ∃ r, q / 288230376151711744 = r := ⟨_, rfl⟩
  rw [hr] at hc hd1
  have e3 : ((q : Int) / 288230376151711744) = (r : Int) := by omega
  clear hl hd2 hp hq hr h h0 hT
  go_enter Tryd.func89, Tryd.ntmps89
  go_wp2
  go_ret
  exact ⟨rfl, rfl⟩
#print axioms tz_any
#print axioms copy_any
#print axioms len_any
#print axioms cloneWords_any
end Go.Proofs.YtfpggeiphbekoaaDoor
