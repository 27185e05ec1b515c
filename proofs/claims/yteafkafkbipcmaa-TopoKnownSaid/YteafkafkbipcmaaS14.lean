/- No graph: what the functions of topo answer. | The law TopoKnown. -/
import Derived.Test.YteafkafkbipcmaaS13
import Derived.Test.YteafkafkbipcmaaS7
import Derived.Test.YteafkafkbipcmaaS9
import Derived.Test.YteafkafkbipcmaaS10
import Derived.Deep.DeepCutAuto
import Derived.Deep.CutBlock

namespace Go.Proofs.Yteafkafkbipcmaa
open Go.RowKit
set_option linter.unusedVariables false

theorem nilRounds_any (w : World) : Calls Try.prog 10 #[.pointer none] w fun e w' => e = .returned (.slice none 0 0) ∧ Fx No w w' := by
  go_enter Try.func10, Try.ntmps10
  go_wp2
  go_ret
  exact ⟨rfl, Fx.refl _ _⟩
theorem nilRest_any (w : World) : Calls Try.prog 11 #[.pointer none] w fun e w' => e = .returned (.slice none 0 0) ∧ Fx No w w' := by
  go_enter Try.func11, Try.ntmps11
  go_wp2
  go_ret
  exact ⟨rfl, Fx.refl _ _⟩
theorem nilResp_any (w : World) : Calls Try.prog 19 #[.pointer none, .slice none 0 0] w fun e w' => e = .returned (.bool false) ∧ Fx No w w' := by
  go_enter Try.func19, Try.ntmps19
  go_wp2
  go_ret
  exact ⟨rfl, Fx.refl _ _⟩
theorem nilSort_any (w : World) : Calls Try.prog 15 #[.pointer none] w fun e w' => e = .returned (.tuple #[.slice none 0 0, .int .i64 1]) ∧ Fx No w w' := by
  go_enter Try.func15, Try.ntmps15
  go_wp2
  go_ret2
  exact ⟨rfl, Fx.refl _ _⟩
theorem nilDepth_any (w : World) : Calls Try.prog 23 #[.pointer none] w fun e w' => e = .returned (.tuple #[.int .i64 0, .int .i64 1]) ∧ Fx No w w' := by
  go_enter Try.func23, Try.ntmps23
  go_wp2_with fail
  refine (nilSort_any w).mono ?_
  rintro e w1 ⟨rfl, hf⟩
  have HF := Lib.hid hf
  clear hf
  go_wp2
  go_ret2
  exact ⟨rfl, HF.out⟩
theorem nilOnly_any (w : World) : Calls Try.prog 24 #[.pointer none] w fun e w' => e = .returned (.bool false) ∧ Fx No w w' := by
  go_enter Try.func24, Try.ntmps24
  go_wp2_with fail
  refine (nilSort_any w).mono ?_
  rintro e w1 ⟨rfl, hf⟩
  have HF := Lib.hid hf
  clear hf
  go_wp2
  go_ret
  exact ⟨rfl, HF.out⟩
#print axioms nilOnly_any
end Go.Proofs.Yteafkafkbipcmaa

namespace Go.Proofs.Yteafkafkbipcmaa
open Go.RowKit
set_option linter.unusedVariables false

theorem ok_small {x : Int} (h0 : 0 ≤ x) (h1 : x ≤ 1000000) : Ok64 x := by unfold Ok64; omega
theorem snoc_ok {xs : List Ed} {x : Ed} (h : ∀ y ∈ xs, y.ok) (hx : x.ok) : ∀ y ∈ xs ++ [x], y.ok := fun y hy => by
  rcases List.mem_append.1 hy with q | q
  · exact h y q
  · rw [List.mem_singleton] at q; rw [q]; exact hx
set_option maxRecDepth 100000 in
set_option maxHeartbeats 16000000 in
theorem known_any (w : World) : Calls Try.prog 7 #[] w fun e w' => e = .returned (.bool true) ∧ Fx No w w' := by
  obtain ⟨iie, hie, hze, hse, hbe⟩ := info_edge'
  have CT : Hid (∀ (W : World) (E : Nat → Prop) (l : List Ed) (v : Value) (n : Int), EdsV W E v l → (∀ x ∈ l, x.ok) → Calls Try.prog 4 #[.int .i64 n, v] W fun e w' => e = .returned (.bool true) ∧ Fx No W w') := Lib.hid fun W E l v n h1 h2 => sorts_any n h1 h2
  have CA : Hid (∀ (W : World) (E : Nat → Prop) (l : List Ed) (v : Value) (n : Int), EdsV W E v l → (∀ x ∈ l, x.ok) → Calls Try.prog 6 #[.int .i64 n, v] W fun e w' => e = .returned (.bool true) ∧ Fx No W w') := Lib.hid fun W E l v n h1 h2 => alllaw_any n h1 h2
  have CR : Hid (∀ (W : World) (E : Nat → Prop) (l : List Ed) (v : Value) (n : Int), EdsV W E v l → (∀ x ∈ l, x.ok) → Calls Try.prog 3 #[.int .i64 n, v] W fun e w' => e = .returned (.bool true) ∧ Fx No W w') := Lib.hid fun W E l v n h1 h2 => restlaw_any n h1 h2
  have CS : Hid (∀ (W : World) (E E2 : Nat → Prop) (l : List Ed) (zs : List Int) (v u : Value) (n : Int), EdsV W E v l → (∀ x ∈ l, x.ok) → IntsV W E2 u zs → Calls Try.prog 5 #[.int .i64 n, v, u] W fun e w' => e = .returned (.bool true) ∧ Fx No W w') := Lib.hid fun W E E2 l zs v u n h1 h2 h3 => asks_any n h1 h2 h3
  go_enter Try.func7, Try.ntmps7
  go_wp2
  go_loopw [1, 2] (fun kk ii ws => ∃ κ i : Nat, kk = .int .i64 κ ∧ κ < 100003 ∧ ii = .int .i64 i ∧ i ≤ 120 ∧ Fx No w ws) (fun _ ii _ => 120 - (intOf ii).toNat)
  case atStart => exact ⟨1, 0, rfl, by omega, rfl, by omega, Fx.refl _ _⟩
  case round =>
    obtain ⟨κ, i, rfl, hκ, rfl, hi60, hf⟩ := hrel
    have HF := Lib.hid hf
    obtain ⟨wa, hwa⟩ : ∃ x, x = wr := ⟨_, rfl⟩
    subst hwa
    clear hf
    by_cases hil : i < 120
    · have di : decide ((i : Int) < 120) = true := decide_eq_true (by omega)
      have HI := Lib.hid hil
      clear hil
      obtain ⟨m16, hm16⟩ : ∃ q, q = i % 14 := ⟨_, rfl⟩
      have a1 : (i : Int).tmod 14 = (m16 : Int) := by rw [hm16]; rfl
      have a2 : (i : Int) % 14 = (m16 : Int) := by omega
      have hm15 : m16 ≤ 13 := by omega
      clear hm16
      go_wp2
      go_loopw [1, 3, 4] (fun kk lv nn ws => ∃ (κ n : Nat) (Ls : List Ed), kk = .int .i64 κ ∧ κ < 100003 ∧ nn = .int .i64 n ∧ n ≤ m16 ∧ Fx No wa ws ∧ OwnT 57 e3 3 ws wa.heap.size lv Ls ∧ Ls.length = n ∧ ∀ x ∈ Ls, x.ok) (fun _ _ nn _ => m16 - (intOf nn).toNat)
      case atStart => exact ⟨κ, 0, [], rfl, hκ, rfl, Nat.zero_le _, Fx.refl _ _, OwnT.nil _ _, rfl, by simp⟩
      case round =>
        clear hκ
        obtain ⟨κ, n, Ls, rfl, hκ, rfl, hn, hfn, ho, hLl, hLk⟩ := hrel
        obtain ⟨wb, hwb⟩ : ∃ x, x = wr := ⟨_, rfl⟩
        subst hwb
        have HFn := Lib.hid hfn
        have HLl := Lib.hid hLl
        have HLk := Lib.hid hLk
        have hzb := hfn.size
        obtain ⟨lo, lc, rfl, _⟩ := OwnT.row ho
        have HN := Lib.hid hn
        unfold OwnT at ho
        rw [hLl] at ho ⊢
        have HO := Lib.hid ho
        have HOe : Hid (EdsV wb (Iv wa.heap.size wb.heap.size) (.slice lo n lc) Ls) := Lib.hid (by rw [← hLl] at ho ⊢; exact OwnT.row ho)
        clear hfn ho hLk hLl
        by_cases hnl : n < m16
        · have dn : decide ((n : Int) < (m16 : Int)) = true := decide_eq_true (by omega)
          have dn2 : decide (n < m16) = true := decide_eq_true hnl
          obtain ⟨x1, hx1⟩ : ∃ q, q = κ % 7 := ⟨_, rfl⟩
          have c1 : (κ : Int).tmod 7 = (x1 : Int) := by rw [hx1]; rfl
          have c2 : (κ : Int) % 7 = (x1 : Int) := by omega
          obtain ⟨d9, hd9⟩ : ∃ q, q = κ / 7 := ⟨_, rfl⟩
          have e1 : (κ : Int).tdiv 7 = (d9 : Int) := by rw [hd9]; rfl
          have e2 : (κ : Int) / 7 = (d9 : Int) := by omega
          obtain ⟨x2, hx2⟩ : ∃ q, q = d9 % 7 := ⟨_, rfl⟩
          have f1 : (d9 : Int).tmod 7 = (x2 : Int) := by rw [hx2]; rfl
          have f2 : (d9 : Int) % 7 = (x2 : Int) := by omega
          obtain ⟨x3, hx3⟩ : ∃ q, q = κ % 2 := ⟨_, rfl⟩
          have h1 : (κ : Int).tmod 2 = (x3 : Int) := by rw [hx3]; rfl
          have h2 : (κ : Int) % 2 = (x3 : Int) := by omega
          obtain ⟨m3, hi3⟩ : ∃ q, q = i % 3 := ⟨_, rfl⟩
          have hi3a : (i : Int).tmod 3 = (m3 : Int) := by rw [hi3]; rfl
          have hi3b : (i : Int) % 3 = (m3 : Int) := by omega
          obtain ⟨m4, hi4⟩ : ∃ q, q = i % 4 := ⟨_, rfl⟩
          have hi4a : (i : Int).tmod 4 = (m4 : Int) := by rw [hi4]; rfl
          have hi4b : (i : Int) % 4 = (m4 : Int) := by omega
          obtain ⟨κ', hκ'⟩ : ∃ q, q = (κ * 31 + 7 * n + 11) % 100003 := ⟨_, rfl⟩
          have k1 : ((κ : Int) * 31 + 7 * (n : Int) + 11).tmod 100003 = (κ' : Int) := by rw [hκ']; rfl
          have k2 : ((κ : Int) * 31 + 7 * (n : Int) + 11) % 100003 = (κ' : Int) := by omega
          have hκl : κ' < 100003 := by omega
          have hd9l : d9 ≤ 100003 := by omega
          have hx1l : x1 ≤ 6 := by omega
          have hx2l : x2 ≤ 6 := by omega
          have hx3l : x3 ≤ 1 := by omega
          have hm3l : m3 ≤ 2 := by omega
          have hm4l : m4 ≤ 3 := by omega
          have HNl := Lib.hid hnl
          clear hi3 hi4
          by_cases hxe : x1 = x2
          · subst hxe
            have hxe : x1 ≤ 6 := by omega
            have g0 : decide ((x1 : Int) < (x1 : Int)) = false := decide_eq_false (by omega)
            have g0n : decide (x1 < x1) = false := decide_eq_false (by omega)
            by_cases hm3 : 0 < m3
            · have t3 : decide ((0 : Int) < (m3 : Int)) = true := decide_eq_true (by omega)
              have t3n : decide (0 < m3) = true := decide_eq_true (by omega)
              have hm4 : m4 ≤ 3 := by omega
              clear hx1 hd9 hx2 hx3 hκ' hnl hxe hm3 hm4
              go_wp2_with (at_builtin; refine wpList_append_kept rfl _ _ 22 rfl wa.heap.size 57 Try.underlying22 hie hze hse hbe rfl (by decide) rfl (World.ownsRow.alloc HO.out _) rfl (SlV.lit _ 57 #[.int .i64 ((x1 : Int)), .int .i64 ((x1 : Int) + 1), .int .i64 (x3 : Nat)] 3 1 rfl (by unfold maxLen; omega)) (ints_one [_, _, _]) (by omega) (by unfold maxLen; omega) (by omega) (by simp; omega) ?_)
              intro lv' w1 ho hf _ hb
              have HN1 : Hid (Fx No wa w1 ∧ OwnT 57 e3 3 w1 wa.heap.size lv' (Ls ++ [⟨(x1 : Int), (x1 : Int) + 1, (x3 : Int)⟩])) := Lib.hid ⟨(HFn.out.trans ((Fx.refl No _).alloc _)).trans' hf (fun j e hl => by have := (World.ownsRow.lt HO.out j e).1; omega), OwnT.snoc (by rw [HLl.out]; exact ho)⟩
              have HXo : Hid ((⟨(x1 : Int), (x1 : Int) + 1, (x3 : Int)⟩ : Ed).ok) := Lib.hid ⟨ok_small (x := (x1 : Int)) (by omega) (by omega), ok_small (x := (x1 : Int) + 1) (by omega) (by omega), ok_small (x := (x3 : Int)) (by omega) (by omega)⟩
              clear ho hf hb
              go_wp2
              go_roundw
              case rel => exact ⟨κ', n + 1, _, by first | rfl | go_num, hκl, by go_num, by have := HNl.out; omega, HN1.out.1, HN1.out.2, by have := HLl.out; simp; omega, snoc_ok HLk.out HXo.out⟩
              case measure => have := HNl.out; simp [intOf]; omega
            · obtain rfl : m3 = 0 := by omega
              have hm4 : m4 ≤ 3 := by omega
              clear hx1 hd9 hx2 hx3 hκ' hnl hxe hm3 hm4
              go_wp2_with (at_builtin; refine wpList_append_kept rfl _ _ 22 rfl wa.heap.size 57 Try.underlying22 hie hze hse hbe rfl (by decide) rfl (World.ownsRow.alloc HO.out _) rfl (SlV.lit _ 57 #[.int .i64 ((x1 : Int)), .int .i64 ((x1 : Int)), .int .i64 (x3 : Nat)] 3 1 rfl (by unfold maxLen; omega)) (ints_one [_, _, _]) (by omega) (by unfold maxLen; omega) (by omega) (by simp; omega) ?_)
              intro lv' w1 ho hf _ hb
              have HN1 : Hid (Fx No wa w1 ∧ OwnT 57 e3 3 w1 wa.heap.size lv' (Ls ++ [⟨(x1 : Int), (x1 : Int), (x3 : Int)⟩])) := Lib.hid ⟨(HFn.out.trans ((Fx.refl No _).alloc _)).trans' hf (fun j e hl => by have := (World.ownsRow.lt HO.out j e).1; omega), OwnT.snoc (by rw [HLl.out]; exact ho)⟩
              have HXo : Hid ((⟨(x1 : Int), (x1 : Int), (x3 : Int)⟩ : Ed).ok) := Lib.hid ⟨ok_small (x := (x1 : Int)) (by omega) (by omega), ok_small (x := (x1 : Int)) (by omega) (by omega), ok_small (x := (x3 : Int)) (by omega) (by omega)⟩
              clear ho hf hb
              go_wp2
              go_roundw
              case rel => exact ⟨κ', n + 1, _, by first | rfl | go_num, hκl, by go_num, by have := HNl.out; omega, HN1.out.1, HN1.out.2, by have := HLl.out; simp; omega, snoc_ok HLk.out HXo.out⟩
              case measure => have := HNl.out; simp [intOf]; omega
          · have hm3 : m3 ≤ 2 := by omega
            have ne1 : ((x1 : Int) == (x2 : Int)) = false := by simp; omega
            have ne2 : (x1 == x2) = false := by simp; omega
            have ne3 : decide (x1 = x2) = false := decide_eq_false (by omega)
            have ne4 : decide ((x1 : Int) = (x2 : Int)) = false := decide_eq_false (by omega)
            by_cases hlt : x2 < x1
            · have g0 : decide ((x2 : Int) < (x1 : Int)) = true := decide_eq_true (by omega)
              have g0n : decide (x2 < x1) = true := decide_eq_true (by omega)
              by_cases hm4 : 0 < m4
              · have t4 : decide ((0 : Int) < (m4 : Int)) = true := decide_eq_true (by omega)
                have t4n : decide (0 < m4) = true := decide_eq_true (by omega)
                clear hx1 hd9 hx2 hx3 hκ' hnl hxe hm3 hm4
                go_wp2_with (at_builtin; refine wpList_append_kept rfl _ _ 22 rfl wa.heap.size 57 Try.underlying22 hie hze hse hbe rfl (by decide) rfl (World.ownsRow.alloc HO.out _) rfl (SlV.lit _ 57 #[.int .i64 ((x2 : Int)), .int .i64 ((x1 : Int) + 1), .int .i64 (x3 : Nat)] 3 1 rfl (by unfold maxLen; omega)) (ints_one [_, _, _]) (by omega) (by unfold maxLen; omega) (by omega) (by simp; omega) ?_)
                intro lv' w1 ho hf _ hb
                have HN1 : Hid (Fx No wa w1 ∧ OwnT 57 e3 3 w1 wa.heap.size lv' (Ls ++ [⟨(x2 : Int), (x1 : Int) + 1, (x3 : Int)⟩])) := Lib.hid ⟨(HFn.out.trans ((Fx.refl No _).alloc _)).trans' hf (fun j e hl => by have := (World.ownsRow.lt HO.out j e).1; omega), OwnT.snoc (by rw [HLl.out]; exact ho)⟩
                have HXo : Hid ((⟨(x2 : Int), (x1 : Int) + 1, (x3 : Int)⟩ : Ed).ok) := Lib.hid ⟨ok_small (x := (x2 : Int)) (by omega) (by omega), ok_small (x := (x1 : Int) + 1) (by omega) (by omega), ok_small (x := (x3 : Int)) (by omega) (by omega)⟩
                clear ho hf hb
                go_wp2
                go_roundw
                case rel => exact ⟨κ', n + 1, _, by first | rfl | go_num, hκl, by go_num, by have := HNl.out; omega, HN1.out.1, HN1.out.2, by have := HLl.out; simp; omega, snoc_ok HLk.out HXo.out⟩
                case measure => have := HNl.out; simp [intOf]; omega
              · obtain rfl : m4 = 0 := by omega
                clear hx1 hd9 hx2 hx3 hκ' hnl hxe hm3 hm4
                go_wp2_with (at_builtin; refine wpList_append_kept rfl _ _ 22 rfl wa.heap.size 57 Try.underlying22 hie hze hse hbe rfl (by decide) rfl (World.ownsRow.alloc HO.out _) rfl (SlV.lit _ 57 #[.int .i64 ((x1 : Int)), .int .i64 ((x2 : Int)), .int .i64 (x3 : Nat)] 3 1 rfl (by unfold maxLen; omega)) (ints_one [_, _, _]) (by omega) (by unfold maxLen; omega) (by omega) (by simp; omega) ?_)
                intro lv' w1 ho hf _ hb
                have HN1 : Hid (Fx No wa w1 ∧ OwnT 57 e3 3 w1 wa.heap.size lv' (Ls ++ [⟨(x1 : Int), (x2 : Int), (x3 : Int)⟩])) := Lib.hid ⟨(HFn.out.trans ((Fx.refl No _).alloc _)).trans' hf (fun j e hl => by have := (World.ownsRow.lt HO.out j e).1; omega), OwnT.snoc (by rw [HLl.out]; exact ho)⟩
                have HXo : Hid ((⟨(x1 : Int), (x2 : Int), (x3 : Int)⟩ : Ed).ok) := Lib.hid ⟨ok_small (x := (x1 : Int)) (by omega) (by omega), ok_small (x := (x2 : Int)) (by omega) (by omega), ok_small (x := (x3 : Int)) (by omega) (by omega)⟩
                clear ho hf hb
                go_wp2
                go_roundw
                case rel => exact ⟨κ', n + 1, _, by first | rfl | go_num, hκl, by go_num, by have := HNl.out; omega, HN1.out.1, HN1.out.2, by have := HLl.out; simp; omega, snoc_ok HLk.out HXo.out⟩
                case measure => have := HNl.out; simp [intOf]; omega
            · have hm4 : m4 ≤ 3 := by omega
              have g0 : decide ((x2 : Int) < (x1 : Int)) = false := decide_eq_false (by omega)
              have g0n : decide (x2 < x1) = false := decide_eq_false (by omega)
              clear hx1 hd9 hx2 hx3 hκ' hnl hxe hm3 hm4
              go_wp2_with (at_builtin; refine wpList_append_kept rfl _ _ 22 rfl wa.heap.size 57 Try.underlying22 hie hze hse hbe rfl (by decide) rfl (World.ownsRow.alloc HO.out _) rfl (SlV.lit _ 57 #[.int .i64 ((x1 : Int)), .int .i64 ((x2 : Int)), .int .i64 (x3 : Nat)] 3 1 rfl (by unfold maxLen; omega)) (ints_one [_, _, _]) (by omega) (by unfold maxLen; omega) (by omega) (by simp; omega) ?_)
              intro lv' w1 ho hf _ hb
              have HN1 : Hid (Fx No wa w1 ∧ OwnT 57 e3 3 w1 wa.heap.size lv' (Ls ++ [⟨(x1 : Int), (x2 : Int), (x3 : Int)⟩])) := Lib.hid ⟨(HFn.out.trans ((Fx.refl No _).alloc _)).trans' hf (fun j e hl => by have := (World.ownsRow.lt HO.out j e).1; omega), OwnT.snoc (by rw [HLl.out]; exact ho)⟩
              have HXo : Hid ((⟨(x1 : Int), (x2 : Int), (x3 : Int)⟩ : Ed).ok) := Lib.hid ⟨ok_small (x := (x1 : Int)) (by omega) (by omega), ok_small (x := (x2 : Int)) (by omega) (by omega), ok_small (x := (x3 : Int)) (by omega) (by omega)⟩
              clear ho hf hb
              go_wp2
              go_roundw
              case rel => exact ⟨κ', n + 1, _, by first | rfl | go_num, hκl, by go_num, by have := HNl.out; omega, HN1.out.1, HN1.out.2, by have := HLl.out; simp; omega, snoc_ok HLk.out HXo.out⟩
              case measure => have := HNl.out; simp [intOf]; omega
        · obtain rfl : n = m16 := by omega
          have dn : decide ((n : Int) < (n : Int)) = false := decide_eq_false (by omega)
          have dn2 : decide (n < n) = false := decide_eq_false (by omega)
          obtain ⟨i20, hi20⟩ : ∃ q, q = i % 20 := ⟨_, rfl⟩
          have hi20a : (i : Int).tmod 20 = (i20 : Int) := by rw [hi20]; rfl
          have hi20b : (i : Int) % 20 = (i20 : Int) := by omega
          obtain ⟨i12, hi12⟩ : ∃ q, q = i % 12 := ⟨_, rfl⟩
          have hi12a : (i : Int).tmod 12 = (i12 : Int) := by rw [hi12]; rfl
          have hi12b : (i : Int) % 12 = (i12 : Int) := by omega
          obtain ⟨κ4, hκ4⟩ : ∃ q, q = κ % 4 := ⟨_, rfl⟩
          have hκ4a : (κ : Int).tmod 4 = (κ4 : Int) := by rw [hκ4]; rfl
          have hκ4b : (κ : Int) % 4 = (κ4 : Int) := by omega
          have HKap := Lib.hid hκ
          have HZ : Hid (IntsV (wb.alloc (.cells #[.int .i64 (κ4 : Nat), .int .i64 1, .int .i64 2, .int .i64 0, .int .i64 3] 3)) (fun k => k = wb.heap.size) (.slice (some ⟨wb.heap.size, 0, none⟩) 5 5) [(κ4 : Int), 1, 2, 0, 3]) := Lib.hid (IntsV.lit wb 3 [(κ4 : Int), 1, 2, 0, 3] (by simp))
          clear hi20 hi12 hκ4 hκ hn
          go_wp2_with fail
          refine (CT.out _ _ _ _ _ (RowV.no HOe.out ((Fx.refl No wb).alloc _)) HLk.out).mono ?_
          rintro e w1 ⟨rfl, hf1⟩
          have HF1 := Lib.hid (((Fx.refl No wb).alloc (.cells #[.int .i64 (κ4 : Nat), .int .i64 1, .int .i64 2, .int .i64 0, .int .i64 3] 3)).trans hf1)
          have HZ1 := Lib.hid (HZ.out.no hf1)
          clear hf1 HZ
          go_wp2_with fail
          refine (CA.out _ _ _ _ _ (RowV.no HOe.out HF1.out) HLk.out).mono ?_
          rintro e w2 ⟨rfl, hf2⟩
          have HF2 := Lib.hid (HF1.out.trans hf2)
          have HZ2 := Lib.hid (HZ1.out.no hf2)
          clear hf2 HF1 HZ1
          go_wp2_with fail
          refine (CR.out _ _ _ _ _ (RowV.no HOe.out HF2.out) HLk.out).mono ?_
          rintro e w3 ⟨rfl, hf3⟩
          have HF3 := Lib.hid (HF2.out.trans hf3)
          have HZ3 := Lib.hid (HZ2.out.no hf3)
          clear hf3 HF2 HZ2
          go_wp2_with fail
          refine (CS.out _ _ _ _ _ _ _ _ (RowV.no HOe.out HF3.out) HLk.out HZ3.out).mono ?_
          rintro e w4 ⟨rfl, hf4⟩
          have HF4 := Lib.hid (HF.out.trans (HFn.out.trans (HF3.out.trans hf4)))
          clear hf4 HF3 HZ3
          go_wp2
          go_roundw
          case rel => exact ⟨κ, i + 1, rfl, HKap.out, by go_num, by have := HI.out; omega, HF4.out⟩
          case measure => have := HI.out; simp [intOf]; omega
    · obtain rfl : i = 120 := by omega
      have di : decide (((120 : Nat) : Int) < 120) = false := by decide
      clear hκ
      go_wp2_with fail
      refine (nilSort_any _).mono ?_
      rintro e v1 ⟨rfl, hf1⟩
      have HE1 := Lib.hid (HF.out.trans hf1)
      clear hf1
      go_wp2_with fail
      refine (nilDepth_any _).mono ?_
      rintro e v2 ⟨rfl, hf2⟩
      have HE2 := Lib.hid (HE1.out.trans hf2)
      clear hf2
      go_wp2_with fail
      refine (nilResp_any _).mono ?_
      rintro e v3 ⟨rfl, hf3⟩
      have HE3 := Lib.hid (HE2.out.trans hf3)
      clear hf3
      go_wp2_with fail
      refine (nilRounds_any _).mono ?_
      rintro e v4 ⟨rfl, hf4⟩
      have HE4 := Lib.hid (HE3.out.trans hf4)
      clear hf4
      go_wp2_with fail
      refine (nilRest_any _).mono ?_
      rintro e v5 ⟨rfl, hf5⟩
      have HE5 := Lib.hid (HE4.out.trans hf5)
      clear hf5
      go_wp2_with fail
      refine (nilOnly_any _).mono ?_
      rintro e v6 ⟨rfl, hf6⟩
      have HE6 := Lib.hid (HE5.out.trans hf6)
      clear hf6
      go_wp2_with fail
      refine (works_any _).mono ?_
      rintro e v7 ⟨rfl, hf7⟩
      have HE7 := Lib.hid (HE6.out.trans hf7)
      clear hf7
      go_wp2
      go_ret
      exact ⟨rfl, HE7.out⟩
#print axioms known_any
end Go.Proofs.Yteafkafkbipcmaa
