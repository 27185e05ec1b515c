/- The law ClosureKnown, the other laws' contracts handed in. -/
import Derived.Test.YtfpggeiphbekoaaGreatDoorA9
import Derived.Test.YtfpggeiphbekoaaGreatDoorB6
import Derived.Deep.LoopGhost
namespace Go.Proofs.YtfpggeiphbekoaaGreatDoor
open Go.RowKit Gr
set_option linter.unusedVariables false

theorem lit_atQ {W : World} {k : Nat} (e : TypeId) (cs : Array Value) (size n : Nat) (hk : k = W.heap.size) (h : cs.size = n * size) (hn : n ≤ maxLen) : SlV (W.alloc (.cells cs e)) (fun _ => True) (.slice (some ⟨k, 0, none⟩) n n) size n cs.toList := by
  subst hk
  exact SlV.lit W e cs size n h hn
/-- three rows of the call's own, apart from one another -/
structure Kn3 (w0 ws : World) (lv av zv : Value) (Ls : List (Int × Int)) (As : List Ed) (Zs : List Int) : Prop where
  fx : Fx No w0 ws
  l : OwnT 25 e2 2 ws w0.heap.size lv Ls
  a : OwnT 27 e3 3 ws w0.heap.size av As
  z : ws.ownsRow w0.heap.size 3 1 zv Zs.length (ints Zs)
  la : ∀ g, lv.ownBlock = some g → ¬ av.ownBlock = some g
  lz : ∀ g, lv.ownBlock = some g → ¬ zv.ownBlock = some g
  az : ∀ g, av.ownBlock = some g → ¬ zv.ownBlock = some g
section
variable {w0 ws w' : World} {lv av zv lv' : Value} {Ls Ls' : List (Int × Int)} {As As' : List Ed} {Zs Zs' : List Int}
theorem Kn3.start (w : World) : Kn3 w w (.slice none 0 0) (.slice none 0 0) (.slice none 0 0) [] [] [] := ⟨Fx.refl _ _, OwnT.nil _ _, OwnT.nil _ _, World.ownsRow_nil _ _ _ _, (fun g h => by cases h), (fun g h => by cases h), (fun g h => by cases h)⟩
theorem Kn3.no (h : Kn3 w0 ws lv av zv Ls As Zs) (hf : Fx No ws w') : Kn3 w0 w' lv av zv Ls As Zs := ⟨h.fx.trans hf, OwnT.no h.l hf, OwnT.no h.a hf, ownsRow_fx h.z hf fun _ _ q => q, h.la, h.lz, h.az⟩
theorem Kn3.pushL (h : Kn3 w0 ws lv av zv Ls As Zs) (hf : Fx (fun k => lv.ownBlock = some k) ws w') (ho : OwnT 25 e2 2 w' w0.heap.size lv' Ls') (hb : ∀ g, lv'.ownBlock = some g → lv.ownBlock = some g ∨ ws.heap.size ≤ g) : Kn3 w0 w' lv' av zv Ls' As Zs :=
  ⟨h.fx.trans' hf fun j h1 h2 => by have := (OwnT.lt h.l h1).1; omega, ho, OwnT.fx h.a hf fun g e1 e2 => h.la g e2 e1, ownsRow_fx h.z hf fun g e1 e2 => h.lz g e2 e1,
   fun g e1 e2 => (hb g e1).elim (fun q => h.la g q e2) (fun q => by have := (OwnT.lt h.a e2).2; omega), fun g e1 e2 => (hb g e1).elim (fun q => h.lz g q e2) (fun q => by have := (World.ownsRow.lt h.z g e2).2; omega), h.az⟩
theorem Kn3.pushA (h : Kn3 w0 ws lv av zv Ls As Zs) (hf : Fx (fun k => av.ownBlock = some k) ws w') (ho : OwnT 27 e3 3 w' w0.heap.size lv' As') (hb : ∀ g, lv'.ownBlock = some g → av.ownBlock = some g ∨ ws.heap.size ≤ g) : Kn3 w0 w' lv lv' zv Ls As' Zs :=
  ⟨h.fx.trans' hf fun j h1 h2 => by have := (OwnT.lt h.a h1).1; omega, OwnT.fx h.l hf fun g e1 e2 => h.la g e1 e2, ho, ownsRow_fx h.z hf fun g e1 e2 => h.az g e2 e1,
   fun g e1 e2 => (hb g e2).elim (fun q => h.la g e1 q) (fun q => by have := (OwnT.lt h.l e1).2; omega), h.lz, fun g e1 e2 => (hb g e1).elim (fun q => h.az g q e2) (fun q => by have := (World.ownsRow.lt h.z g e2).2; omega)⟩
theorem Kn3.pushZ (h : Kn3 w0 ws lv av zv Ls As Zs) (hf : Fx (fun k => zv.ownBlock = some k) ws w') (ho : w'.ownsRow w0.heap.size 3 1 lv' Zs'.length (ints Zs')) (hb : ∀ g, lv'.ownBlock = some g → zv.ownBlock = some g ∨ ws.heap.size ≤ g) : Kn3 w0 w' lv av lv' Ls As Zs' :=
  ⟨h.fx.trans' hf fun j h1 h2 => by have := (World.ownsRow.lt h.z j h1).1; omega, OwnT.fx h.l hf fun g e1 e2 => h.lz g e1 e2, OwnT.fx h.a hf fun g e1 e2 => h.az g e1 e2, ho,
   h.la, fun g e1 e2 => (hb g e2).elim (fun q => h.lz g e1 q) (fun q => by have := (OwnT.lt h.l e1).2; omega), fun g e1 e2 => (hb g e2).elim (fun q => h.az g e1 q) (fun q => by have := (OwnT.lt h.a e1).2; omega)⟩
end
theorem ok_small {x : Int} (h0 : 0 ≤ x) (h1 : x ≤ 1000000) : Ok64 x := by unfold Ok64; omega
theorem ed_small {a b c : Nat} (h1 : a ≤ 1000000) (h2 : b ≤ 1000000) (h3 : c ≤ 1000000) : (⟨(a : Int), (b : Int), (c : Int)⟩ : Ed).ok := ⟨ok_small (x := (a : Int)) (by omega) (by omega), ok_small (x := (b : Int)) (by omega) (by omega), ok_small (x := (c : Int)) (by omega) (by omega)⟩
theorem snoc_ok {xs : List Ed} {x : Ed} (h : ∀ y ∈ xs, y.ok) (hx : x.ok) : ∀ y ∈ xs ++ [x], y.ok := fun y hy => by
  rcases List.mem_append.1 hy with q | q
  · exact h y q
  · rw [List.mem_singleton] at q; rw [q]; exact hx
theorem info_pair' : ∃ i, Tryz.prog.info? 25 = some i ∧ i.zero = some (.agg #[.int .i64 0, .int .i64 0]) ∧ i.size = 2 ∧ i.bytes = 16 := info_parts (by kernel_rfl)
theorem info_intQ : ∃ i, Tryz.prog.info? 3 = some i ∧ i.zero = some (.int .i64 0) ∧ i.size = 1 ∧ i.bytes = 8 := info_parts (by kernel_rfl)
set_option maxRecDepth 100000 in
set_option maxHeartbeats 16000000 in
theorem known_of (CP : ∀ (w : World) (E : Nat → Prop) (l : List (Int × Int)) (v : Value) (size m : Int), PairsV w E v l → TabOk w → Calls Tryz.prog 4 #[.int .i64 size, v, .int .i64 m] w fun e w' => e = .returned (.bool true) ∧ Fx No w w')
    (CG : ∀ (w : World) (E : Nat → Prop) (l : List Ed) (v : Value) (n : Int), EdsV w E v l → (∀ x ∈ l, x.ok) → TabOk w → Calls Tryz.prog 5 #[.int .i64 n, v] w fun e w' => e = .returned (.bool true) ∧ Fx No w w')
    (CO : ∀ (w : World) (E E2 : Nat → Prop) (l : List Ed) (v u : Value) (zs : List Int) (n which : Int), EdsV w E v l → (∀ x ∈ l, x.ok) → IntsV w E2 u zs → TabOk w → Calls Tryz.prog 6 #[.int .i64 n, v, u, .int .i64 which] w fun e w' => e = .returned (.bool true) ∧ Fx No w w')
    {w : World} (hT : TabOk w) : Calls Tryz.prog 3 #[] w fun e w' => e = .returned (.bool true) ∧ Fx No w w' := by
  obtain ⟨iip, hip, hzp, hsp, hbp⟩ := info_pair'
  obtain ⟨iie, hie, hze, hse, hbe⟩ := info_edge'
  obtain ⟨iii, hii, hzi, hsi, hbi⟩ := info_intQ
  have HT := Lib.hid hT
  have HCP := Lib.hid CP
  have HCG := Lib.hid CG
  have HCO := Lib.hid CO
  clear hT CP CG CO
  go_enter Tryz.func3, Tryz.ntmps3
  go_wp2
  go_loopw [1, 2] (fun kk ii ws => ∃ κ i : Nat, kk = .int .i64 κ ∧ κ < 100003 ∧ ii = .int .i64 i ∧ i ≤ 40 ∧ Fx No w ws) (fun _ ii _ => 40 - (intOf ii).toNat)
  case atStart => exact ⟨1, 0, rfl, by omega, rfl, by omega, Fx.refl _ _⟩
  case round =>
    obtain ⟨κ, i, rfl, hκ, rfl, hi40, hf⟩ := hrel
    have HF := Lib.hid hf
    obtain ⟨wa, hwa⟩ : ∃ x, x = wr := ⟨_, rfl⟩
    subst hwa
    clear hf
    by_cases hil : i < 40
    · have di : decide ((i : Int) < 40) = true := decide_eq_true (by omega)
      have HI := Lib.hid hil
      clear hil
      obtain ⟨m14, hm14⟩ : ∃ q, q = i % 14 := ⟨_, rfl⟩
      have a1 : (i : Int).tmod 14 = (m14 : Int) := by rw [hm14]; rfl
      have a2 : (i : Int) % 14 = (m14 : Int) := by omega
      have hm13 : m14 ≤ 13 := by omega
      obtain ⟨i5, hi5⟩ : ∃ q, q = i % 5 := ⟨_, rfl⟩
      have b1 : (i : Int).tmod 5 = (i5 : Int) := by rw [hi5]; rfl
      have b2 : (i : Int) % 5 = (i5 : Int) := by omega
      have hi54 : i5 ≤ 4 := by omega
      obtain ⟨i2, hi2⟩ : ∃ q, q = i % 2 := ⟨_, rfl⟩
      have l1 : (i : Int).tmod 2 = (i2 : Int) := by rw [hi2]; rfl
      have l2 : (i : Int) % 2 = (i2 : Int) := by omega
      obtain ⟨i8, hi8⟩ : ∃ q, q = i % 8 := ⟨_, rfl⟩
      have m1 : (i : Int).tmod 8 = (i8 : Int) := by rw [hi8]; rfl
      have m2 : (i : Int) % 8 = (i8 : Int) := by omega
      have hi87 : i8 ≤ 7 := by omega
      clear hm14 hi5 hi2 hi8
      go_wp2
      go_loopw [1, 3, 4, 5, 6] (fun kk lv av zv nn ws => ∃ (κ n : Nat) (Ls : List (Int × Int)) (As : List Ed) (Zs : List Int), kk = .int .i64 κ ∧ κ < 100003 ∧ nn = .int .i64 n ∧ n ≤ m14 ∧ Kn3 wa ws lv av zv Ls As Zs ∧ Ls.length = n ∧ As.length = n ∧ Zs.length = n ∧ (∀ x ∈ As, x.ok)) (fun _ _ _ _ nn _ => m14 - (intOf nn).toNat)
      case atStart => exact ⟨κ, 0, _, _, _, rfl, hκ, rfl, Nat.zero_le _, Kn3.start wa, rfl, rfl, rfl, by simp⟩
      case round =>
        clear hκ
        obtain ⟨κ, n, Ls, As, Zs, rfl, hκ, rfl, hn, hK, hLl, hAl, hZl, hAk⟩ := hrel
        obtain ⟨wb, hwb⟩ : ∃ x, x = wr := ⟨_, rfl⟩
        subst hwb
        have HK := Lib.hid hK
        have HLl := Lib.hid hLl
        have HAl := Lib.hid hAl
        have HZl := Lib.hid hZl
        have HAk := Lib.hid hAk
        have hl16 : Ls.length ≤ 13 ∧ As.length ≤ 13 ∧ Zs.length ≤ 13 := by omega
        obtain ⟨hl1, hl2, hl3⟩ := hl16
        have hzb := hK.fx.size
        clear hK hLl hAl hZl hAk
        by_cases hnl : n < m14
        · have dn : decide ((n : Int) < (m14 : Int)) = true := decide_eq_true (by omega)
          have dn2 : decide (n < m14) = true := decide_eq_true hnl
          obtain ⟨x1, hx1⟩ : ∃ q, q = κ % (3 + i5) := ⟨_, rfl⟩
          have c1 : (κ : Int).tmod (3 + (i5 : Int)) = (x1 : Int) := by rw [show (3 : Int) + (i5 : Int) = ((3 + i5 : Nat) : Int) by omega, hx1]; rfl
          have c2 : (κ : Int) % (3 + (i5 : Int)) = (x1 : Int) := by rw [show (3 : Int) + (i5 : Int) = ((3 + i5 : Nat) : Int) by omega, hx1]; rfl
          have hx1l : x1 ≤ 9 := by have := Nat.mod_lt κ (show 0 < 3 + i5 by omega); omega
          obtain ⟨d11, hd11⟩ : ∃ q, q = κ / 11 := ⟨_, rfl⟩
          have e1 : (κ : Int).tdiv 11 = (d11 : Int) := by rw [hd11]; rfl
          have e2' : (κ : Int) / 11 = (d11 : Int) := by omega
          obtain ⟨x2, hx2⟩ : ∃ q, q = d11 % (3 + i5) := ⟨_, rfl⟩
          have f1 : (d11 : Int).tmod (3 + (i5 : Int)) = (x2 : Int) := by rw [show (3 : Int) + (i5 : Int) = ((3 + i5 : Nat) : Int) by omega, hx2]; rfl
          have f2 : (d11 : Int) % (3 + (i5 : Int)) = (x2 : Int) := by rw [show (3 : Int) + (i5 : Int) = ((3 + i5 : Nat) : Int) by omega, hx2]; rfl
          have hx2l : x2 ≤ 9 := by have := Nat.mod_lt d11 (show 0 < 3 + i5 by omega); omega
          obtain ⟨k2, hk2⟩ : ∃ q, q = κ % 2 := ⟨_, rfl⟩
          have h1 : (κ : Int).tmod 2 = (k2 : Int) := by rw [hk2]; rfl
          have h2 : (κ : Int) % 2 = (k2 : Int) := by omega
          have hk2l : k2 ≤ 1 := by omega
          obtain ⟨κ', hκ'⟩ : ∃ q, q = (κ * 31 + 7 * n + 11) % 100003 := ⟨_, rfl⟩
          have k1 : ((κ : Int) * 31 + 7 * (n : Int) + 11).tmod 100003 = (κ' : Int) := by rw [hκ']; rfl
          have k2' : ((κ : Int) * 31 + 7 * (n : Int) + 11) % 100003 = (κ' : Int) := by omega
          have hκl : κ' < 100003 := by omega
          have hnz : ¬ ((3 : Int) + (i5 : Int) = 0) := by omega
          have hnz2 : ((3 : Int) + (i5 : Int) == 0) = false := by simpa using hnz
          have hd11l : d11 ≤ 100003 := by omega
          have HKap := Lib.hid hκ
          have HNl := Lib.hid hnl
          clear hx1 hd11 hx2 hk2 hκ' hnl
          go_wp2_with fail
          go_quiet (fail)
          all_goals
            have HKd : Hid (∀ q, Kn3 wa (wb.drewN q) u3 u4 u5 Ls As Zs) := Lib.hid fun q => HK.out.no ((Fx.refl No wb).drewN q)
            clear c1 c2 e1 e2' f1 f2
            by_cases hev : i2 = 0
            · have dq : ((i2 : Int) == 0) = true := by simp [hev]
              by_cases hgt : x2 < x1
              · have dg : decide ((x2 : Int) < (x1 : Int)) = true := decide_eq_true (by omega)
                have dg2 : decide (x2 < x1) = true := decide_eq_true hgt
                clear hev hgt
                go_wp2_with (at_builtin; refine wpList_append_kept rfl _ _ 22 rfl wa.heap.size 25 Tryz.underlying22 hip hzp hsp hbp rfl (by decide) rfl (World.ownsRow.alloc ((HKd.out _).l) _) rfl (lit_atQ 25 #[.int .i64 (x2 : Nat), .int .i64 (x1 : Nat)] 2 1 (by simp) rfl (by unfold maxLen; omega)) (ints_one [_, _]) (by omega) (by unfold maxLen; omega) (by omega) (by have h9 := (HKd.out 0).fx.size; simp at h9 ⊢; omega) ?_)
                intro lv' w1 ho hf _ hb
                have HK1 : Hid (Kn3 wa w1 lv' u4 u5 (Ls ++ [((x2 : Int), (x1 : Int))]) As Zs) := Lib.hid (((HKd.out _).no ((Fx.refl No _).alloc _)).pushL hf (OwnT.snoc ho) (fun g e => (hb g e).imp_right fun h => by simpa using h))
                clear ho hf hb
                go_wp2_with (at_builtin; refine wpList_append_kept rfl _ _ 23 rfl wa.heap.size 27 Tryz.underlying23 hie hze hse hbe rfl (by decide) rfl (World.ownsRow.alloc (HK1.out.a) _) rfl (lit_atQ 27 #[.int .i64 (x2 : Nat), .int .i64 (x1 : Nat), .int .i64 (k2 : Nat)] 3 1 (by simp) rfl (by unfold maxLen; omega)) (ints_one [_, _, _]) (by omega) (by unfold maxLen; omega) (by omega) (by have h9 := HK1.out.fx.size; simp at h9 ⊢; omega) ?_)
                intro av' w2 ho hf _ hb
                have HK2 : Hid (Kn3 wa w2 lv' av' u5 (Ls ++ [((x2 : Int), (x1 : Int))]) (As ++ [⟨(x2 : Int), (x1 : Int), (k2 : Int)⟩]) Zs) := Lib.hid ((HK1.out.no ((Fx.refl No _).alloc _)).pushA hf (OwnT.snoc ho) (fun g e => (hb g e).imp_right fun h => by simpa using h))
                clear ho hf hb
                go_wp2_with (at_builtin; refine wpList_append_kept rfl _ _ 24 rfl wa.heap.size 3 Tryz.underlying24 hii hzi hsi hbi rfl (by decide) rfl (World.ownsRow.alloc (HK2.out.z) _) rfl (lit_atQ 3 #[.int .i64 (κ : Nat)] 1 1 (by simp) rfl (by unfold maxLen; omega)) (ints_one [_]) (by omega) (by unfold maxLen; omega) (by omega) (by have h9 := HK2.out.fx.size; simp at h9 ⊢; omega) ?_)
                intro zv' w3 ho hf _ hb
                have HK3 : Hid (Kn3 wa w3 lv' av' zv' (Ls ++ [((x2 : Int), (x1 : Int))]) (As ++ [⟨(x2 : Int), (x1 : Int), (k2 : Int)⟩]) (Zs ++ [(κ : Int)])) := Lib.hid ((HK2.out.no ((Fx.refl No _).alloc _)).pushZ hf (by rw [List.length_append, ints_append]; exact ho) (fun g e => (hb g e).imp_right fun h => by simpa using h))
                have HXo := Lib.hid (ed_small (a := x2) (b := x1) (c := k2) (by omega) (by omega) (by omega))
                clear ho hf hb
                go_wp2
                go_roundw
                case rel => exact ⟨κ', n + 1, _, _, _, by first | rfl | go_num, hκl, by go_num, by have := HNl.out; omega, HK3.out, by have := HLl.out; simp; omega, by have := HAl.out; simp; omega, by have := HZl.out; simp; omega, snoc_ok HAk.out HXo.out⟩
                case measure => have := HNl.out; simp [intOf]; omega
              · have dg : decide ((x2 : Int) < (x1 : Int)) = false := decide_eq_false (by omega)
                have dg2 : decide (x2 < x1) = false := decide_eq_false hgt
                clear hev hgt
                go_wp2_with (at_builtin; refine wpList_append_kept rfl _ _ 22 rfl wa.heap.size 25 Tryz.underlying22 hip hzp hsp hbp rfl (by decide) rfl (World.ownsRow.alloc ((HKd.out _).l) _) rfl (lit_atQ 25 #[.int .i64 (x1 : Nat), .int .i64 (x2 : Nat)] 2 1 (by simp) rfl (by unfold maxLen; omega)) (ints_one [_, _]) (by omega) (by unfold maxLen; omega) (by omega) (by have h9 := (HKd.out 0).fx.size; simp at h9 ⊢; omega) ?_)
                intro lv' w1 ho hf _ hb
                have HK1 : Hid (Kn3 wa w1 lv' u4 u5 (Ls ++ [((x1 : Int), (x2 : Int))]) As Zs) := Lib.hid (((HKd.out _).no ((Fx.refl No _).alloc _)).pushL hf (OwnT.snoc ho) (fun g e => (hb g e).imp_right fun h => by simpa using h))
                clear ho hf hb
                go_wp2_with (at_builtin; refine wpList_append_kept rfl _ _ 23 rfl wa.heap.size 27 Tryz.underlying23 hie hze hse hbe rfl (by decide) rfl (World.ownsRow.alloc (HK1.out.a) _) rfl (lit_atQ 27 #[.int .i64 (x1 : Nat), .int .i64 (x2 : Nat), .int .i64 (k2 : Nat)] 3 1 (by simp) rfl (by unfold maxLen; omega)) (ints_one [_, _, _]) (by omega) (by unfold maxLen; omega) (by omega) (by have h9 := HK1.out.fx.size; simp at h9 ⊢; omega) ?_)
                intro av' w2 ho hf _ hb
                have HK2 : Hid (Kn3 wa w2 lv' av' u5 (Ls ++ [((x1 : Int), (x2 : Int))]) (As ++ [⟨(x1 : Int), (x2 : Int), (k2 : Int)⟩]) Zs) := Lib.hid ((HK1.out.no ((Fx.refl No _).alloc _)).pushA hf (OwnT.snoc ho) (fun g e => (hb g e).imp_right fun h => by simpa using h))
                clear ho hf hb
                go_wp2_with (at_builtin; refine wpList_append_kept rfl _ _ 24 rfl wa.heap.size 3 Tryz.underlying24 hii hzi hsi hbi rfl (by decide) rfl (World.ownsRow.alloc (HK2.out.z) _) rfl (lit_atQ 3 #[.int .i64 (κ : Nat)] 1 1 (by simp) rfl (by unfold maxLen; omega)) (ints_one [_]) (by omega) (by unfold maxLen; omega) (by omega) (by have h9 := HK2.out.fx.size; simp at h9 ⊢; omega) ?_)
                intro zv' w3 ho hf _ hb
                have HK3 : Hid (Kn3 wa w3 lv' av' zv' (Ls ++ [((x1 : Int), (x2 : Int))]) (As ++ [⟨(x1 : Int), (x2 : Int), (k2 : Int)⟩]) (Zs ++ [(κ : Int)])) := Lib.hid ((HK2.out.no ((Fx.refl No _).alloc _)).pushZ hf (by rw [List.length_append, ints_append]; exact ho) (fun g e => (hb g e).imp_right fun h => by simpa using h))
                have HXo := Lib.hid (ed_small (a := x1) (b := x2) (c := k2) (by omega) (by omega) (by omega))
                clear ho hf hb
                go_wp2
                go_roundw
                case rel => exact ⟨κ', n + 1, _, _, _, by first | rfl | go_num, hκl, by go_num, by have := HNl.out; omega, HK3.out, by have := HLl.out; simp; omega, by have := HAl.out; simp; omega, by have := HZl.out; simp; omega, snoc_ok HAk.out HXo.out⟩
                case measure => have := HNl.out; simp [intOf]; omega
            · have dq : ((i2 : Int) == 0) = false := by rw [beq_eq_false_iff_ne]; omega
              have dq2 : ¬ (i2 : Int) = 0 := by omega
              go_wp2_with (at_builtin; refine wpList_append_kept rfl _ _ 22 rfl wa.heap.size 25 Tryz.underlying22 hip hzp hsp hbp rfl (by decide) rfl (World.ownsRow.alloc ((HKd.out _).l) _) rfl (lit_atQ 25 #[.int .i64 (x1 : Nat), .int .i64 (x2 : Nat)] 2 1 (by simp) rfl (by unfold maxLen; omega)) (ints_one [_, _]) (by omega) (by unfold maxLen; omega) (by omega) (by have h9 := (HKd.out 0).fx.size; simp at h9 ⊢; omega) ?_)
              intro lv' w1 ho hf _ hb
              have HK1 : Hid (Kn3 wa w1 lv' u4 u5 (Ls ++ [((x1 : Int), (x2 : Int))]) As Zs) := Lib.hid (((HKd.out _).no ((Fx.refl No _).alloc _)).pushL hf (OwnT.snoc ho) (fun g e => (hb g e).imp_right fun h => by simpa using h))
              clear ho hf hb
              go_wp2_with (at_builtin; refine wpList_append_kept rfl _ _ 23 rfl wa.heap.size 27 Tryz.underlying23 hie hze hse hbe rfl (by decide) rfl (World.ownsRow.alloc (HK1.out.a) _) rfl (lit_atQ 27 #[.int .i64 (x1 : Nat), .int .i64 (x2 : Nat), .int .i64 (k2 : Nat)] 3 1 (by simp) rfl (by unfold maxLen; omega)) (ints_one [_, _, _]) (by omega) (by unfold maxLen; omega) (by omega) (by have h9 := HK1.out.fx.size; simp at h9 ⊢; omega) ?_)
              intro av' w2 ho hf _ hb
              have HK2 : Hid (Kn3 wa w2 lv' av' u5 (Ls ++ [((x1 : Int), (x2 : Int))]) (As ++ [⟨(x1 : Int), (x2 : Int), (k2 : Int)⟩]) Zs) := Lib.hid ((HK1.out.no ((Fx.refl No _).alloc _)).pushA hf (OwnT.snoc ho) (fun g e => (hb g e).imp_right fun h => by simpa using h))
              clear ho hf hb
              go_wp2_with (at_builtin; refine wpList_append_kept rfl _ _ 24 rfl wa.heap.size 3 Tryz.underlying24 hii hzi hsi hbi rfl (by decide) rfl (World.ownsRow.alloc (HK2.out.z) _) rfl (lit_atQ 3 #[.int .i64 (κ : Nat)] 1 1 (by simp) rfl (by unfold maxLen; omega)) (ints_one [_]) (by omega) (by unfold maxLen; omega) (by omega) (by have h9 := HK2.out.fx.size; simp at h9 ⊢; omega) ?_)
              intro zv' w3 ho hf _ hb
              have HK3 : Hid (Kn3 wa w3 lv' av' zv' (Ls ++ [((x1 : Int), (x2 : Int))]) (As ++ [⟨(x1 : Int), (x2 : Int), (k2 : Int)⟩]) (Zs ++ [(κ : Int)])) := Lib.hid ((HK2.out.no ((Fx.refl No _).alloc _)).pushZ hf (by rw [List.length_append, ints_append]; exact ho) (fun g e => (hb g e).imp_right fun h => by simpa using h))
              have HXo := Lib.hid (ed_small (a := x1) (b := x2) (c := k2) (by omega) (by omega) (by omega))
              clear ho hf hb
              go_wp2
              go_roundw
              case rel => exact ⟨κ', n + 1, _, _, _, by first | rfl | go_num, hκl, by go_num, by have := HNl.out; omega, HK3.out, by have := HLl.out; simp; omega, by have := HAl.out; simp; omega, by have := HZl.out; simp; omega, snoc_ok HAk.out HXo.out⟩
              case measure => have := HNl.out; simp [intOf]; omega
        · obtain rfl : n = m14 := by omega
          have dn : decide ((n : Int) < (n : Int)) = false := decide_eq_false (by omega)
          have dn2 : decide (n < n) = false := decide_eq_false (by omega)
          have HKap := Lib.hid hκ
          clear hnl
          obtain ⟨lo, lc, rfl, _⟩ := PairsV.facts (OwnT.row HK.out.l)
          obtain ⟨ao, ac, rfl, _⟩ := EdsV.facts (OwnT.row HK.out.a)
          obtain ⟨zo, zc, rfl, _⟩ := IntsV.facts (RowI.ofOwn HK.out.z).toInts
          have HTa := Lib.hid (HT.out.keep HF.out (fun h => h))
          have HTb : Hid (∀ W, Fx No wa W → TabOk W) := Lib.hid fun W h => HTa.out.keep h (fun h => h)
          go_wp2_with fail
          refine (HCP.out _ _ _ _ _ _ (OwnT.row HK.out.l) (HTb.out _ HK.out.fx)).mono ?_
          rintro e v1 ⟨rfl, hf⟩
          have HK1 := Lib.hid (HK.out.no hf)
          clear hf
          go_wp2_with fail
          refine (HCP.out _ _ _ _ _ _ (OwnT.row HK1.out.l) (HTb.out _ HK1.out.fx)).mono ?_
          rintro e v2 ⟨rfl, hf⟩
          have HK2 := Lib.hid (HK1.out.no hf)
          clear hf
          go_wp2_with fail
          refine (HCG.out _ _ _ _ _ (OwnT.row HK2.out.a) HAk.out (HTb.out _ HK2.out.fx)).mono ?_
          rintro e v3 ⟨rfl, hf⟩
          have HK3 := Lib.hid (HK2.out.no hf)
          clear hf
          go_wp2_with fail
          refine (HCO.out _ _ _ _ _ _ _ _ _ (OwnT.row HK3.out.a) HAk.out (RowI.ofOwn HK3.out.z).toInts (HTb.out _ HK3.out.fx)).mono ?_
          rintro e v4 ⟨rfl, hf⟩
          have HK4 := Lib.hid (HK3.out.no hf)
          clear hf
          go_wp2_with fail
          refine (none_any _ _ (HTb.out _ HK4.out.fx)).mono ?_
          rintro e v5 ⟨rfl, hf⟩
          have HF5 := Lib.hid (HF.out.trans (HK4.out.fx.trans hf))
          clear hf
          go_wp2
          go_roundw
          case rel => exact ⟨κ, i + 1, rfl, HKap.out, by go_num, by have := HI.out; omega, HF5.out⟩
          case measure => have := HI.out; simp [intOf]; omega
    · have di : decide ((i : Int) < 40) = false := decide_eq_false (by omega)
      clear hκ hil hi40
      have HTb : Hid (∀ W, Fx No w W → TabOk W) := Lib.hid fun W h => HT.out.keep h (fun h => h)
      have HX1 : Hid (∀ W : World, PairsV (W.alloc (.cells #[.int .i64 0, .int .i64 0] 25)) (Iv W.heap.size (W.heap.size + 1)) (.slice (some ⟨W.heap.size, 0, none⟩) 1 1) [((0 : Int), (0 : Int))]) := Lib.hid fun W => RowV.lit (enc := e2) e2_len W 25 [((0 : Int), (0 : Int))] (by simp)
      have HX3 : Hid (∀ W : World, PairsV (W.alloc (.cells #[.int .i64 0, .int .i64 0, .int .i64 0, .int .i64 1, .int .i64 (-1), .int .i64 0] 25)) (Iv W.heap.size (W.heap.size + 1)) (.slice (some ⟨W.heap.size, 0, none⟩) 3 3) [((0 : Int), (0 : Int)), (0, 1), (-1, 0)]) := Lib.hid fun W => RowV.lit (enc := e2) e2_len W 25 [((0 : Int), (0 : Int)), (0, 1), (-1, 0)] (by simp)
      go_wp2_with fail
      refine (HCP.out _ _ _ _ _ _ (HX1.out _) (HTb.out _ (HF.out.alloc _))).mono ?_
      rintro e v1 ⟨rfl, hf⟩
      have HF1 := Lib.hid ((HF.out.alloc _).trans hf)
      clear hf
      go_wp2_with fail
      refine (HCP.out _ No _ _ _ _ (RowV.nil _ _) (HTb.out _ HF1.out)).mono ?_
      rintro e v2 ⟨rfl, hf⟩
      have HF2 := Lib.hid (HF1.out.trans hf)
      clear hf
      go_wp2_with fail
      refine (HCP.out _ No _ _ _ _ (RowV.nil _ _) (HTb.out _ HF2.out)).mono ?_
      rintro e v3 ⟨rfl, hf⟩
      have HF3 := Lib.hid (HF2.out.trans hf)
      clear hf
      go_wp2_with fail
      refine (HCP.out _ _ _ _ _ _ (HX3.out _) (HTb.out _ (HF3.out.alloc _))).mono ?_
      rintro e v4 ⟨rfl, hf⟩
      have HF4 := Lib.hid ((HF3.out.alloc _).trans hf)
      clear hf
      go_wp2_with fail
      refine (works_any (HTb.out _ HF4.out)).mono ?_
      rintro e v5 ⟨rfl, hf⟩
      have HF5 := Lib.hid (HF4.out.trans hf)
      clear hf
      go_wp2
      go_ret
      exact ⟨rfl, HF5.out⟩
#print axioms known_of
end Go.Proofs.YtfpggeiphbekoaaGreatDoor
