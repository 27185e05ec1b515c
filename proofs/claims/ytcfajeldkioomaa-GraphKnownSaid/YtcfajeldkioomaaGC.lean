/- graph: slices.Insert of one edge into an owned row. -/
import Derived.Test.YtcfajeldkioomaaGB
import Derived.Test.YtcfajeldkioomaaCopy
import Derived.Laws.Externs
namespace Go.Proofs.Ytcfajeldkioomaa
open Go.RowKit
set_option linter.unusedVariables false

abbrev OwnE (w : World) (v : Value) (xs : List Ed) : Prop := OwnT 25 e3 3 w 0 v xs
/-- a block of one edge -/
def EdB (w : World) (b : Nat) (x : Ed) : Prop := w.heap[b]? = some (.cells #[.int .i64 x.f, .int .i64 x.t, .int .i64 x.l] 25 (0, 0))
theorem EdB.fx {w w' : World} {S : Nat → Prop} {b : Nat} {x : Ed} (h : EdB w b x) (hf : Fx S w w') (hb : ¬ S b) : EdB w' b x := hf.at_ h hb
theorem EdB.sl {w : World} {b : Nat} {x : Ed} (h : EdB w b x) : SlV w (fun j => j = b) (.slice (some ⟨b, 0, none⟩) 1 1) 3 1 (ints (e3 x)) := by
  refine ⟨_, 1, rfl, Nat.le_refl _, by unfold maxLen; omega, rfl, by simp, .inr ⟨b, 0, rfl, rfl, fun i hi => ?_⟩⟩
  have hi' : i < 3 := by simpa [ints, e3] using hi
  rw [cell_of_row _ _ _ _ _ _ h]
  match i, hi' with
  | 0, _ => rfl
  | 1, _ => rfl
  | 2, _ => rfl
theorem info_edge' : ∃ i, Try.prog.info? 25 = some i ∧ i.zero = some (.agg #[.int .i64 0, .int .i64 0, .int .i64 0]) ∧ i.size = 3 ∧ i.bytes = 24 := info_parts info_edge
section
variable {w : World} {v : Value} {xs : List Ed} {x : Ed} {vb : Nat}
set_option maxRecDepth 100000 in
set_option maxHeartbeats 1000000 in
/-- at the end -/
theorem insert_end (h : OwnE w v xs) (hl : xs.length ≤ 1000000) (hx : EdB w vb x) :
    Calls Try.prog 63 #[v, .int .i64 (xs.length : Nat), .slice (some ⟨vb, 0, none⟩) 1 1] w fun e w' =>
      ∃ v', e = .returned v' ∧ OwnE w' v' (xs ++ [x]) ∧ Fx (fun b => v.ownBlock = some b) w w' ∧ ∀ g, v'.ownBlock = some g → v.ownBlock = some g ∨ w.heap.size ≤ g := by
  obtain ⟨ii, hi, hz, hs, hb⟩ := info_edge'
  have HO := Lib.hid h
  have HXx := Lib.hid hx
  obtain ⟨ao, cap, rfl, hcl, hcm, _⟩ := EdsV.facts h.row
  clear h hx
  go_enter Try.func63, Try.ntmps63
  go_wp2_with (at_builtin; refine wpList_append_kept rfl _ _ 22 rfl 0 25 Try.underlying22 hi hz hs hb rfl (by decide) rfl HO.out rfl HXx.out.sl (ints_one _) (by omega) (by unfold maxLen; omega) (by omega) (Nat.zero_le _) ?_)
  all_goals
    intro v' w1 ho hfx _ hb2
    have HO2 := Lib.hid (OwnT.snoc ho)
    have HF : Hid (Fx (fun b => (Value.slice ao xs.length cap).ownBlock = some b) w w1) := Lib.hid (by cases ao <;> exact hfx)
    have HB : Hid (∀ g, v'.ownBlock = some g → (Value.slice ao xs.length cap).ownBlock = some g ∨ w.heap.size ≤ g) := Lib.hid (by cases ao <;> exact hb2)
    clear ho hfx hb2
    go_wp2
    go_ret
    exact ⟨_, rfl, HO2.out, HF.out, HB.out⟩
theorem splice_ins {α : Type} (cur : List α) (news : List α) (i n : Nat) (hi : i ≤ n) (hn : news.length = 3) (hc : (n + 1) * 3 ≤ cur.length) :
    (splice (splice cur ((i + 1) * 3) ((cur.take (n * 3)).drop (i * 3))) (i * 3) news).take ((n + 1) * 3) = (cur.take (n * 3)).take (i * 3) ++ news ++ (cur.take (n * 3)).drop (i * 3) := by
  have h1 : ((cur.take (n * 3)).drop (i * 3)).length = (n - i) * 3 := by
    rw [List.length_drop, List.length_take, Nat.sub_mul]; omega
  obtain ⟨R, hR⟩ : ∃ R, R = (cur.take (n * 3)).drop (i * 3) := ⟨_, rfl⟩
  rw [← hR] at h1 ⊢
  have e1 : (cur.take (n * 3)).take (i * 3) = cur.take (i * 3) := by
    rw [List.take_take]; congr 1; omega
  have hA : (cur.take ((i + 1) * 3)).length = (i + 1) * 3 := by rw [List.length_take]; omega
  have hB : (cur.take (i * 3)).length = i * 3 := by rw [List.length_take]; omega
  rw [e1]
  unfold splice
  have e2 : (cur.take ((i + 1) * 3) ++ (R ++ cur.drop ((i + 1) * 3 + R.length))).take (i * 3) = cur.take (i * 3) := by
    rw [List.take_append_of_le_length (by omega), List.take_take]; congr 1; omega
  have e3 : (cur.take ((i + 1) * 3) ++ (R ++ cur.drop ((i + 1) * 3 + R.length))).drop (i * 3 + news.length) = R ++ cur.drop ((i + 1) * 3 + R.length) := by
    rw [List.drop_append, List.drop_eq_nil_of_le (by omega), List.nil_append, show i * 3 + news.length - (cur.take ((i + 1) * 3)).length = 0 by omega, List.drop_zero]
  rw [e2, e3]
  have hL : (cur.take (i * 3) ++ (news ++ R)).length = (n + 1) * 3 := by simp only [List.length_append]; omega
  rw [show cur.take (i * 3) ++ (news ++ (R ++ cur.drop ((i + 1) * 3 + R.length))) = (cur.take (i * 3) ++ (news ++ R)) ++ cur.drop ((i + 1) * 3 + R.length) by simp, List.take_append_of_le_length (by omega), List.take_of_length_le (by omega)]
  simp
theorem icells_take (xs : List Ed) (i : Nat) : (icells e3 xs).take (i * 3) = icells e3 (xs.take i) := by
  have h : icells e3 xs = icells e3 (xs.take i) ++ icells e3 (xs.drop i) := by rw [← icells_append, List.take_append_drop]
  by_cases hi : i ≤ xs.length
  · have hl : (icells e3 (xs.take i)).length = i * 3 := by rw [icells_length e3_len, List.length_take]; congr 1; omega
    rw [h, List.take_append_of_le_length (by omega), List.take_of_length_le (by omega)]
  · rw [List.take_of_length_le (by rw [icells_length e3_len]; omega), List.take_of_length_le (by omega)]
theorem icells_drop (xs : List Ed) (i : Nat) : (icells e3 xs).drop (i * 3) = icells e3 (xs.drop i) := by
  have h : icells e3 xs = icells e3 (xs.take i) ++ icells e3 (xs.drop i) := by rw [← icells_append, List.take_append_drop]
  by_cases hi : i ≤ xs.length
  · have hl : (icells e3 (xs.take i)).length = i * 3 := by rw [icells_length e3_len, List.length_take]; congr 1; omega
    rw [h, List.drop_append, List.drop_eq_nil_of_le (by omega), List.nil_append, hl, Nat.sub_self, List.drop_zero]
  · rw [List.drop_eq_nil_of_le (by rw [icells_length e3_len]; omega), List.drop_eq_nil_of_le (by omega)]; rfl
theorem size_edge : (Try.prog.info? 25).map (·.size) = some 3 := by
  obtain ⟨ii, hi, hz, hs, hb⟩ := info_edge'
  rw [hi]; simp [hs]
set_option maxRecDepth 100000 in
set_option maxHeartbeats 1000000 in
/-- where there is room -/
theorem insert_room {g cap : Nat} {cur : List Value} (hg : w.heap[g]? = some (.cells cur.toArray 25 (0, 0))) (hcs : cur.length = cap * 3) (hcur : cur.take (xs.length * 3) = icells e3 xs) (hl : xs.length ≤ 1000000) (hcm : cap ≤ maxLen)
    {i : Nat} (hi : i < xs.length) (hroom : xs.length + 1 ≤ cap) (hx : EdB w vb x) (hvg : vb ≠ g) :
    Calls Try.prog 63 #[.slice (some ⟨g, 0, none⟩) xs.length cap, .int .i64 (i : Nat), .slice (some ⟨vb, 0, none⟩) 1 1] w fun e w' =>
      ∃ v', e = .returned v' ∧ OwnE w' v' (xs.take i ++ x :: xs.drop i) ∧ Fx (fun b => b = g) w w' ∧ ∀ b, v'.ownBlock = some b → b = g ∨ w.heap.size ≤ b := by
  have HG := Lib.hid hg
  have HXx := Lib.hid hx
  have HCur := Lib.hid hcur
  have hcm' : cap ≤ 9223372036854775807 := by unfold maxLen at hcm; exact hcm
  obtain ⟨n, hn⟩ : ∃ n, n = xs.length := ⟨_, rfl⟩
  rw [← hn] at hi hroom hl HCur ⊢
  have HN := Lib.hid hn
  have hcl3 : (n + 1) * 3 ≤ cur.length := by rw [hcs]; exact Nat.mul_le_mul_right _ hroom
  have hdn : Hid (((icells e3 xs).drop (i * 3)).length = (n - i) * 3) := Lib.hid (by rw [List.length_drop, icells_length e3_len, ← hn, Nat.sub_mul])
  have hsrc1 : Hid (∀ j v, ((icells e3 xs).drop (i * 3))[j]? = some v → w.cell? ((⟨g, i * 3, none⟩ : Addr).add j) = some v) := Lib.hid fun j v hj => by
    rw [Addr.add_lit, cell_row HG.out]
    rw [List.getElem?_drop, ← HCur.out, List.getElem?_take] at hj
    split at hj
    · exact hj
    · cases hj
  have hfit1 : Hid ((i + 1) * 3 + ((icells e3 xs).drop (i * 3)).length ≤ cur.length) := Lib.hid (by rw [hdn.out]; omega)
  have hone1 : Hid (One ((icells e3 xs).drop (i * 3))) := Lib.hid fun u hu => icells_one xs u (List.mem_of_mem_drop hu)
  have hsrc2 : Hid (∀ w2, Fx (fun j => j = g) w w2 → ∀ j v, (ints (e3 x))[j]? = some v → w2.cell? ((⟨vb, 0, none⟩ : Addr).add j) = some v) := Lib.hid fun w2 hf j v hj => by
    have h1 : EdB w2 vb x := HXx.out.fx hf hvg
    rw [Addr.add_lit, cell_of_row _ _ _ _ _ _ h1]
    simpa [ints, e3] using hj
  have hfit2 : Hid (i * 3 + (ints (e3 x)).length ≤ (splice cur ((i + 1) * 3) ((icells e3 xs).drop (i * 3))).length) := Lib.hid (by rw [length_splice _ _ _ hfit1.out]; simp [ints, e3]; omega)
  have hov : ∀ lb cb, (callFunc 67 #[.slice (some ⟨vb, 0, none⟩) 1 1, .slice (some ⟨g, (i + 1) * 3, none⟩) lb cb]).run Try.prog w = .ok (.value (.bool false)) w := fun lb cb => by
    rw [run_callFunc_extern Try.func67 (by kernel_rfl) (by kernel_rfl) (by kernel_rfl) (e := Extern.SlicesOverlaps.overlaps #[22, 22] #[4]) (by kernel_rfl),
      Lib.run_overlaps_apart w 22 4 25 Try.underlying22 3 (fun w => by obtain ⟨ii, hi, _, hs, _⟩ := info_edge'; simp [sizeOf, typeInfo, hi, hs]) ⟨vb, 0, none⟩ ⟨g, (i + 1) * 3, none⟩ 1 1 lb cb hvg 25 25 3 cur.length (by unfold EdB at hx; simp [World.shape?, hx]) (by simp [World.shape?, hg]) (by omega) (by unfold EdB at hx; simp [World.frozen?, hx]) (by unfold EdB at hx; simp [World.frozen?, hx])]
    rfl
  have hw1 : IntKind.i64.wrap ((i : Int) + 1) = (i : Int) + 1 := by rw [IntKind.wrap_i64]; omega
  have hb1 : (0 : Int) ≤ (i : Int) + 1 := by omega
  have htn : ((i : Int) + 1).toNat = i + 1 := by omega
  have hb0 : (i : Int) ≤ (n : Int) + 1 := by omega
  have b1 : ¬ (cap = i) := by omega
  have b2 : ¬ (cap = i + 1) := by omega
  have b3 : i ≤ n := by omega
  have b4 : (i : Int) + 1 ≤ (n : Int) + 1 := by omega
  have b5 : ¬ ((i : Int) = (n : Int)) := by omega
  have d1 : decide ((cap : Int) < (n : Int) + 1) = false := decide_eq_false (by omega)
  clear hx hg hcur hn
  go_enter Try.func63, Try.ntmps63
  go_wp2_with (simp only [hov])
  go_region_law (refine step_copy_row rfl (.tmp 73) (.tmp 76) 22 22 rfl 25 3 (n - i) Try.underlying22 size_edge g ((i + 1) * 3) (n + 1 - (i + 1)) (cap - (i + 1)) ⟨g, i * 3, none⟩ (n + 1 - i) (cap - i) (by simp [Act.eval, Act.put]) (by simp [Act.eval, Act.put]) cur 25 HG.out ((icells e3 xs).drop (i * 3)) (by simp [Nat.min_def]; omega) hdn.out hsrc1.out hfit1.out hone1.out ?_; intro w2 HG2 HF2)
  go_wp2_with (with_reducible refine wpList_copy_row rfl (.tmp 80) (.tmp 81) 22 22 rfl 25 3 1 Try.underlying22 size_edge g (i * 3) _ _ ⟨vb, 0, none⟩ 1 1 rfl rfl _ 25 HG2.out (ints (e3 x)) (by show 1 = min 1 (n + 1 - i); omega) rfl (hsrc2.out _ ((Fx.refl (fun j => j = g) w).drew.trans HF2.out)) hfit2.out (ints_one _) ?_)
  intro w3 HG3 HF3
  have HF : Hid (Fx (fun j => j = g) w w3) := Lib.hid (((Fx.refl (fun j => j = g) w).drew.trans HF2.out).trans HF3.out)
  have HO : Hid (OwnE w3 (.slice (some ⟨g, 0, none⟩) (n + 1) cap) (xs.take i ++ x :: xs.drop i)) := Lib.hid (by
    have hle : (xs.take i ++ x :: xs.drop i).length = n + 1 := by simp only [List.length_append, List.length_take, List.length_cons, List.length_drop, ← HN.out]; omega
    unfold OwnE OwnT
    rw [hle]
    refine ownsRow_shut (by rw [icells_length e3_len, hle]) (Nat.zero_le _) HG3.out hroom hcm (by rw [length_splice _ _ _ hfit2.out, length_splice _ _ _ hfit1.out, hcs]) ?_
    have h1 := splice_ins cur (ints (e3 x)) i n b3 rfl hcl3
    rw [HCur.out] at h1
    rw [h1, icells_take, icells_drop, icells_append, icells_cons, List.append_assoc])
  clear HG2 HG3 HF2 HF3 hov
  go_wp2
  go_ret
  exact ⟨_, rfl, HO.out, HF.out, fun b hb => .inl (by simpa [Value.ownBlock] using hb.symm)⟩
theorem grow_row {g : Nat} {cur : List Value} (hg : w.heap[g]? = some (.cells cur.toArray 25 (0, 0))) (hcur : cur.take (xs.length * 3) = icells e3 xs) (hl : xs.length ≤ 1000000) {i : Nat} (hi : i < xs.length) :
    ∃ (row : List Value) (G : Nat), xs.length + 1 ≤ G ∧ G ≤ maxLen ∧ row.length = G * 3 ∧ row.take (i * 3) = (icells e3 xs).take (i * 3) ∧
      ∀ ty, (Builtin.append_ #[22, 3] ty #[.slice (some ⟨g, 0, none⟩) i xs.length, .int .i64 ((xs.length : Int) + 1 - (i : Int))]).run Try.prog w =
        .ok (.slice (some ⟨w.heap.size, 0, none⟩) (xs.length + 1) G) (w.drew.alloc (.cells row.toArray 25)) := by
  obtain ⟨ii, hii, hz, hs, hb⟩ := info_edge'
  have hle := icells_length e3_len xs
  have hlt : ((icells e3 xs).take (i * 3)).length = i * 3 := by rw [List.length_take]; omega
  have hold : (Builtin.firstCells ii.size i (.slice (some ⟨g, 0, none⟩) i xs.length)).run Try.prog w.drew = .ok ((icells e3 xs).take (i * 3)).toArray w.drew := by
    rw [hs]
    refine run_firstCells_some (w := w.drew) 3 i ⟨g, 0, none⟩ i xs.length _ hlt fun j v hj => ?_
    rw [Addr.add_lit, Nat.zero_add]
    rw [List.getElem?_take, ← hcur, List.getElem?_take] at hj
    have h1 : w.drew.cell? ⟨g, j, none⟩ = cur[j]? := cell_row (w := w.drew) hg j
    rw [h1]
    split at hj
    · split at hj
      · exact hj
      · cases hj
    · cases hj
  have h := Lib.run_append_grow_zeros (P := Try.prog) w 22 3
  have hk : i + (xs.length + 1 - i) = xs.length + 1 := by omega
  have hki : (xs.length : Int) + 1 - (i : Int) = ((xs.length + 1 - i : Nat) : Int) := by omega
  have h2 := fun ty => h ty 25 ii _ .i64 .i64 Try.underlying22 Try.underlying3 hii hz (some ⟨g, 0, none⟩) i xs.length _ hold (xs.length + 1 - i) (by omega) (by omega) (by omega) (by omega) (by rw [hb]; omega) (by rw [hb, hk]; exact growslice_fits (by omega) (by omega))
  rw [hk] at h2
  refine ⟨(((icells e3 xs).take (i * 3)).toArray ++ Builtin.zeroCells (Value.agg #[.int .i64 0, .int .i64 0, .int .i64 0]).cells (xs.length + 1 - i) ++ Builtin.zeroCells (Value.agg #[.int .i64 0, .int .i64 0, .int .i64 0]).cells (grownCap w (xs.length + 1) xs.length 25 - (xs.length + 1))).toList, grownCap w (xs.length + 1) xs.length 25, grownCap_ge _ _ _ _, grownCap_le_maxLen _ _ _ _ (by unfold maxLen; omega), ?_, ?_, fun ty => ?_⟩
  · have hge := grownCap_ge w (xs.length + 1) xs.length 25
    have hsz : (Value.agg #[.int .i64 0, .int .i64 0, .int .i64 0]).cells.size = 3 := rfl
    rw [Array.length_toList, Array.size_append, Array.size_append, size_zeroCells, size_zeroCells, hsz]
    simp only [List.size_toArray, hlt]
    omega
  · simp only [Array.toList_append, List.append_assoc]
    rw [List.take_append_of_le_length (by omega), List.take_of_length_le (by omega)]
  · rw [hki, h2 ty]
theorem splice_ins2 {α : Type} (row xs news : List α) (i n G : Nat) (hi : i ≤ n) (hx : xs.length = n * 3) (hn : news.length = 3) (hc : (n + 1) * 3 ≤ row.length) (hr : row.take (i * 3) = xs.take (i * 3)) :
    (splice (splice row (i * 3) news) ((i + 1) * 3) (xs.drop (i * 3))).take ((n + 1) * 3) = xs.take (i * 3) ++ news ++ xs.drop (i * 3) := by
  have h1 : (xs.drop (i * 3)).length = (n - i) * 3 := by rw [List.length_drop, hx, Nat.sub_mul]
  have hB : (xs.take (i * 3)).length = i * 3 := by rw [List.length_take]; omega
  unfold splice
  rw [hr]
  have e2 : (xs.take (i * 3) ++ (news ++ row.drop (i * 3 + news.length))).take ((i + 1) * 3) = xs.take (i * 3) ++ news := by
    rw [← List.append_assoc, List.take_append_of_le_length (by simp only [List.length_append]; omega), List.take_of_length_le (by simp only [List.length_append]; omega)]
  rw [e2, ← List.append_assoc, List.take_append_of_le_length (by simp only [List.length_append]; omega), List.take_of_length_le (by simp only [List.length_append]; omega)]
set_option maxRecDepth 100000 in
set_option maxHeartbeats 1000000 in
/-- where there is none -/
theorem insert_grow {g : Nat} {cur : List Value} (hg : w.heap[g]? = some (.cells cur.toArray 25 (0, 0))) (hcur : cur.take (xs.length * 3) = icells e3 xs) (hl : xs.length ≤ 1000000)
    {i : Nat} (hi : i < xs.length) (hx : EdB w vb x) :
    Calls Try.prog 63 #[.slice (some ⟨g, 0, none⟩) xs.length xs.length, .int .i64 (i : Nat), .slice (some ⟨vb, 0, none⟩) 1 1] w fun e w' =>
      ∃ v', e = .returned v' ∧ OwnE w' v' (xs.take i ++ x :: xs.drop i) ∧ Fx No w w' ∧ ∀ b, v'.ownBlock = some b → b = w.heap.size := by
  obtain ⟨row, G, hG1, hG2, hrl, hrt, hrz⟩ := grow_row hg hcur hl hi
  have HG := Lib.hid hg
  have HXx := Lib.hid hx
  have HCur := Lib.hid hcur
  have HRt := Lib.hid hrt
  have hG3 : G ≤ 9223372036854775807 := by unfold maxLen at hG2; exact hG2
  obtain ⟨n, hn⟩ : ∃ n, n = xs.length := ⟨_, rfl⟩
  rw [← hn] at hi hl HCur hG1 hrz ⊢
  have HN := Lib.hid hn
  obtain ⟨N, hN⟩ : ∃ N, N = w.heap.size := ⟨_, rfl⟩
  have HNw := Lib.hid hN
  rw [← hN] at hrz
  have hgN : g < N := by rw [hN]; exact (Array.getElem?_eq_some_iff.1 hg).1
  have hvN : vb < N := by rw [hN]; exact (Array.getElem?_eq_some_iff.1 hx).1
  obtain ⟨W1, hW1⟩ : ∃ W, W = w.drew.alloc (.cells row.toArray 25) := ⟨_, rfl⟩
  rw [← hW1] at hrz
  have HR : Hid (W1.heap[N]? = some (.cells row.toArray 25 (0, 0))) := Lib.hid (by rw [hW1, hN]; show (w.heap.push _)[w.heap.size]? = _; simp)
  have HFa : Hid (Fx No w W1) := Lib.hid (by rw [hW1]; exact (Fx.refl No w).drew.alloc _)
  have hcl3 : (n + 1) * 3 ≤ row.length := by rw [hrl]; exact Nat.mul_le_mul_right _ hG1
  have hdn : Hid (((icells e3 xs).drop (i * 3)).length = (n - i) * 3) := Lib.hid (by rw [List.length_drop, icells_length e3_len, ← hn, Nat.sub_mul])
  have hsrc1 : Hid (∀ W, Fx (fun j => j = N) w W → ∀ j v, ((icells e3 xs).drop (i * 3))[j]? = some v → W.cell? ((⟨g, i * 3, none⟩ : Addr).add j) = some v) := Lib.hid fun W hf j v hj => by
    have h1 := hf.at_ HG.out (by omega)
    rw [Addr.add_lit, cell_row h1]
    rw [List.getElem?_drop, ← HCur.out, List.getElem?_take] at hj
    split at hj
    · exact hj
    · cases hj
  have hsrc2 : Hid (∀ W, Fx (fun j => j = N) w W → ∀ j v, (ints (e3 x))[j]? = some v → W.cell? ((⟨vb, 0, none⟩ : Addr).add j) = some v) := Lib.hid fun W hf j v hj => by
    have h1 : EdB W vb x := HXx.out.fx hf (by omega)
    rw [Addr.add_lit, cell_of_row _ _ _ _ _ _ h1]
    simpa [ints, e3] using hj
  have hone1 : Hid (One ((icells e3 xs).drop (i * 3))) := Lib.hid fun u hu => icells_one xs u (List.mem_of_mem_drop hu)
  have hfit1 : Hid (i * 3 + (ints (e3 x)).length ≤ row.length) := Lib.hid (by simp [ints, e3]; omega)
  have hfit2 : Hid ((i + 1) * 3 + ((icells e3 xs).drop (i * 3)).length ≤ (splice row (i * 3) (ints (e3 x))).length) := Lib.hid (by rw [length_splice _ _ _ hfit1.out, hdn.out]; omega)
  have hw1 : IntKind.i64.wrap ((i : Int) + 1) = (i : Int) + 1 := by rw [IntKind.wrap_i64]; omega
  have hb1 : (0 : Int) ≤ (i : Int) + 1 := by omega
  have htn : ((i : Int) + 1).toNat = i + 1 := by omega
  have hb0 : (i : Int) ≤ (n : Int) + 1 := by omega
  have b1 : ¬ (n = i) := by omega
  have b2 : ¬ (n = i + 1) ∨ n = i + 1 := by omega
  have b3 : i ≤ n := by omega
  have b4 : (i : Int) + 1 ≤ (n : Int) + 1 := by omega
  have b5 : ¬ ((i : Int) = (n : Int)) := by omega
  have b6 : ¬ (G = i) := by omega
  have b7 : ¬ (G = i + 1) := by omega
  have d1 : decide ((n : Int) < (n : Int) + 1) = true := decide_eq_true (by omega)
  clear hx hg hcur hn hW1 hN b2 hrt
  go_enter Try.func63, Try.ntmps63
  go_wp2_with (first
    | (at_builtin; refine Lib.wpList_append_run _ rfl _ _ _ _ rfl _ _ rfl rfl _ _ (hrz _) ?_)
    | (with_reducible refine wpList_copy_row rfl (.tmp 43) (.tmp 44) 22 22 rfl 25 3 1 Try.underlying22 size_edge N (i * 3) _ _ ⟨vb, 0, none⟩ 1 1 rfl rfl _ 25 HR.out (ints (e3 x)) (by show 1 = min 1 (n + 1 - i); omega) rfl (hsrc2.out _ HFa.out.no) hfit1.out (ints_one _) ?_))
  intro w2 HG2 HF2
  have HF2' : Hid (Fx (fun j => j = N) w w2) := Lib.hid (HFa.out.no.trans HF2.out)
  clear HF2
  go_wp2
  go_region_law (refine step_copy_row rfl (.tmp 50) (.tmp 53) 22 22 rfl 25 3 (n - i) Try.underlying22 size_edge N ((i + 1) * 3) (n + 1 - (i + 1)) (G - (i + 1)) ⟨g, i * 3, none⟩ (n - i) (n - i) (by simp [Act.eval, Act.put]) (by simp [Act.eval, Act.put]) _ 25 HG2.out ((icells e3 xs).drop (i * 3)) (by show n - i = min (n - i) (n + 1 - (i + 1)); omega) hdn.out (hsrc1.out _ HF2'.out.drew) hfit2.out hone1.out ?_; intro w3 HG3 HF3)
  have HO : Hid (OwnE w3 (.slice (some ⟨N, 0, none⟩) (n + 1) G) (xs.take i ++ x :: xs.drop i)) := Lib.hid (by
    have hle : (xs.take i ++ x :: xs.drop i).length = n + 1 := by simp only [List.length_append, List.length_take, List.length_cons, List.length_drop, ← HN.out]; omega
    unfold OwnE OwnT
    rw [hle]
    refine ownsRow_shut (by rw [icells_length e3_len, hle]) (Nat.zero_le _) HG3.out hG1 hG2 (by rw [length_splice _ _ _ hfit2.out, length_splice _ _ _ hfit1.out, hrl]) ?_
    have h1 := splice_ins2 row (icells e3 xs) (ints (e3 x)) i n G b3 (by rw [icells_length e3_len, ← HN.out]) rfl hcl3 HRt.out
    rw [h1, icells_take, icells_drop, icells_append, icells_cons, List.append_assoc])
  have HF : Hid (Fx No w w3) := Lib.hid (((HF2'.out.drew).trans HF3.out).mono fun k hk e => absurd (show k = N from e) (by have := HNw.out; omega))
  clear HG2 HG3 HF2' HF3 hrz
  go_wp2
  go_ret
  exact ⟨_, rfl, HO.out, HF.out, fun b hb => by rw [← HNw.out]; simpa [Value.ownBlock] using hb.symm⟩
/-- one edge into a row -/
theorem insert_any (h : OwnE w v xs) (hl : xs.length ≤ 1000000) {i : Nat} (hi : i ≤ xs.length) (hx : EdB w vb x) (hvb : v.ownBlock ≠ some vb) :
    Calls Try.prog 63 #[v, .int .i64 (i : Nat), .slice (some ⟨vb, 0, none⟩) 1 1] w fun e w' =>
      ∃ v', e = .returned v' ∧ OwnE w' v' (xs.take i ++ x :: xs.drop i) ∧ Fx (fun b => v.ownBlock = some b) w w' ∧ ∀ g, v'.ownBlock = some g → v.ownBlock = some g ∨ w.heap.size ≤ g := by
  by_cases he : i = xs.length
  · subst he
    rw [List.take_length, List.drop_length]
    exact insert_end h hl hx
  · have hi' : i < xs.length := by omega
    obtain ⟨g, cap, cur, rfl, _, hg, h1, h2, h3, h4⟩ := ownsRow_open h (by omega)
    by_cases hr : xs.length + 1 ≤ cap
    · refine (insert_room hg h3 h4 hl h2 hi' hr hx (fun e => hvb (by rw [e]; rfl))).mono ?_
      rintro e w' ⟨v', r1, r2, r3, r4⟩
      refine ⟨v', r1, r2, r3.mono fun k _ hk => by show some g = some k; rw [show k = g from hk], fun b hb => ?_⟩
      rcases r4 b hb with r | r
      · exact .inl (by rw [r]; rfl)
      · exact .inr r
    · obtain rfl : cap = xs.length := by omega
      refine (insert_grow hg h4 hl hi' hx).mono ?_
      rintro e w' ⟨v', r1, r2, r3, r4⟩
      exact ⟨v', r1, r2, r3.no, fun b hb => .inr (by rw [r4 b hb]; exact Nat.le_refl _)⟩
end
#print axioms insert_any
end Go.Proofs.Ytcfajeldkioomaa
