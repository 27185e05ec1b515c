/- The reference of closures: All. -/
import Derived.Test.YtfpggeiphbekoaaDoorRfD
import Derived.StillTailTactics
namespace Go.Proofs.YtfpggeiphbekoaaDoor
open Go.RowKit
set_option linter.unusedVariables false

/-- what has been joined: all by the nodes below k; by k too up to row i, number m -/
def Inv (e : Nat → Nat → Prop) (n k i m : Nat) (g : Nat → Nat → Bool) : Prop := ∀ a b, a < n → b < n → (g a b = true → Way e a b) ∧ (WK e k a b → g a b = true) ∧ ((a < i ∨ (a = i ∧ b < m)) → WK e (k + 1) a b → g a b = true)
theorem Inv.step {e : Nat → Nat → Prop} {n k i m : Nat} {g : Nat → Nat → Bool} (h : Inv e n k i m g) (hk : k < n) (hi : i < n) (hm : m < n) : Inv e n k i (m + 1) (setG g i m (g i m || (g i k && g k m))) := by
  intro a b ha hb
  obtain ⟨h1, h2, h3⟩ := h a b ha hb
  obtain ⟨p1, p2, _⟩ := h i k hi hk
  obtain ⟨r1, r2, _⟩ := h k m hk hm
  unfold setG
  by_cases hab : a = i ∧ b = m
  · obtain ⟨rfl, rfl⟩ := hab
    rw [if_pos ⟨rfl, rfl⟩]
    refine ⟨fun hg => ?_, fun hw => by rw [h2 hw]; rfl, fun _ hw => ?_⟩
    · simp only [Bool.or_eq_true, Bool.and_eq_true] at hg
      rcases hg with hg | ⟨hg1, hg2⟩
      · exact h1 hg
      · exact (p1 hg1).trans (r1 hg2)
    · rcases hw with hw | ⟨hw1, hw2⟩
      · rw [h2 hw]; rfl
      · rw [p2 hw1, r2 hw2]; simp
  · rw [if_neg hab]
    exact ⟨h1, h2, fun hx hw => h3 (by omega) hw⟩
theorem Inv.row {e : Nat → Nat → Prop} {n k i : Nat} {g : Nat → Nat → Bool} (h : Inv e n k i n g) : Inv e n k (i + 1) 0 g := fun a b ha hb =>
  ⟨(h a b ha hb).1, (h a b ha hb).2.1, fun hx hw => (h a b ha hb).2.2 (by omega) hw⟩
theorem Inv.round {e : Nat → Nat → Prop} {n k : Nat} {g : Nat → Nat → Bool} (h : Inv e n k n 0 g) : Inv e n (k + 1) 0 0 g := fun a b ha hb =>
  ⟨(h a b ha hb).1, fun hw => (h a b ha hb).2.2 (.inl ha) hw, fun hx => by omega⟩
theorem Inv.done {e : Nat → Nat → Prop} {n : Nat} {g : Nat → Nat → Bool} (h : Inv e n n 0 0 g) (he : ∀ i j, e i j → i < n ∧ j < n) : ∀ i j, i < n → j < n → (g i j = true ↔ Way e i j) := fun i j hi hj =>
  ⟨(h i j hi hj).1, fun hw => (h i j hi hj).2.1 ((way_WK he).1 hw)⟩
theorem Mat.lower {w : World} {lo lo' n gO : Nat} {vo : Value} {B : Nat → Nat} {g : Nat → Nat → Bool} (h : Mat w lo n vo gO B g) (hl : lo' ≤ lo) : Mat w lo' n vo gO B g :=
  ⟨h.shape, h.row, h.cel, h.inj, h.ne, fun i hi => by have := h.low i hi; omega⟩
/-- the matrix of which nodes lead to which -/
def AllR (L : List (Int × Int)) (n : Nat) (w : World) (e : Ending) (w' : World) : Prop := ∃ vo gO B g, e = .returned vo ∧ Fx No w w' ∧ Mat w' w.heap.size n vo gO B g ∧ ∀ i j, i < n → j < n → (g i j = true ↔ Way (edgeP L) i j)
section
variable {w w' : World} {D S : Nat → Prop} {L : List (Int × Int)} {v : Value}
set_option maxRecDepth 100000 in
set_option maxHeartbeats 4000000 in
theorem refAll_any (h : PairsV w D v L) {n : Nat} (hn : n ≤ 1000) (hL : ∀ q ∈ L, (0 ≤ q.1 ∧ q.1 < n) ∧ 0 ≤ q.2 ∧ q.2 < n) : Calls Tryd.prog 13 #[.agg #[.int .i64 (n : Int), v]] w (AllR L n w) := by
  obtain ⟨ii, hi, hz, hs, hb⟩ := info_parts info_bools
  have HL := Lib.hid hL
  obtain ⟨ao, cap, rfl, _, _, hc⟩ := h.facts
  have HC := Lib.hid hc
  have hmk := makeBools (E := (n : Int)) (k := n) (by omega) (by omega) (by omega)
  clear h hc hL
  go_enter Tryd.func13, Tryd.ntmps13
  go_wp2_with fail
  refine wp_hold (fun W => Fx No w W ∧ W.heap.size = w.heap.size + 1 ∧ W.cell? ⟨w.heap.size, 0, none⟩ = some (.int .i64 (n : Int)) ∧ W.cell? ⟨w.heap.size, 1, none⟩ = some (.slice ao L.length cap)) ⟨(Fx.refl No w).alloc _, by simp, by simp, by simp⟩ ?_
  rintro w1 ⟨hF, hz1, k0, k1⟩
  obtain ⟨cb, hcb⟩ : ∃ e, e = w.heap.size := ⟨_, rfl⟩
  rw [← hcb] at hz1 k0 k1 ⊢
  have HF := Lib.hid hF
  have HK0 := Lib.hid k0
  have HK1 := Lib.hid k1
  have hcw : w.heap.size ≤ w1.heap.size := hF.size
  have hcb1 : cb < w1.heap.size := by omega
  clear hF hcb k0 k1 hz1
  go_loopw [3, 4] (fun vs i ws => ∃ (k : Nat) (B : Nat → Nat), i = .int .i64 k ∧ k ≤ n ∧ MatS w1 ws w1.heap.size n k vs B) (fun _ i _ => n - (intOf i).toNat)
  case atStart => exact ⟨0, fun _ => 0, rfl, Nat.zero_le _, ⟨Fx.refl _ _, World.ownsRow_nil _ _ _ _, fun i j hi => by omega, fun i j hi => by omega, fun i g hi => by omega, Nat.le_refl _, Nat.le_refl _, fun i hi => by omega⟩⟩
  case round =>
    obtain ⟨k, B, rfl, hk, hM⟩ := hrel
    have HM := Lib.hid hM
    have k0 := hM.fx.cell' HK0.out (fun h => h)
    have k1 := hM.fx.cell' HK1.out (fun h => h)
    have hlow := hM.low.2.1
    clear hM
    by_cases hlt : k < n
    · have hkn : (k : Int) < (n : Int) := by omega
      have hcbr : cb < wr.heap.size := by omega
      have HLit : Hid (SlV ((wr.alloc (.cells (zeroBools n) 4)).alloc (.cells #[.slice (some ⟨wr.heap.size, 0, none⟩) n n] 81)) (fun _ => True) (.slice (some ⟨wr.heap.size + 1, 0, none⟩) 1 1) 1 1 [.slice (some ⟨wr.heap.size, 0, none⟩) n n]) := Lib.hid (by
        have := SlV.lit (wr.alloc (.cells (zeroBools n) 4)) 81 #[.slice (some ⟨wr.heap.size, 0, none⟩) n n] 1 1 rfl (by unfold maxLen; omega)
        rw [World.size_alloc] at this
        exact this)
      go_wp2_with (at_builtin; refine wpList_append_kept rfl _ _ 39 rfl w1.heap.size 81 Tryd.underlying39 hi hz hs hb rfl (by decide) rfl (World.ownsRow.alloc (World.ownsRow.alloc HM.out.own _) _) rfl (HLit.out) (fun u hu => by rw [show u = _ from List.mem_singleton.1 hu]; rfl) (by omega) (by unfold maxLen; omega) (by omega) (by simp; omega) ?_)
      intro v' w2 ho hfx hk3 hb2
      have HM2 := Lib.hid (HM.out.step hfx ho (by simpa using hb2))
      clear ho hfx hk3 hb2
      go_wp2
      go_roundw
      case rel => exact ⟨k + 1, _, by go_num, by omega, HM2.out⟩
      case measure => simp [intOf]; omega
    · obtain rfl : n = k := by omega
      obtain ⟨gO, hm0⟩ := HM.out.mat
      obtain ⟨vO, vcap, rfl, hvO, _⟩ := hm0.shape
      have HM0 := Lib.hid hm0
      have HVO := Lib.hid hvO
      have HFm : Hid (Fx (fun x => w1.heap.size ≤ x) w1 wr) := Lib.hid HM.out.fx.no
      clear hm0 hmk hvO k0 k1
      have k0 := HFm.out.cell' HK0.out (fun h => by have h : w1.heap.size ≤ cb := h; omega)
      have k1 := HFm.out.cell' HK1.out (fun h => by have h : w1.heap.size ≤ cb := h; omega)
      go_wp2
      go_loopw [5] (fun i ws => ∃ (q : Nat) (g : Nat → Nat → Bool), i = .int .i64 q ∧ q ≤ L.length ∧ Fx (fun x => w1.heap.size ≤ x) w1 ws ∧ Mat ws w1.heap.size n (.slice vO n vcap) gO B g ∧ ∀ a b, a < n → b < n → (g a b = true ↔ edgeP (L.take q) a b)) (fun i _ => L.length - (intOf i).toNat)
      case atStart => exact ⟨0, _, rfl, Nat.zero_le _, HFm.out, HM0.out, fun a b _ _ => by simp [edgeP]⟩
      case round =>
        obtain ⟨q, g, rfl, hq, hf, hm, hg⟩ := hrel
        have HFq := Lib.hid hf
        have HMq := Lib.hid hm
        have HG := Lib.hid hg
        clear k0 k1
        have k0 := hf.cell' HK0.out (fun h => by have h : w1.heap.size ≤ cb := h; omega)
        have k1 := hf.cell' HK1.out (fun h => by have h : w1.heap.size ≤ cb := h; omega)
        clear hf hm hg
        by_cases hql : q < L.length
        · obtain ⟨b, o, rfl, _, p1, p2⟩ := HC.out q hql
          have hbw := World.block_lt_of_cell? w _ p1
          have hbw : b < w.heap.size := hbw
          have p1 := HFq.out.cell' (HF.out.cell' p1 (fun h => h)) (fun h => by have h : w1.heap.size ≤ b := h; omega)
          have p2 := HFq.out.cell' (HF.out.cell' p2 (fun h => h)) (fun h => by have h : w1.heap.size ≤ b := h; omega)
          obtain ⟨⟨x0, x1⟩, y0, y1⟩ := HL.out _ (gt_mem hql)
          obtain ⟨x, hx⟩ := Int.eq_ofNat_of_zero_le x0
          obtain ⟨y, hy⟩ := Int.eq_ofNat_of_zero_le y0
          rw [hx] at p1 x1
          rw [hy] at p2 y1
          have HTk : Hid (L.take (q + 1) = L.take q ++ [((x : Int), (y : Int))]) := Lib.hid (by rw [take_gt hql, show gt L q = ((x : Int), (y : Int)) from Prod.ext hx hy])
          have hxn : x < n := by omega
          have hyn : y < n := by omega
          clear hx hy x0 y0
          obtain rfl := HVO.out (by omega)
          have r1 := HMq.out.row x hxn
          obtain ⟨s1, s2⟩ := HMq.out.cel x y hxn hyn
          have HBl : Hid (w1.heap.size ≤ B x) := Lib.hid (HMq.out.low x hxn).2
          have hql2 : (q : Int) < (L.length : Int) := by omega
          have hx0 : (0 : Int) ≤ (x : Int) := by omega
          have hy0 : (0 : Int) ≤ (y : Int) := by omega
          go_wp2_with fail
          go_region
          all_goals
            have HM2 : Hid (Mat (wr.setCell ⟨B x, y, none⟩ (.bool true)).drew w1.heap.size n (.slice (some ⟨gO, 0, none⟩) n vcap) gO B (setG g x y true)) := Lib.hid ((HMq.out.set hxn hyn true).fx (S := No) ((Fx.refl No _).drew) (fun _ _ h => h))
            have HF2 : Hid (Fx (fun x => w1.heap.size ≤ x) w1 (wr.setCell ⟨B x, y, none⟩ (.bool true)).drew) := Lib.hid ((HFq.out.setCell (.inr HBl.out) _).drew)
            generalize (wr.setCell ⟨B x, y, none⟩ (.bool true)).drew = wn at *
            clear k0 k1 p1 p2 r1 s1 s2
            go_wp2
            go_roundw
            case rel => exact ⟨q + 1, _, by go_num, by omega, HF2.out, HM2.out, fun a b ha hb => by
              rw [HTk.out]
              unfold setG edgeP
              rw [List.mem_append, List.mem_singleton, Prod.mk.injEq]
              by_cases e : a = x ∧ b = y
              · obtain ⟨rfl, rfl⟩ := e; simp
              · rw [if_neg e]
                have := HG.out a b ha hb
                unfold edgeP at this
                rw [this]
                constructor
                · exact .inl
                · rintro (h | ⟨h1, h2⟩)
                  · exact h
                  · exact absurd ⟨by omega, by omega⟩ e⟩
            case measure => simp [intOf]; omega
        · have hqe : L.take q = L := by rw [show q = L.length by omega, List.take_length]
          have HG : Hid (∀ a b, a < n → b < n → (g a b = true ↔ edgeP L a b)) := Lib.hid (by rw [← hqe]; exact HG.out)
          have hd2 : decide ((q : Int) < (L.length : Int)) = false := decide_eq_false (by omega)
          have hd3 : decide (q < L.length) = false := decide_eq_false hql
          have HeL : Hid (∀ i j, edgeP L i j → i < n ∧ j < n) := Lib.hid fun i j h => by
            obtain ⟨⟨_, h1⟩, _, h2⟩ := HL.out _ h
            exact ⟨by simpa using h1, by simpa using h2⟩
          clear hqe hql
          go_wp2
          go_loopw [6, 7, 8] (fun k _ _ ws => ∃ (K : Nat) (g : Nat → Nat → Bool), k = .int .i64 K ∧ K ≤ n ∧ Fx (fun x => w1.heap.size ≤ x) w1 ws ∧ Mat ws w1.heap.size n (.slice vO n vcap) gO B g ∧ Inv (edgeP L) n K 0 0 g) (fun k _ _ _ => n - (intOf k).toNat)
          case atStart => exact ⟨0, g, rfl, Nat.zero_le _, HFq.out, HMq.out, fun a b ha hb => ⟨fun h => .one ((HG.out a b ha hb).1 h), fun h => (HG.out a b ha hb).2 h, fun h => by omega⟩⟩
          case round =>
            obtain ⟨K, g1, rfl, hK, hf, hm, hg⟩ := hrel
            have HFk := Lib.hid hf
            have HMk := Lib.hid hm
            have HI := Lib.hid hg
            clear k0 k1
            have k0 := hf.cell' HK0.out (fun h => by have h : w1.heap.size ≤ cb := h; omega)
            clear hf hm hg
            by_cases hKl : K < n
            · have hKn : (K : Int) < (n : Int) := by omega
              go_wp2
              go_loopw [7, 8] (fun i _ ws => ∃ (I : Nat) (g : Nat → Nat → Bool), i = .int .i64 I ∧ I ≤ n ∧ Fx (fun x => w1.heap.size ≤ x) w1 ws ∧ Mat ws w1.heap.size n (.slice vO n vcap) gO B g ∧ Inv (edgeP L) n K I 0 g) (fun i _ _ => n - (intOf i).toNat)
              case atStart => exact ⟨0, g1, rfl, Nat.zero_le _, HFk.out, HMk.out, HI.out⟩
              case round =>
                obtain ⟨I, g2, rfl, hI, hf, hm, hg⟩ := hrel
                have HFi := Lib.hid hf
                have HMi := Lib.hid hm
                have HIi := Lib.hid hg
                clear k0
                have k0 := hf.cell' HK0.out (fun h => by have h : w1.heap.size ≤ cb := h; omega)
                clear hf hm hg
                by_cases hIl : I < n
                · have hIn : (I : Int) < (n : Int) := by omega
                  go_wp2
                  go_loopw [8] (fun m ws => ∃ (M : Nat) (g : Nat → Nat → Bool), m = .int .i64 M ∧ M ≤ n ∧ Fx (fun x => w1.heap.size ≤ x) w1 ws ∧ Mat ws w1.heap.size n (.slice vO n vcap) gO B g ∧ Inv (edgeP L) n K I M g) (fun m _ => n - (intOf m).toNat)
                  case atStart => exact ⟨0, g2, rfl, Nat.zero_le _, HFi.out, HMi.out, HIi.out⟩
                  case round =>
                    obtain ⟨M, g3, rfl, hM', hf, hm, hg⟩ := hrel
                    have HFm3 := Lib.hid hf
                    have HM3 := Lib.hid hm
                    have HI3 := Lib.hid hg
                    clear k0
                    have k0 := hf.cell' HK0.out (fun h => by have h : w1.heap.size ≤ cb := h; omega)
                    clear hf hm hg
                    by_cases hMl : M < n
                    · have hMn : (M : Int) < (n : Int) := by omega
                      obtain rfl := HVO.out (by omega)
                      have r1 := HM3.out.row I hIl
                      have r2 := HM3.out.row K hKl
                      obtain ⟨s1, s1'⟩ := HM3.out.cel I M hIl hMl
                      have s2 := (HM3.out.cel I K hIl hKl).1
                      have s3 := (HM3.out.cel K M hKl hMl).1
                      obtain ⟨ta, hta⟩ : ∃ t, t = g3 I M := ⟨_, rfl⟩
                      obtain ⟨tb, htb⟩ : ∃ t, t = g3 I K := ⟨_, rfl⟩
                      obtain ⟨tc, htc⟩ : ∃ t, t = g3 K M := ⟨_, rfl⟩
                      rw [← hta] at s1
                      rw [← htb] at s2
                      rw [← htc] at s3
                      have HBl : Hid (w1.heap.size ≤ B I) := Lib.hid (HM3.out.low I hIl).2
                      have HI4 : Hid (Inv (edgeP L) n K I (M + 1) (setG g3 I M (ta || (tb && tc)))) := Lib.hid (by rw [hta, htb, htc]; exact HI3.out.step hKl hIl hMl)
                      have HM4 : Hid (∀ t, Mat (wr.setCell ⟨B I, M, none⟩ (.bool t)) w1.heap.size n (.slice (some ⟨gO, 0, none⟩) n vcap) gO B (setG g3 I M t)) := Lib.hid fun t => HM3.out.set hIl hMl t
                      have h0I : (0 : Int) ≤ (I : Int) := by omega
                      have h0K : (0 : Int) ≤ (K : Int) := by omega
                      have h0M : (0 : Int) ≤ (M : Int) := by omega
                      clear hta htb htc
                      cases ta
                      · cases tb
                        · skip
                          go_wp2_with fail
                          refine wp_region_G 31 (fun b W => b = false → W = wr.drew) (by kernel_rfl) (fun _ => rfl) ?_
                          intro hS hC
                          refine wpG_take (i := 0) (v := ?_) rfl (by kernel_rfl) (by kernel_rfl) (by kernel_rfl) (by kernel_rfl) (fun _ _ _ h => h) (by decide) (Or.inl ⟨by rfl, ?_⟩) hC hS ?_
                          rotate_left
                          · (intro W hc; obtain rfl := hc rfl; go_simp; first | done | with_reducible rfl)
                          clear hS hC
                          intro hS hC
                          try simp only [Act.put, List.getElem_toArray, List.getElem_cons_zero, List.getElem_cons_succ, List.setIfInBounds_toArray, List.set_cons_zero, List.set_cons_succ]
                          refine wpG_take (i := 1) (v := ?_) rfl (by kernel_rfl) (by kernel_rfl) (by kernel_rfl) (by kernel_rfl) (fun _ _ _ h => h) (by decide) (Or.inl ⟨by rfl, ?_⟩) hC hS ?_
                          rotate_left
                          · (intro W hc; obtain rfl := hc rfl; go_simp; first | done | with_reducible rfl)
                          clear hS hC
                          intro hS hC
                          try simp only [Act.put, List.getElem_toArray, List.getElem_cons_zero, List.getElem_cons_succ, List.setIfInBounds_toArray, List.set_cons_zero, List.set_cons_succ]
                          refine wpG_take (i := 2) (v := ?_) rfl (by kernel_rfl) (by kernel_rfl) (by kernel_rfl) (by kernel_rfl) (fun _ _ _ h => h) (by decide) (Or.inl ⟨by rfl, ?_⟩) hC hS ?_
                          rotate_left
                          · (intro W hc; obtain rfl := hc rfl; go_simp; first | done | with_reducible rfl)
                          clear hS hC
                          intro hS hC
                          try simp only [Act.put, List.getElem_toArray, List.getElem_cons_zero, List.getElem_cons_succ, List.setIfInBounds_toArray, List.set_cons_zero, List.set_cons_succ]
                          refine wpG_take (i := 3) (v := ?_) rfl (by kernel_rfl) (by kernel_rfl) (by kernel_rfl) (by kernel_rfl) (fun _ _ _ h => h) (by decide) (Or.inl ⟨by rfl, ?_⟩) hC hS ?_
                          rotate_left
                          · (intro W hc; obtain rfl := hc rfl; go_simp; first | done | with_reducible rfl)
                          clear hS hC
                          intro hS hC
                          try simp only [Act.put, List.getElem_toArray, List.getElem_cons_zero, List.getElem_cons_succ, List.setIfInBounds_toArray, List.set_cons_zero, List.set_cons_succ]
                          refine wpG_take (i := 4) (v := ?_) rfl (by kernel_rfl) (by kernel_rfl) (by kernel_rfl) (by kernel_rfl) (fun _ _ _ h => h) (by decide) (Or.inl ⟨by rfl, ?_⟩) hC hS ?_
                          rotate_left
                          · (intro W hc; obtain rfl := hc rfl; go_simp; first | done | with_reducible rfl)
                          clear hS hC
                          intro hS hC
                          try simp only [Act.put, List.getElem_toArray, List.getElem_cons_zero, List.getElem_cons_succ, List.setIfInBounds_toArray, List.set_cons_zero, List.set_cons_succ]
                          refine wpG_take (i := 5) (v := ?_) rfl (by kernel_rfl) (by kernel_rfl) (by kernel_rfl) (by kernel_rfl) (fun _ _ _ h => h) (by decide) (Or.inl ⟨by rfl, ?_⟩) hC hS ?_
                          rotate_left
                          · (intro W hc; obtain rfl := hc rfl; go_simp; first | done | with_reducible rfl)
                          clear hS hC
                          intro hS hC
                          try simp only [Act.put, List.getElem_toArray, List.getElem_cons_zero, List.getElem_cons_succ, List.setIfInBounds_toArray, List.set_cons_zero, List.set_cons_succ]
                          refine wpG_take (i := 6) (v := ?_) rfl (by kernel_rfl) (by kernel_rfl) (by kernel_rfl) (by kernel_rfl) (fun _ _ _ h => h) (by decide) (Or.inl ⟨by rfl, ?_⟩) hC hS ?_
                          rotate_left
                          · (intro W hc; obtain rfl := hc rfl; go_simp; first | done | with_reducible rfl)
                          clear hS hC
                          intro hS hC
                          try simp only [Act.put, List.getElem_toArray, List.getElem_cons_zero, List.getElem_cons_succ, List.setIfInBounds_toArray, List.set_cons_zero, List.set_cons_succ]
                          refine wpG_take (i := 7) (v := ?_) rfl (by kernel_rfl) (by kernel_rfl) (by kernel_rfl) (by kernel_rfl) (fun _ _ _ h => h) (by decide) (Or.inl ⟨by rfl, ?_⟩) hC hS ?_
                          rotate_left
                          · (intro W hc; obtain rfl := hc rfl; go_simp; first | done | with_reducible rfl)
                          clear hS hC
                          intro hS hC
                          try simp only [Act.put, List.getElem_toArray, List.getElem_cons_zero, List.getElem_cons_succ, List.setIfInBounds_toArray, List.set_cons_zero, List.set_cons_succ]
                          refine wpG_take (i := 8) (v := ?_) rfl (by kernel_rfl) (by kernel_rfl) (by kernel_rfl) (by kernel_rfl) (fun _ _ _ h => h) (by decide) (Or.inl ⟨by rfl, ?_⟩) hC hS ?_
                          rotate_left
                          · (intro W hc; obtain rfl := hc rfl; go_simp; first | done | with_reducible rfl)
                          clear hS hC
                          intro hS hC
                          try simp only [Act.put, List.getElem_toArray, List.getElem_cons_zero, List.getElem_cons_succ, List.setIfInBounds_toArray, List.set_cons_zero, List.set_cons_succ]
                          refine wpG_take (i := 9) (v := ?_) rfl (by kernel_rfl) (by kernel_rfl) (by kernel_rfl) (by kernel_rfl) (fun _ _ _ h => h) (by decide) (Or.inl ⟨by rfl, ?_⟩) hC hS ?_
                          rotate_left
                          · (intro W hc; obtain rfl := hc rfl; go_simp; first | done | with_reducible rfl)
                          clear hS hC
                          intro hS hC
                          try simp only [Act.put, List.getElem_toArray, List.getElem_cons_zero, List.getElem_cons_succ, List.setIfInBounds_toArray, List.set_cons_zero, List.set_cons_succ]
                          refine wpG_take (i := 10) (v := ?_) rfl (by kernel_rfl) (by kernel_rfl) (by kernel_rfl) (by kernel_rfl) (fun _ _ _ h => h) (by decide) (Or.inl ⟨by rfl, ?_⟩) hC hS ?_
                          rotate_left
                          · (intro W hc; obtain rfl := hc rfl; go_simp; first | done | with_reducible rfl)
                          clear hS hC
                          intro hS hC
                          try simp only [Act.put, List.getElem_toArray, List.getElem_cons_zero, List.getElem_cons_succ, List.setIfInBounds_toArray, List.set_cons_zero, List.set_cons_succ]
                          refine wpG_take (i := 11) (v := ?_) rfl (by kernel_rfl) (by kernel_rfl) (by kernel_rfl) (by kernel_rfl) (fun _ _ _ h => h) (by decide) (Or.inl ⟨by rfl, ?_⟩) hC hS ?_
                          rotate_left
                          · (intro W hc; obtain rfl := hc rfl; go_simp; first | done | with_reducible rfl)
                          clear hS hC
                          intro hS hC
                          try simp only [Act.put, List.getElem_toArray, List.getElem_cons_zero, List.getElem_cons_succ, List.setIfInBounds_toArray, List.set_cons_zero, List.set_cons_succ]
                          refine wpG_take (i := 12) (v := ?_) rfl (by kernel_rfl) (by kernel_rfl) (by kernel_rfl) (by kernel_rfl) (fun _ _ _ h => h) (by decide) (Or.inl ⟨by rfl, ?_⟩) hC hS ?_
                          rotate_left
                          · (intro W hc; obtain rfl := hc rfl; go_simp; first | done | with_reducible rfl)
                          clear hS hC
                          intro hS hC
                          try simp only [Act.put, List.getElem_toArray, List.getElem_cons_zero, List.getElem_cons_succ, List.setIfInBounds_toArray, List.set_cons_zero, List.set_cons_succ]
                          refine wpG_take (i := 13) (v := ?_) rfl (by kernel_rfl) (by kernel_rfl) (by kernel_rfl) (by kernel_rfl) (fun _ _ _ h => h) (by decide) (Or.inl ⟨by rfl, ?_⟩) hC hS ?_
                          rotate_left
                          · (intro W hc; obtain rfl := hc rfl; go_simp; first | done | with_reducible rfl)
                          clear hS hC
                          intro hS hC
                          try simp only [Act.put, List.getElem_toArray, List.getElem_cons_zero, List.getElem_cons_succ, List.setIfInBounds_toArray, List.set_cons_zero, List.set_cons_succ]
                          refine wpG_take (i := 14) (v := ?_) rfl (by kernel_rfl) (by kernel_rfl) (by kernel_rfl) (by kernel_rfl) (fun _ _ _ h => h) (by decide) (Or.inl ⟨by rfl, ?_⟩) hC hS ?_
                          rotate_left
                          · (intro W hc; obtain rfl := hc rfl; go_simp; first | done | with_reducible rfl)
                          clear hS hC
                          intro hS hC
                          try simp only [Act.put, List.getElem_toArray, List.getElem_cons_zero, List.getElem_cons_succ, List.setIfInBounds_toArray, List.set_cons_zero, List.set_cons_succ]
                          refine wpG_take (i := 15) (v := ?_) rfl (by kernel_rfl) (by kernel_rfl) (by kernel_rfl) (by kernel_rfl) (fun _ _ _ h => h) (by decide) (Or.inl ⟨by rfl, ?_⟩) hC hS ?_
                          rotate_left
                          · (intro W hc; obtain rfl := hc rfl; go_simp; first | done | with_reducible rfl)
                          clear hS hC
                          intro hS hC
                          try simp only [Act.put, List.getElem_toArray, List.getElem_cons_zero, List.getElem_cons_succ, List.setIfInBounds_toArray, List.set_cons_zero, List.set_cons_succ]
                          refine wpG_take (i := 16) (v := ?_) rfl (by kernel_rfl) (by kernel_rfl) (by kernel_rfl) (by kernel_rfl) (fun _ _ _ h => h) (by decide) (Or.inl ⟨by rfl, ?_⟩) hC hS ?_
                          rotate_left
                          · (intro W hc; obtain rfl := hc rfl; go_simp; first | done | with_reducible rfl)
                          clear hS hC
                          intro hS hC
                          try simp only [Act.put, List.getElem_toArray, List.getElem_cons_zero, List.getElem_cons_succ, List.setIfInBounds_toArray, List.set_cons_zero, List.set_cons_succ]
                          refine wpG_take (i := 17) (v := ?_) rfl (by kernel_rfl) (by kernel_rfl) (by kernel_rfl) (by kernel_rfl) (fun _ _ _ h => h) (by decide) (Or.inl ⟨by rfl, ?_⟩) hC hS ?_
                          rotate_left
                          · (intro W hc; obtain rfl := hc rfl; go_simp; first | done | with_reducible rfl)
                          clear hS hC
                          intro hS hC
                          try simp only [Act.put, List.getElem_toArray, List.getElem_cons_zero, List.getElem_cons_succ, List.setIfInBounds_toArray, List.set_cons_zero, List.set_cons_succ]
                          refine wpG_take (i := 18) (v := ?_) rfl (by kernel_rfl) (by kernel_rfl) (by kernel_rfl) (by kernel_rfl) (fun _ _ _ h => h) (by decide) (Or.inl ⟨by rfl, ?_⟩) hC hS ?_
                          rotate_left
                          · (intro W hc; obtain rfl := hc rfl; go_simp; first | done | with_reducible rfl)
                          clear hS hC
                          intro hS hC
                          try simp only [Act.put, List.getElem_toArray, List.getElem_cons_zero, List.getElem_cons_succ, List.setIfInBounds_toArray, List.set_cons_zero, List.set_cons_succ]
                          refine wpG_take (i := 19) (v := ?_) rfl (by kernel_rfl) (by kernel_rfl) (by kernel_rfl) (by kernel_rfl) (fun _ _ _ h => h) (by decide) (Or.inl ⟨by rfl, ?_⟩) hC hS ?_
                          rotate_left
                          · (intro W hc; obtain rfl := hc rfl; go_simp; first | done | with_reducible rfl)
                          clear hS hC
                          intro hS hC
                          try simp only [Act.put, List.getElem_toArray, List.getElem_cons_zero, List.getElem_cons_succ, List.setIfInBounds_toArray, List.set_cons_zero, List.set_cons_succ]
                          refine wpG_take (i := 20) (v := ?_) rfl (by kernel_rfl) (by kernel_rfl) (by kernel_rfl) (by kernel_rfl) (fun _ _ _ h => h) (by decide) (Or.inl ⟨by rfl, ?_⟩) hC hS ?_
                          rotate_left
                          · (intro W hc; obtain rfl := hc rfl; go_simp; first | done | with_reducible rfl)
                          clear hS hC
                          intro hS hC
                          try simp only [Act.put, List.getElem_toArray, List.getElem_cons_zero, List.getElem_cons_succ, List.setIfInBounds_toArray, List.set_cons_zero, List.set_cons_succ]
                          refine wpG_take (i := 21) (v := undef) rfl (by kernel_rfl) (by kernel_rfl) (by kernel_rfl) (by kernel_rfl) (fun _ _ _ h => h) (by decide) (Or.inr ⟨by rfl, rfl⟩) hC hS ?_
                          clear hS hC
                          intro hS hC
                          try simp only [Act.put, List.getElem_toArray, List.getElem_cons_zero, List.getElem_cons_succ, List.setIfInBounds_toArray, List.set_cons_zero, List.set_cons_succ]
                          refine wpG_take (i := 22) (v := undef) rfl (by kernel_rfl) (by kernel_rfl) (by kernel_rfl) (by kernel_rfl) (fun _ _ _ h => h) (by decide) (Or.inr ⟨by rfl, rfl⟩) hC hS ?_
                          clear hS hC
                          intro hS hC
                          try simp only [Act.put, List.getElem_toArray, List.getElem_cons_zero, List.getElem_cons_succ, List.setIfInBounds_toArray, List.set_cons_zero, List.set_cons_succ]
                          refine wpG_take (i := 23) (v := undef) rfl (by kernel_rfl) (by kernel_rfl) (by kernel_rfl) (by kernel_rfl) (fun _ _ _ h => h) (by decide) (Or.inr ⟨by rfl, rfl⟩) hC hS ?_
                          clear hS hC
                          intro hS hC
                          try simp only [Act.put, List.getElem_toArray, List.getElem_cons_zero, List.getElem_cons_succ, List.setIfInBounds_toArray, List.set_cons_zero, List.set_cons_succ]
                          refine wpG_take (i := 24) (v := undef) rfl (by kernel_rfl) (by kernel_rfl) (by kernel_rfl) (by kernel_rfl) (fun _ _ _ h => h) (by decide) (Or.inr ⟨by rfl, rfl⟩) hC hS ?_
                          clear hS hC
                          intro hS hC
                          try simp only [Act.put, List.getElem_toArray, List.getElem_cons_zero, List.getElem_cons_succ, List.setIfInBounds_toArray, List.set_cons_zero, List.set_cons_succ]
                          refine wpG_take (i := 25) (v := undef) rfl (by kernel_rfl) (by kernel_rfl) (by kernel_rfl) (by kernel_rfl) (fun _ _ _ h => h) (by decide) (Or.inr ⟨by rfl, rfl⟩) hC hS ?_
                          clear hS hC
                          intro hS hC
                          try simp only [Act.put, List.getElem_toArray, List.getElem_cons_zero, List.getElem_cons_succ, List.setIfInBounds_toArray, List.set_cons_zero, List.set_cons_succ]
                          refine wpG_take (i := 26) (v := undef) rfl (by kernel_rfl) (by kernel_rfl) (by kernel_rfl) (by kernel_rfl) (fun _ _ _ h => h) (by decide) (Or.inr ⟨by rfl, rfl⟩) hC hS ?_
                          clear hS hC
                          intro hS hC
                          try simp only [Act.put, List.getElem_toArray, List.getElem_cons_zero, List.getElem_cons_succ, List.setIfInBounds_toArray, List.set_cons_zero, List.set_cons_succ]
                          refine wpG_take (i := 27) (v := undef) rfl (by kernel_rfl) (by kernel_rfl) (by kernel_rfl) (by kernel_rfl) (fun _ _ _ h => h) (by decide) (Or.inr ⟨by rfl, rfl⟩) hC hS ?_
                          clear hS hC
                          intro hS hC
                          try simp only [Act.put, List.getElem_toArray, List.getElem_cons_zero, List.getElem_cons_succ, List.setIfInBounds_toArray, List.set_cons_zero, List.set_cons_succ]
                          refine wpG_take (i := 28) (v := ?_) rfl (by kernel_rfl) (by kernel_rfl) (by kernel_rfl) (by kernel_rfl) (fun _ _ _ h => h) (by decide) (Or.inl ⟨by rfl, ?_⟩) hC hS ?_
                          rotate_left
                          · (intro W hc; obtain rfl := hc rfl; go_simp; first | done | with_reducible rfl)
                          clear hS hC
                          intro hS hC
                          try simp only [Act.put, List.getElem_toArray, List.getElem_cons_zero, List.getElem_cons_succ, List.setIfInBounds_toArray, List.set_cons_zero, List.set_cons_succ]
                          refine wpG_take (i := 29) (v := ?_) rfl (by kernel_rfl) (by kernel_rfl) (by kernel_rfl) (by kernel_rfl) (fun _ _ _ h => h) (by decide) (Or.inl ⟨by rfl, ?_⟩) hC hS ?_
                          rotate_left
                          · (intro W hc; obtain rfl := hc rfl; go_simp; first | done | with_reducible rfl)
                          clear hS hC
                          intro hS hC
                          try simp only [Act.put, List.getElem_toArray, List.getElem_cons_zero, List.getElem_cons_succ, List.setIfInBounds_toArray, List.set_cons_zero, List.set_cons_succ]
                          refine wpG_take (i := 30) (v := ?_) rfl (by kernel_rfl) (by kernel_rfl) (by kernel_rfl) (by kernel_rfl) (fun _ _ _ h => h) (by decide) (Or.inl ⟨by rfl, ?_⟩) hC hS ?_
                          rotate_left
                          · (intro W hc; obtain rfl := hc rfl; go_simp; first | done | with_reducible rfl)
                          clear hS hC
                          intro hS hC
                          try simp only [Act.put, List.getElem_toArray, List.getElem_cons_zero, List.getElem_cons_succ, List.setIfInBounds_toArray, List.set_cons_zero, List.set_cons_succ]
                          refine wpG_one (i := 31) (by kernel_rfl) rfl hC (fun K hK => ?_)
                          go_simp
                          refine hK.out _ _ (fun h => absurd h (by decide +kernel)) (fun _ _ => ?_)
                          clear hK K hS hC
                          refine wpG_done (by kernel_rfl) ?_ _
                          have HMn : Hid (Mat (wr.setCell ⟨B I, M, none⟩ (.bool false)).drew w1.heap.size n (.slice (some ⟨gO, 0, none⟩) n vcap) gO B (setG g3 I M false)) := Lib.hid ((HM4.out false).fx (S := No) ((Fx.refl No _).drew) (fun _ _ h => h))
                          have HFn : Hid (Fx (fun x => w1.heap.size ≤ x) w1 (wr.setCell ⟨B I, M, none⟩ (.bool false)).drew) := Lib.hid ((HFm3.out.setCell (.inr HBl.out) _).drew)
                          have HIn : Hid (Inv (edgeP L) n K I (M + 1) (setG g3 I M false)) := HI4
                          generalize (wr.setCell ⟨B I, M, none⟩ (.bool false)).drew = wn at *
                          clear k0 r1 r2 s1 s1' s2 s3
                          go_wp2
                          go_roundw
                          case rel => exact ⟨M + 1, _, by go_num, by omega, HFn.out, HMn.out, HIn.out⟩
                          case measure => simp [intOf]; omega
                        · skip
                          go_wp2_with fail
                          refine wp_region_G 31 (fun b W => b = false → W = wr.drew) (by kernel_rfl) (fun _ => rfl) ?_
                          intro hS hC
                          refine wpG_take (i := 0) (v := ?_) rfl (by kernel_rfl) (by kernel_rfl) (by kernel_rfl) (by kernel_rfl) (fun _ _ _ h => h) (by decide) (Or.inl ⟨by rfl, ?_⟩) hC hS ?_
                          rotate_left
                          · (intro W hc; obtain rfl := hc rfl; go_simp; first | done | with_reducible rfl)
                          clear hS hC
                          intro hS hC
                          try simp only [Act.put, List.getElem_toArray, List.getElem_cons_zero, List.getElem_cons_succ, List.setIfInBounds_toArray, List.set_cons_zero, List.set_cons_succ]
                          refine wpG_take (i := 1) (v := ?_) rfl (by kernel_rfl) (by kernel_rfl) (by kernel_rfl) (by kernel_rfl) (fun _ _ _ h => h) (by decide) (Or.inl ⟨by rfl, ?_⟩) hC hS ?_
                          rotate_left
                          · (intro W hc; obtain rfl := hc rfl; go_simp; first | done | with_reducible rfl)
                          clear hS hC
                          intro hS hC
                          try simp only [Act.put, List.getElem_toArray, List.getElem_cons_zero, List.getElem_cons_succ, List.setIfInBounds_toArray, List.set_cons_zero, List.set_cons_succ]
                          refine wpG_take (i := 2) (v := ?_) rfl (by kernel_rfl) (by kernel_rfl) (by kernel_rfl) (by kernel_rfl) (fun _ _ _ h => h) (by decide) (Or.inl ⟨by rfl, ?_⟩) hC hS ?_
                          rotate_left
                          · (intro W hc; obtain rfl := hc rfl; go_simp; first | done | with_reducible rfl)
                          clear hS hC
                          intro hS hC
                          try simp only [Act.put, List.getElem_toArray, List.getElem_cons_zero, List.getElem_cons_succ, List.setIfInBounds_toArray, List.set_cons_zero, List.set_cons_succ]
                          refine wpG_take (i := 3) (v := ?_) rfl (by kernel_rfl) (by kernel_rfl) (by kernel_rfl) (by kernel_rfl) (fun _ _ _ h => h) (by decide) (Or.inl ⟨by rfl, ?_⟩) hC hS ?_
                          rotate_left
                          · (intro W hc; obtain rfl := hc rfl; go_simp; first | done | with_reducible rfl)
                          clear hS hC
                          intro hS hC
                          try simp only [Act.put, List.getElem_toArray, List.getElem_cons_zero, List.getElem_cons_succ, List.setIfInBounds_toArray, List.set_cons_zero, List.set_cons_succ]
                          refine wpG_take (i := 4) (v := ?_) rfl (by kernel_rfl) (by kernel_rfl) (by kernel_rfl) (by kernel_rfl) (fun _ _ _ h => h) (by decide) (Or.inl ⟨by rfl, ?_⟩) hC hS ?_
                          rotate_left
                          · (intro W hc; obtain rfl := hc rfl; go_simp; first | done | with_reducible rfl)
                          clear hS hC
                          intro hS hC
                          try simp only [Act.put, List.getElem_toArray, List.getElem_cons_zero, List.getElem_cons_succ, List.setIfInBounds_toArray, List.set_cons_zero, List.set_cons_succ]
                          refine wpG_take (i := 5) (v := ?_) rfl (by kernel_rfl) (by kernel_rfl) (by kernel_rfl) (by kernel_rfl) (fun _ _ _ h => h) (by decide) (Or.inl ⟨by rfl, ?_⟩) hC hS ?_
                          rotate_left
                          · (intro W hc; obtain rfl := hc rfl; go_simp; first | done | with_reducible rfl)
                          clear hS hC
                          intro hS hC
                          try simp only [Act.put, List.getElem_toArray, List.getElem_cons_zero, List.getElem_cons_succ, List.setIfInBounds_toArray, List.set_cons_zero, List.set_cons_succ]
                          refine wpG_take (i := 6) (v := ?_) rfl (by kernel_rfl) (by kernel_rfl) (by kernel_rfl) (by kernel_rfl) (fun _ _ _ h => h) (by decide) (Or.inl ⟨by rfl, ?_⟩) hC hS ?_
                          rotate_left
                          · (intro W hc; obtain rfl := hc rfl; go_simp; first | done | with_reducible rfl)
                          clear hS hC
                          intro hS hC
                          try simp only [Act.put, List.getElem_toArray, List.getElem_cons_zero, List.getElem_cons_succ, List.setIfInBounds_toArray, List.set_cons_zero, List.set_cons_succ]
                          refine wpG_take (i := 7) (v := ?_) rfl (by kernel_rfl) (by kernel_rfl) (by kernel_rfl) (by kernel_rfl) (fun _ _ _ h => h) (by decide) (Or.inl ⟨by rfl, ?_⟩) hC hS ?_
                          rotate_left
                          · (intro W hc; obtain rfl := hc rfl; go_simp; first | done | with_reducible rfl)
                          clear hS hC
                          intro hS hC
                          try simp only [Act.put, List.getElem_toArray, List.getElem_cons_zero, List.getElem_cons_succ, List.setIfInBounds_toArray, List.set_cons_zero, List.set_cons_succ]
                          refine wpG_take (i := 8) (v := ?_) rfl (by kernel_rfl) (by kernel_rfl) (by kernel_rfl) (by kernel_rfl) (fun _ _ _ h => h) (by decide) (Or.inl ⟨by rfl, ?_⟩) hC hS ?_
                          rotate_left
                          · (intro W hc; obtain rfl := hc rfl; go_simp; first | done | with_reducible rfl)
                          clear hS hC
                          intro hS hC
                          try simp only [Act.put, List.getElem_toArray, List.getElem_cons_zero, List.getElem_cons_succ, List.setIfInBounds_toArray, List.set_cons_zero, List.set_cons_succ]
                          refine wpG_take (i := 9) (v := ?_) rfl (by kernel_rfl) (by kernel_rfl) (by kernel_rfl) (by kernel_rfl) (fun _ _ _ h => h) (by decide) (Or.inl ⟨by rfl, ?_⟩) hC hS ?_
                          rotate_left
                          · (intro W hc; obtain rfl := hc rfl; go_simp; first | done | with_reducible rfl)
                          clear hS hC
                          intro hS hC
                          try simp only [Act.put, List.getElem_toArray, List.getElem_cons_zero, List.getElem_cons_succ, List.setIfInBounds_toArray, List.set_cons_zero, List.set_cons_succ]
                          refine wpG_take (i := 10) (v := ?_) rfl (by kernel_rfl) (by kernel_rfl) (by kernel_rfl) (by kernel_rfl) (fun _ _ _ h => h) (by decide) (Or.inl ⟨by rfl, ?_⟩) hC hS ?_
                          rotate_left
                          · (intro W hc; obtain rfl := hc rfl; go_simp; first | done | with_reducible rfl)
                          clear hS hC
                          intro hS hC
                          try simp only [Act.put, List.getElem_toArray, List.getElem_cons_zero, List.getElem_cons_succ, List.setIfInBounds_toArray, List.set_cons_zero, List.set_cons_succ]
                          refine wpG_take (i := 11) (v := ?_) rfl (by kernel_rfl) (by kernel_rfl) (by kernel_rfl) (by kernel_rfl) (fun _ _ _ h => h) (by decide) (Or.inl ⟨by rfl, ?_⟩) hC hS ?_
                          rotate_left
                          · (intro W hc; obtain rfl := hc rfl; go_simp; first | done | with_reducible rfl)
                          clear hS hC
                          intro hS hC
                          try simp only [Act.put, List.getElem_toArray, List.getElem_cons_zero, List.getElem_cons_succ, List.setIfInBounds_toArray, List.set_cons_zero, List.set_cons_succ]
                          refine wpG_take (i := 12) (v := ?_) rfl (by kernel_rfl) (by kernel_rfl) (by kernel_rfl) (by kernel_rfl) (fun _ _ _ h => h) (by decide) (Or.inl ⟨by rfl, ?_⟩) hC hS ?_
                          rotate_left
                          · (intro W hc; obtain rfl := hc rfl; go_simp; first | done | with_reducible rfl)
                          clear hS hC
                          intro hS hC
                          try simp only [Act.put, List.getElem_toArray, List.getElem_cons_zero, List.getElem_cons_succ, List.setIfInBounds_toArray, List.set_cons_zero, List.set_cons_succ]
                          refine wpG_take (i := 13) (v := ?_) rfl (by kernel_rfl) (by kernel_rfl) (by kernel_rfl) (by kernel_rfl) (fun _ _ _ h => h) (by decide) (Or.inl ⟨by rfl, ?_⟩) hC hS ?_
                          rotate_left
                          · (intro W hc; obtain rfl := hc rfl; go_simp; first | done | with_reducible rfl)
                          clear hS hC
                          intro hS hC
                          try simp only [Act.put, List.getElem_toArray, List.getElem_cons_zero, List.getElem_cons_succ, List.setIfInBounds_toArray, List.set_cons_zero, List.set_cons_succ]
                          refine wpG_take (i := 14) (v := ?_) rfl (by kernel_rfl) (by kernel_rfl) (by kernel_rfl) (by kernel_rfl) (fun _ _ _ h => h) (by decide) (Or.inl ⟨by rfl, ?_⟩) hC hS ?_
                          rotate_left
                          · (intro W hc; obtain rfl := hc rfl; go_simp; first | done | with_reducible rfl)
                          clear hS hC
                          intro hS hC
                          try simp only [Act.put, List.getElem_toArray, List.getElem_cons_zero, List.getElem_cons_succ, List.setIfInBounds_toArray, List.set_cons_zero, List.set_cons_succ]
                          refine wpG_take (i := 15) (v := ?_) rfl (by kernel_rfl) (by kernel_rfl) (by kernel_rfl) (by kernel_rfl) (fun _ _ _ h => h) (by decide) (Or.inl ⟨by rfl, ?_⟩) hC hS ?_
                          rotate_left
                          · (intro W hc; obtain rfl := hc rfl; go_simp; first | done | with_reducible rfl)
                          clear hS hC
                          intro hS hC
                          try simp only [Act.put, List.getElem_toArray, List.getElem_cons_zero, List.getElem_cons_succ, List.setIfInBounds_toArray, List.set_cons_zero, List.set_cons_succ]
                          refine wpG_take (i := 16) (v := ?_) rfl (by kernel_rfl) (by kernel_rfl) (by kernel_rfl) (by kernel_rfl) (fun _ _ _ h => h) (by decide) (Or.inl ⟨by rfl, ?_⟩) hC hS ?_
                          rotate_left
                          · (intro W hc; obtain rfl := hc rfl; go_simp; first | done | with_reducible rfl)
                          clear hS hC
                          intro hS hC
                          try simp only [Act.put, List.getElem_toArray, List.getElem_cons_zero, List.getElem_cons_succ, List.setIfInBounds_toArray, List.set_cons_zero, List.set_cons_succ]
                          refine wpG_take (i := 17) (v := ?_) rfl (by kernel_rfl) (by kernel_rfl) (by kernel_rfl) (by kernel_rfl) (fun _ _ _ h => h) (by decide) (Or.inl ⟨by rfl, ?_⟩) hC hS ?_
                          rotate_left
                          · (intro W hc; obtain rfl := hc rfl; go_simp; first | done | with_reducible rfl)
                          clear hS hC
                          intro hS hC
                          try simp only [Act.put, List.getElem_toArray, List.getElem_cons_zero, List.getElem_cons_succ, List.setIfInBounds_toArray, List.set_cons_zero, List.set_cons_succ]
                          refine wpG_take (i := 18) (v := ?_) rfl (by kernel_rfl) (by kernel_rfl) (by kernel_rfl) (by kernel_rfl) (fun _ _ _ h => h) (by decide) (Or.inl ⟨by rfl, ?_⟩) hC hS ?_
                          rotate_left
                          · (intro W hc; obtain rfl := hc rfl; go_simp; first | done | with_reducible rfl)
                          clear hS hC
                          intro hS hC
                          try simp only [Act.put, List.getElem_toArray, List.getElem_cons_zero, List.getElem_cons_succ, List.setIfInBounds_toArray, List.set_cons_zero, List.set_cons_succ]
                          refine wpG_take (i := 19) (v := ?_) rfl (by kernel_rfl) (by kernel_rfl) (by kernel_rfl) (by kernel_rfl) (fun _ _ _ h => h) (by decide) (Or.inl ⟨by rfl, ?_⟩) hC hS ?_
                          rotate_left
                          · (intro W hc; obtain rfl := hc rfl; go_simp; first | done | with_reducible rfl)
                          clear hS hC
                          intro hS hC
                          try simp only [Act.put, List.getElem_toArray, List.getElem_cons_zero, List.getElem_cons_succ, List.setIfInBounds_toArray, List.set_cons_zero, List.set_cons_succ]
                          refine wpG_take (i := 20) (v := ?_) rfl (by kernel_rfl) (by kernel_rfl) (by kernel_rfl) (by kernel_rfl) (fun _ _ _ h => h) (by decide) (Or.inl ⟨by rfl, ?_⟩) hC hS ?_
                          rotate_left
                          · (intro W hc; obtain rfl := hc rfl; go_simp; first | done | with_reducible rfl)
                          clear hS hC
                          intro hS hC
                          try simp only [Act.put, List.getElem_toArray, List.getElem_cons_zero, List.getElem_cons_succ, List.setIfInBounds_toArray, List.set_cons_zero, List.set_cons_succ]
                          refine wpG_take (i := 21) (v := ?_) rfl (by kernel_rfl) (by kernel_rfl) (by kernel_rfl) (by kernel_rfl) (fun _ _ _ h => h) (by decide) (Or.inl ⟨by rfl, ?_⟩) hC hS ?_
                          rotate_left
                          · (intro W hc; obtain rfl := hc rfl; go_simp; first | done | with_reducible rfl)
                          clear hS hC
                          intro hS hC
                          try simp only [Act.put, List.getElem_toArray, List.getElem_cons_zero, List.getElem_cons_succ, List.setIfInBounds_toArray, List.set_cons_zero, List.set_cons_succ]
                          refine wpG_take (i := 22) (v := ?_) rfl (by kernel_rfl) (by kernel_rfl) (by kernel_rfl) (by kernel_rfl) (fun _ _ _ h => h) (by decide) (Or.inl ⟨by rfl, ?_⟩) hC hS ?_
                          rotate_left
                          · (intro W hc; obtain rfl := hc rfl; go_simp; first | done | with_reducible rfl)
                          clear hS hC
                          intro hS hC
                          try simp only [Act.put, List.getElem_toArray, List.getElem_cons_zero, List.getElem_cons_succ, List.setIfInBounds_toArray, List.set_cons_zero, List.set_cons_succ]
                          refine wpG_take (i := 23) (v := ?_) rfl (by kernel_rfl) (by kernel_rfl) (by kernel_rfl) (by kernel_rfl) (fun _ _ _ h => h) (by decide) (Or.inl ⟨by rfl, ?_⟩) hC hS ?_
                          rotate_left
                          · (intro W hc; obtain rfl := hc rfl; go_simp; first | done | with_reducible rfl)
                          clear hS hC
                          intro hS hC
                          try simp only [Act.put, List.getElem_toArray, List.getElem_cons_zero, List.getElem_cons_succ, List.setIfInBounds_toArray, List.set_cons_zero, List.set_cons_succ]
                          refine wpG_take (i := 24) (v := ?_) rfl (by kernel_rfl) (by kernel_rfl) (by kernel_rfl) (by kernel_rfl) (fun _ _ _ h => h) (by decide) (Or.inl ⟨by rfl, ?_⟩) hC hS ?_
                          rotate_left
                          · (intro W hc; obtain rfl := hc rfl; go_simp; first | done | with_reducible rfl)
                          clear hS hC
                          intro hS hC
                          try simp only [Act.put, List.getElem_toArray, List.getElem_cons_zero, List.getElem_cons_succ, List.setIfInBounds_toArray, List.set_cons_zero, List.set_cons_succ]
                          refine wpG_take (i := 25) (v := ?_) rfl (by kernel_rfl) (by kernel_rfl) (by kernel_rfl) (by kernel_rfl) (fun _ _ _ h => h) (by decide) (Or.inl ⟨by rfl, ?_⟩) hC hS ?_
                          rotate_left
                          · (intro W hc; obtain rfl := hc rfl; go_simp; first | done | with_reducible rfl)
                          clear hS hC
                          intro hS hC
                          try simp only [Act.put, List.getElem_toArray, List.getElem_cons_zero, List.getElem_cons_succ, List.setIfInBounds_toArray, List.set_cons_zero, List.set_cons_succ]
                          refine wpG_take (i := 26) (v := ?_) rfl (by kernel_rfl) (by kernel_rfl) (by kernel_rfl) (by kernel_rfl) (fun _ _ _ h => h) (by decide) (Or.inl ⟨by rfl, ?_⟩) hC hS ?_
                          rotate_left
                          · (intro W hc; obtain rfl := hc rfl; go_simp; first | done | with_reducible rfl)
                          clear hS hC
                          intro hS hC
                          try simp only [Act.put, List.getElem_toArray, List.getElem_cons_zero, List.getElem_cons_succ, List.setIfInBounds_toArray, List.set_cons_zero, List.set_cons_succ]
                          refine wpG_take (i := 27) (v := ?_) rfl (by kernel_rfl) (by kernel_rfl) (by kernel_rfl) (by kernel_rfl) (fun _ _ _ h => h) (by decide) (Or.inl ⟨by rfl, ?_⟩) hC hS ?_
                          rotate_left
                          · (intro W hc; obtain rfl := hc rfl; go_simp; first | done | with_reducible rfl)
                          clear hS hC
                          intro hS hC
                          try simp only [Act.put, List.getElem_toArray, List.getElem_cons_zero, List.getElem_cons_succ, List.setIfInBounds_toArray, List.set_cons_zero, List.set_cons_succ]
                          refine wpG_take (i := 28) (v := ?_) rfl (by kernel_rfl) (by kernel_rfl) (by kernel_rfl) (by kernel_rfl) (fun _ _ _ h => h) (by decide) (Or.inl ⟨by rfl, ?_⟩) hC hS ?_
                          rotate_left
                          · (intro W hc; obtain rfl := hc rfl; go_simp; first | done | with_reducible rfl)
                          clear hS hC
                          intro hS hC
                          try simp only [Act.put, List.getElem_toArray, List.getElem_cons_zero, List.getElem_cons_succ, List.setIfInBounds_toArray, List.set_cons_zero, List.set_cons_succ]
                          refine wpG_take (i := 29) (v := ?_) rfl (by kernel_rfl) (by kernel_rfl) (by kernel_rfl) (by kernel_rfl) (fun _ _ _ h => h) (by decide) (Or.inl ⟨by rfl, ?_⟩) hC hS ?_
                          rotate_left
                          · (intro W hc; obtain rfl := hc rfl; go_simp; first | done | with_reducible rfl)
                          clear hS hC
                          intro hS hC
                          try simp only [Act.put, List.getElem_toArray, List.getElem_cons_zero, List.getElem_cons_succ, List.setIfInBounds_toArray, List.set_cons_zero, List.set_cons_succ]
                          refine wpG_take (i := 30) (v := ?_) rfl (by kernel_rfl) (by kernel_rfl) (by kernel_rfl) (by kernel_rfl) (fun _ _ _ h => h) (by decide) (Or.inl ⟨by rfl, ?_⟩) hC hS ?_
                          rotate_left
                          · (intro W hc; obtain rfl := hc rfl; go_simp; first | done | with_reducible rfl)
                          clear hS hC
                          intro hS hC
                          try simp only [Act.put, List.getElem_toArray, List.getElem_cons_zero, List.getElem_cons_succ, List.setIfInBounds_toArray, List.set_cons_zero, List.set_cons_succ]
                          refine wpG_one (i := 31) (by kernel_rfl) rfl hC (fun K hK => ?_)
                          go_simp
                          refine hK.out _ _ (fun h => absurd h (by decide +kernel)) (fun _ _ => ?_)
                          clear hK K hS hC
                          refine wpG_done (by kernel_rfl) ?_ _
                          have HMn : Hid (Mat (wr.setCell ⟨B I, M, none⟩ (.bool tc)).drew w1.heap.size n (.slice (some ⟨gO, 0, none⟩) n vcap) gO B (setG g3 I M tc)) := Lib.hid ((HM4.out tc).fx (S := No) ((Fx.refl No _).drew) (fun _ _ h => h))
                          have HFn : Hid (Fx (fun x => w1.heap.size ≤ x) w1 (wr.setCell ⟨B I, M, none⟩ (.bool tc)).drew) := Lib.hid ((HFm3.out.setCell (.inr HBl.out) _).drew)
                          have HIn : Hid (Inv (edgeP L) n K I (M + 1) (setG g3 I M tc)) := HI4
                          generalize (wr.setCell ⟨B I, M, none⟩ (.bool tc)).drew = wn at *
                          clear k0 r1 r2 s1 s1' s2 s3
                          go_wp2
                          go_roundw
                          case rel => exact ⟨M + 1, _, by go_num, by omega, HFn.out, HMn.out, HIn.out⟩
                          case measure => simp [intOf]; omega
                      · skip
                        go_wp2_with fail
                        refine wp_region_G 31 (fun b W => b = false → W = wr.drew) (by kernel_rfl) (fun _ => rfl) ?_
                        intro hS hC
                        refine wpG_take (i := 0) (v := ?_) rfl (by kernel_rfl) (by kernel_rfl) (by kernel_rfl) (by kernel_rfl) (fun _ _ _ h => h) (by decide) (Or.inl ⟨by rfl, ?_⟩) hC hS ?_
                        rotate_left
                        · (intro W hc; obtain rfl := hc rfl; go_simp; first | done | with_reducible rfl)
                        clear hS hC
                        intro hS hC
                        try simp only [Act.put, List.getElem_toArray, List.getElem_cons_zero, List.getElem_cons_succ, List.setIfInBounds_toArray, List.set_cons_zero, List.set_cons_succ]
                        refine wpG_take (i := 1) (v := ?_) rfl (by kernel_rfl) (by kernel_rfl) (by kernel_rfl) (by kernel_rfl) (fun _ _ _ h => h) (by decide) (Or.inl ⟨by rfl, ?_⟩) hC hS ?_
                        rotate_left
                        · (intro W hc; obtain rfl := hc rfl; go_simp; first | done | with_reducible rfl)
                        clear hS hC
                        intro hS hC
                        try simp only [Act.put, List.getElem_toArray, List.getElem_cons_zero, List.getElem_cons_succ, List.setIfInBounds_toArray, List.set_cons_zero, List.set_cons_succ]
                        refine wpG_take (i := 2) (v := ?_) rfl (by kernel_rfl) (by kernel_rfl) (by kernel_rfl) (by kernel_rfl) (fun _ _ _ h => h) (by decide) (Or.inl ⟨by rfl, ?_⟩) hC hS ?_
                        rotate_left
                        · (intro W hc; obtain rfl := hc rfl; go_simp; first | done | with_reducible rfl)
                        clear hS hC
                        intro hS hC
                        try simp only [Act.put, List.getElem_toArray, List.getElem_cons_zero, List.getElem_cons_succ, List.setIfInBounds_toArray, List.set_cons_zero, List.set_cons_succ]
                        refine wpG_take (i := 3) (v := ?_) rfl (by kernel_rfl) (by kernel_rfl) (by kernel_rfl) (by kernel_rfl) (fun _ _ _ h => h) (by decide) (Or.inl ⟨by rfl, ?_⟩) hC hS ?_
                        rotate_left
                        · (intro W hc; obtain rfl := hc rfl; go_simp; first | done | with_reducible rfl)
                        clear hS hC
                        intro hS hC
                        try simp only [Act.put, List.getElem_toArray, List.getElem_cons_zero, List.getElem_cons_succ, List.setIfInBounds_toArray, List.set_cons_zero, List.set_cons_succ]
                        refine wpG_take (i := 4) (v := ?_) rfl (by kernel_rfl) (by kernel_rfl) (by kernel_rfl) (by kernel_rfl) (fun _ _ _ h => h) (by decide) (Or.inl ⟨by rfl, ?_⟩) hC hS ?_
                        rotate_left
                        · (intro W hc; obtain rfl := hc rfl; go_simp; first | done | with_reducible rfl)
                        clear hS hC
                        intro hS hC
                        try simp only [Act.put, List.getElem_toArray, List.getElem_cons_zero, List.getElem_cons_succ, List.setIfInBounds_toArray, List.set_cons_zero, List.set_cons_succ]
                        refine wpG_take (i := 5) (v := ?_) rfl (by kernel_rfl) (by kernel_rfl) (by kernel_rfl) (by kernel_rfl) (fun _ _ _ h => h) (by decide) (Or.inl ⟨by rfl, ?_⟩) hC hS ?_
                        rotate_left
                        · (intro W hc; obtain rfl := hc rfl; go_simp; first | done | with_reducible rfl)
                        clear hS hC
                        intro hS hC
                        try simp only [Act.put, List.getElem_toArray, List.getElem_cons_zero, List.getElem_cons_succ, List.setIfInBounds_toArray, List.set_cons_zero, List.set_cons_succ]
                        refine wpG_take (i := 6) (v := ?_) rfl (by kernel_rfl) (by kernel_rfl) (by kernel_rfl) (by kernel_rfl) (fun _ _ _ h => h) (by decide) (Or.inl ⟨by rfl, ?_⟩) hC hS ?_
                        rotate_left
                        · (intro W hc; obtain rfl := hc rfl; go_simp; first | done | with_reducible rfl)
                        clear hS hC
                        intro hS hC
                        try simp only [Act.put, List.getElem_toArray, List.getElem_cons_zero, List.getElem_cons_succ, List.setIfInBounds_toArray, List.set_cons_zero, List.set_cons_succ]
                        refine wpG_take (i := 7) (v := ?_) rfl (by kernel_rfl) (by kernel_rfl) (by kernel_rfl) (by kernel_rfl) (fun _ _ _ h => h) (by decide) (Or.inl ⟨by rfl, ?_⟩) hC hS ?_
                        rotate_left
                        · (intro W hc; obtain rfl := hc rfl; go_simp; first | done | with_reducible rfl)
                        clear hS hC
                        intro hS hC
                        try simp only [Act.put, List.getElem_toArray, List.getElem_cons_zero, List.getElem_cons_succ, List.setIfInBounds_toArray, List.set_cons_zero, List.set_cons_succ]
                        refine wpG_take (i := 8) (v := ?_) rfl (by kernel_rfl) (by kernel_rfl) (by kernel_rfl) (by kernel_rfl) (fun _ _ _ h => h) (by decide) (Or.inl ⟨by rfl, ?_⟩) hC hS ?_
                        rotate_left
                        · (intro W hc; obtain rfl := hc rfl; go_simp; first | done | with_reducible rfl)
                        clear hS hC
                        intro hS hC
                        try simp only [Act.put, List.getElem_toArray, List.getElem_cons_zero, List.getElem_cons_succ, List.setIfInBounds_toArray, List.set_cons_zero, List.set_cons_succ]
                        refine wpG_take (i := 9) (v := ?_) rfl (by kernel_rfl) (by kernel_rfl) (by kernel_rfl) (by kernel_rfl) (fun _ _ _ h => h) (by decide) (Or.inl ⟨by rfl, ?_⟩) hC hS ?_
                        rotate_left
                        · (intro W hc; obtain rfl := hc rfl; go_simp; first | done | with_reducible rfl)
                        clear hS hC
                        intro hS hC
                        try simp only [Act.put, List.getElem_toArray, List.getElem_cons_zero, List.getElem_cons_succ, List.setIfInBounds_toArray, List.set_cons_zero, List.set_cons_succ]
                        refine wpG_take (i := 10) (v := ?_) rfl (by kernel_rfl) (by kernel_rfl) (by kernel_rfl) (by kernel_rfl) (fun _ _ _ h => h) (by decide) (Or.inl ⟨by rfl, ?_⟩) hC hS ?_
                        rotate_left
                        · (intro W hc; obtain rfl := hc rfl; go_simp; first | done | with_reducible rfl)
                        clear hS hC
                        intro hS hC
                        try simp only [Act.put, List.getElem_toArray, List.getElem_cons_zero, List.getElem_cons_succ, List.setIfInBounds_toArray, List.set_cons_zero, List.set_cons_succ]
                        refine wpG_take (i := 11) (v := ?_) rfl (by kernel_rfl) (by kernel_rfl) (by kernel_rfl) (by kernel_rfl) (fun _ _ _ h => h) (by decide) (Or.inl ⟨by rfl, ?_⟩) hC hS ?_
                        rotate_left
                        · (intro W hc; obtain rfl := hc rfl; go_simp; first | done | with_reducible rfl)
                        clear hS hC
                        intro hS hC
                        try simp only [Act.put, List.getElem_toArray, List.getElem_cons_zero, List.getElem_cons_succ, List.setIfInBounds_toArray, List.set_cons_zero, List.set_cons_succ]
                        refine wpG_take (i := 12) (v := ?_) rfl (by kernel_rfl) (by kernel_rfl) (by kernel_rfl) (by kernel_rfl) (fun _ _ _ h => h) (by decide) (Or.inl ⟨by rfl, ?_⟩) hC hS ?_
                        rotate_left
                        · (intro W hc; obtain rfl := hc rfl; go_simp; first | done | with_reducible rfl)
                        clear hS hC
                        intro hS hC
                        try simp only [Act.put, List.getElem_toArray, List.getElem_cons_zero, List.getElem_cons_succ, List.setIfInBounds_toArray, List.set_cons_zero, List.set_cons_succ]
                        refine wpG_take (i := 13) (v := undef) rfl (by kernel_rfl) (by kernel_rfl) (by kernel_rfl) (by kernel_rfl) (fun _ _ _ h => h) (by decide) (Or.inr ⟨by rfl, rfl⟩) hC hS ?_
                        clear hS hC
                        intro hS hC
                        try simp only [Act.put, List.getElem_toArray, List.getElem_cons_zero, List.getElem_cons_succ, List.setIfInBounds_toArray, List.set_cons_zero, List.set_cons_succ]
                        refine wpG_take (i := 14) (v := undef) rfl (by kernel_rfl) (by kernel_rfl) (by kernel_rfl) (by kernel_rfl) (fun _ _ _ h => h) (by decide) (Or.inr ⟨by rfl, rfl⟩) hC hS ?_
                        clear hS hC
                        intro hS hC
                        try simp only [Act.put, List.getElem_toArray, List.getElem_cons_zero, List.getElem_cons_succ, List.setIfInBounds_toArray, List.set_cons_zero, List.set_cons_succ]
                        refine wpG_take (i := 15) (v := undef) rfl (by kernel_rfl) (by kernel_rfl) (by kernel_rfl) (by kernel_rfl) (fun _ _ _ h => h) (by decide) (Or.inr ⟨by rfl, rfl⟩) hC hS ?_
                        clear hS hC
                        intro hS hC
                        try simp only [Act.put, List.getElem_toArray, List.getElem_cons_zero, List.getElem_cons_succ, List.setIfInBounds_toArray, List.set_cons_zero, List.set_cons_succ]
                        refine wpG_take (i := 16) (v := undef) rfl (by kernel_rfl) (by kernel_rfl) (by kernel_rfl) (by kernel_rfl) (fun _ _ _ h => h) (by decide) (Or.inr ⟨by rfl, rfl⟩) hC hS ?_
                        clear hS hC
                        intro hS hC
                        try simp only [Act.put, List.getElem_toArray, List.getElem_cons_zero, List.getElem_cons_succ, List.setIfInBounds_toArray, List.set_cons_zero, List.set_cons_succ]
                        refine wpG_take (i := 17) (v := undef) rfl (by kernel_rfl) (by kernel_rfl) (by kernel_rfl) (by kernel_rfl) (fun _ _ _ h => h) (by decide) (Or.inr ⟨by rfl, rfl⟩) hC hS ?_
                        clear hS hC
                        intro hS hC
                        try simp only [Act.put, List.getElem_toArray, List.getElem_cons_zero, List.getElem_cons_succ, List.setIfInBounds_toArray, List.set_cons_zero, List.set_cons_succ]
                        refine wpG_take (i := 18) (v := undef) rfl (by kernel_rfl) (by kernel_rfl) (by kernel_rfl) (by kernel_rfl) (fun _ _ _ h => h) (by decide) (Or.inr ⟨by rfl, rfl⟩) hC hS ?_
                        clear hS hC
                        intro hS hC
                        try simp only [Act.put, List.getElem_toArray, List.getElem_cons_zero, List.getElem_cons_succ, List.setIfInBounds_toArray, List.set_cons_zero, List.set_cons_succ]
                        refine wpG_take (i := 19) (v := undef) rfl (by kernel_rfl) (by kernel_rfl) (by kernel_rfl) (by kernel_rfl) (fun _ _ _ h => h) (by decide) (Or.inr ⟨by rfl, rfl⟩) hC hS ?_
                        clear hS hC
                        intro hS hC
                        try simp only [Act.put, List.getElem_toArray, List.getElem_cons_zero, List.getElem_cons_succ, List.setIfInBounds_toArray, List.set_cons_zero, List.set_cons_succ]
                        refine wpG_take (i := 20) (v := undef) rfl (by kernel_rfl) (by kernel_rfl) (by kernel_rfl) (by kernel_rfl) (fun _ _ _ h => h) (by decide) (Or.inr ⟨by rfl, rfl⟩) hC hS ?_
                        clear hS hC
                        intro hS hC
                        try simp only [Act.put, List.getElem_toArray, List.getElem_cons_zero, List.getElem_cons_succ, List.setIfInBounds_toArray, List.set_cons_zero, List.set_cons_succ]
                        refine wpG_take (i := 21) (v := undef) rfl (by kernel_rfl) (by kernel_rfl) (by kernel_rfl) (by kernel_rfl) (fun _ _ _ h => h) (by decide) (Or.inr ⟨by rfl, rfl⟩) hC hS ?_
                        clear hS hC
                        intro hS hC
                        try simp only [Act.put, List.getElem_toArray, List.getElem_cons_zero, List.getElem_cons_succ, List.setIfInBounds_toArray, List.set_cons_zero, List.set_cons_succ]
                        refine wpG_take (i := 22) (v := undef) rfl (by kernel_rfl) (by kernel_rfl) (by kernel_rfl) (by kernel_rfl) (fun _ _ _ h => h) (by decide) (Or.inr ⟨by rfl, rfl⟩) hC hS ?_
                        clear hS hC
                        intro hS hC
                        try simp only [Act.put, List.getElem_toArray, List.getElem_cons_zero, List.getElem_cons_succ, List.setIfInBounds_toArray, List.set_cons_zero, List.set_cons_succ]
                        refine wpG_take (i := 23) (v := undef) rfl (by kernel_rfl) (by kernel_rfl) (by kernel_rfl) (by kernel_rfl) (fun _ _ _ h => h) (by decide) (Or.inr ⟨by rfl, rfl⟩) hC hS ?_
                        clear hS hC
                        intro hS hC
                        try simp only [Act.put, List.getElem_toArray, List.getElem_cons_zero, List.getElem_cons_succ, List.setIfInBounds_toArray, List.set_cons_zero, List.set_cons_succ]
                        refine wpG_take (i := 24) (v := undef) rfl (by kernel_rfl) (by kernel_rfl) (by kernel_rfl) (by kernel_rfl) (fun _ _ _ h => h) (by decide) (Or.inr ⟨by rfl, rfl⟩) hC hS ?_
                        clear hS hC
                        intro hS hC
                        try simp only [Act.put, List.getElem_toArray, List.getElem_cons_zero, List.getElem_cons_succ, List.setIfInBounds_toArray, List.set_cons_zero, List.set_cons_succ]
                        refine wpG_take (i := 25) (v := undef) rfl (by kernel_rfl) (by kernel_rfl) (by kernel_rfl) (by kernel_rfl) (fun _ _ _ h => h) (by decide) (Or.inr ⟨by rfl, rfl⟩) hC hS ?_
                        clear hS hC
                        intro hS hC
                        try simp only [Act.put, List.getElem_toArray, List.getElem_cons_zero, List.getElem_cons_succ, List.setIfInBounds_toArray, List.set_cons_zero, List.set_cons_succ]
                        refine wpG_take (i := 26) (v := undef) rfl (by kernel_rfl) (by kernel_rfl) (by kernel_rfl) (by kernel_rfl) (fun _ _ _ h => h) (by decide) (Or.inr ⟨by rfl, rfl⟩) hC hS ?_
                        clear hS hC
                        intro hS hC
                        try simp only [Act.put, List.getElem_toArray, List.getElem_cons_zero, List.getElem_cons_succ, List.setIfInBounds_toArray, List.set_cons_zero, List.set_cons_succ]
                        refine wpG_take (i := 27) (v := undef) rfl (by kernel_rfl) (by kernel_rfl) (by kernel_rfl) (by kernel_rfl) (fun _ _ _ h => h) (by decide) (Or.inr ⟨by rfl, rfl⟩) hC hS ?_
                        clear hS hC
                        intro hS hC
                        try simp only [Act.put, List.getElem_toArray, List.getElem_cons_zero, List.getElem_cons_succ, List.setIfInBounds_toArray, List.set_cons_zero, List.set_cons_succ]
                        refine wpG_take (i := 28) (v := undef) rfl (by kernel_rfl) (by kernel_rfl) (by kernel_rfl) (by kernel_rfl) (fun _ _ _ h => h) (by decide) (Or.inr ⟨by rfl, rfl⟩) hC hS ?_
                        clear hS hC
                        intro hS hC
                        try simp only [Act.put, List.getElem_toArray, List.getElem_cons_zero, List.getElem_cons_succ, List.setIfInBounds_toArray, List.set_cons_zero, List.set_cons_succ]
                        refine wpG_take (i := 29) (v := ?_) rfl (by kernel_rfl) (by kernel_rfl) (by kernel_rfl) (by kernel_rfl) (fun _ _ _ h => h) (by decide) (Or.inl ⟨by rfl, ?_⟩) hC hS ?_
                        rotate_left
                        · (intro W hc; obtain rfl := hc rfl; go_simp; first | done | with_reducible rfl)
                        clear hS hC
                        intro hS hC
                        try simp only [Act.put, List.getElem_toArray, List.getElem_cons_zero, List.getElem_cons_succ, List.setIfInBounds_toArray, List.set_cons_zero, List.set_cons_succ]
                        refine wpG_take (i := 30) (v := ?_) rfl (by kernel_rfl) (by kernel_rfl) (by kernel_rfl) (by kernel_rfl) (fun _ _ _ h => h) (by decide) (Or.inl ⟨by rfl, ?_⟩) hC hS ?_
                        rotate_left
                        · (intro W hc; obtain rfl := hc rfl; go_simp; first | done | with_reducible rfl)
                        clear hS hC
                        intro hS hC
                        try simp only [Act.put, List.getElem_toArray, List.getElem_cons_zero, List.getElem_cons_succ, List.setIfInBounds_toArray, List.set_cons_zero, List.set_cons_succ]
                        refine wpG_one (i := 31) (by kernel_rfl) rfl hC (fun K hK => ?_)
                        go_simp
                        refine hK.out _ _ (fun h => absurd h (by decide +kernel)) (fun _ _ => ?_)
                        clear hK K hS hC
                        refine wpG_done (by kernel_rfl) ?_ _
                        have HMn : Hid (Mat (wr.setCell ⟨B I, M, none⟩ (.bool true)).drew w1.heap.size n (.slice (some ⟨gO, 0, none⟩) n vcap) gO B (setG g3 I M true)) := Lib.hid ((HM4.out true).fx (S := No) ((Fx.refl No _).drew) (fun _ _ h => h))
                        have HFn : Hid (Fx (fun x => w1.heap.size ≤ x) w1 (wr.setCell ⟨B I, M, none⟩ (.bool true)).drew) := Lib.hid ((HFm3.out.setCell (.inr HBl.out) _).drew)
                        have HIn : Hid (Inv (edgeP L) n K I (M + 1) (setG g3 I M true)) := HI4
                        generalize (wr.setCell ⟨B I, M, none⟩ (.bool true)).drew = wn at *
                        clear k0 r1 r2 s1 s1' s2 s3
                        go_wp2
                        go_roundw
                        case rel => exact ⟨M + 1, _, by go_num, by omega, HFn.out, HMn.out, HIn.out⟩
                        case measure => simp [intOf]; omega
                    · obtain rfl : n = M := by omega
                      go_wp2
                      go_roundw
                      case rel => exact ⟨I + 1, g3, by go_num, by omega, HFm3.out, HM3.out, HI3.out.row⟩
                      case measure => simp [intOf]; omega
                · obtain rfl : n = I := by omega
                  go_wp2
                  go_roundw
                  case rel => exact ⟨K + 1, g2, by go_num, by omega, HFi.out, HMi.out, HIi.out.round⟩
                  case measure => simp [intOf]; omega
            · obtain rfl : n = K := by omega
              go_wp2
              go_ret
              exact ⟨_, gO, B, g1, rfl, HF.out.trans' HFk.out (fun j h1 h2 => by have h1 : w1.heap.size ≤ j := h1; omega), HMk.out.lower hcw, HI.out.done HeL.out⟩
end
#print axioms refAll_any
end Go.Proofs.YtfpggeiphbekoaaDoor
