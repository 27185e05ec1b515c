/- Contracts: the reference's Inverse; perm.Right, Inverse. -/
import Derived.Test.YtddpdjbgidmdlaaPermA
namespace Go.Proofs.Ytddpdjbgidmdlaa
open Go.RowKit
set_option linter.unusedVariables false

def invL (p : List Int) : List Int := (List.range p.length).map fun i : Nat => placeI p (i : Int)
theorem invL_length (p : List Int) : (invL p).length = p.length := by simp [invL]
def okB (p : List Int) : Bool := decide (okP p)
theorem okB_iff (p : List Int) : okB p = true ↔ okP p := by simp [okB]
theorem okB_false (p : List Int) : okB p = false ↔ ¬ okP p := by simp [okB]
def invR (p : List Int) : List Int := if okP p then invL p else []
theorem rightB_self (p : List Int) : rightB p (p.length : Int) = okB p := by simp [rightB, okB]
def InvR (w : World) (p : List Int) (e : Ending) (w' : World) : Prop := ∃ v', e = .returned (.tuple #[v', .bool (okB p)]) ∧ Fx No w w' ∧ OwnI w' w.heap.size v' (invR p)
theorem refInverse_any {w : World} {D : Nat → Prop} {v : Value} {p : List Int} (h : IntsV w D v p) (hp : p.length ≤ 1000000) :
    Calls Try.prog 26 #[v] w (InvR w p) := by
  obtain ⟨i0, hi, hz, hs, hb⟩ := info_parts info_int
  obtain ⟨ao, cap, rfl, hl, hc⟩ := h.facts
  have H := Lib.hid h
  obtain ⟨len, hlen⟩ : ∃ k, k = p.length := ⟨_, rfl⟩
  rw [← hlen] at hl hp ⊢
  have HLen := Lib.hid hlen
  have H : Hid (IntsV w D (.slice ao len cap) p) := by rw [hlen]; exact H
  have HRS : Hid (rightB p (len : Int) = okB p) := by rw [hlen]; exact Lib.hid (rightB_self p)
  clear hc h hlen
  by_cases hok : okP p
  · have HB : Hid (okB p = true) := (okB_iff p).2 hok
    have HI : Hid (invR p = invL p) := if_pos hok
    clear hok
    go_enter Try.func26, Try.ntmps26
    go_wp2_with fail
    refine (refRight_any H.out _).mono ?_
    rintro e w' ⟨rfl, rfl⟩
    rw [HRS.out, HB.out]
    go_wp2
    go_loopw [4, 5] (fun u i wr => ∃ k : Nat, k ≤ len ∧ i = .int .i64 k ∧ Fx No w wr ∧ OwnI wr w.heap.size u ((invL p).take k)) (fun _ i _ => len - (intOf i).toNat)
    case atStart => exact ⟨0, Nat.zero_le _, rfl, Fx.refl _ _, OwnI.nil _ _⟩
    case round =>
      obtain ⟨k, hk, rfl, hf, ho⟩ := hrel
      have HF := Lib.hid hf
      have HO := Lib.hid ho
      have hll : ((invL p).take k).length ≤ k := List.length_take_le _ _
      clear hf ho
      by_cases hlt : k < len
      · have hzw := HF.out.size
        go_wp2_with fail
        refine (refPlace_any (H.out.no HF.out) _).mono ?_
        rintro e w' ⟨rfl, rfl⟩
        go_wp2_with (at_builtin; refine wpList_append_sl rfl _ _ 29 rfl w.heap.size 3 Try.underlying29 hi hz hs hb rfl (by decide) rfl (World.ownsRow.alloc HO.out _) rfl (SlV.lit wr 3 #[.int .i64 (placeI p k)] 1 1 rfl (by unfold maxLen; omega)) (ints_one [placeI p k]) (by unfold maxLen; omega) (by omega) (by simp; omega) ?_)
        intro u1 w1 hown1 hf1 _
        have HF1 := Lib.hid ((HF.out.alloc (.cells #[.int .i64 (placeI p k)] 3)).trans' hf1 (fun j hj hlt => by have := (World.ownsRow.lt HO.out _ hj).1; omega))
        have HO1 : Hid (OwnI w1 w.heap.size u1 ((invL p).take (k + 1))) := by
          have e1 : (invL p).take (k + 1) = (invL p).take k ++ [placeI p k] := by
            rw [take_gi (by rw [invL_length, ← HLen.out]; exact hlt)]
            congr 2
            have : k < p.length := by rw [← HLen.out]; exact hlt
            simp [gi, invL, this]
          rw [e1]
          unfold OwnI
          rw [List.length_append]
          simpa [ints] using Lib.hid hown1
        clear hown1 hf1
        go_wp2
        go_roundw
        case rel => exact ⟨k + 1, by omega, by go_num, HF1.out, HO1.out⟩
        case measure => simp [intOf]; omega
      · obtain rfl : k = len := by omega
        have ht : (invL p).take k = invL p := by rw [HLen.out, ← invL_length, List.take_length]
        go_wp2
        go_ret2
        exact ⟨_, by rw [HB.out]; rfl, HF.out, by rw [HI.out, ← ht]; exact HO.out⟩
  · have HB : Hid (okB p = false) := (okB_false p).2 hok
    have HI : Hid (invR p = []) := if_neg hok
    clear hok
    go_enter Try.func26, Try.ntmps26
    go_wp2_with fail
    refine (refRight_any H.out _).mono ?_
    rintro e w' ⟨rfl, rfl⟩
    rw [HRS.out, HB.out]
    go_wp2
    go_ret2
    exact ⟨_, by rw [HB.out]; rfl, Fx.refl _ _, by rw [HI.out]; exact OwnI.nil _ _⟩

/-- the truths behind k steps -/
def seenL (p : List Int) (n k : Nat) : List Bool := (List.range n).map fun j : Nat => decide ((j : Int) ∈ p.take k)
theorem seenL_length (p : List Int) (n k : Nat) : (seenL p n k).length = n := by simp [seenL]
theorem seenL_gb {p : List Int} {n k j : Nat} (h : j < n) : gb (seenL p n k) j = decide ((j : Int) ∈ p.take k) := by simp [gb, seenL, h]
theorem seenL_zero (p : List Int) (n : Nat) : seenL p n 0 = List.replicate n false := by
  apply List.ext_getElem
  · simp [seenL]
  · intro i h1 h2; simp [seenL]
theorem seenL_set {p : List Int} {n k x : Nat} (hk : k < p.length) (hx : gi p k = (x : Int)) : (bools (seenL p n k)).set x (.bool true) = bools (seenL p n (k + 1)) := by
  apply List.ext_getElem
  · simp [bools, seenL]
  · intro j h1 h2
    rw [List.getElem_set]
    simp only [bools, seenL, List.getElem_map, List.getElem_range, take_gi hk, List.mem_append, List.mem_singleton, hx]
    by_cases e : x = j
    · subst e; simp
    · have : ¬ (j : Int) = (x : Int) := by omega
      simp [e, this]
theorem not_ok_range {p : List Int} {k : Nat} (hk : k < p.length) (h : ¬ (0 ≤ gi p k ∧ gi p k < p.length)) : ¬ okP p := fun ho => h (((good_iff p).2 ho).1 _ (gi_mem hk))
theorem not_ok_twice {p : List Int} {k : Nat} (hk : k < p.length) (h : gi p k ∈ p.take k) : ¬ okP p := by
  intro ho
  have hn := ((good_iff p).2 ho).2
  have e : p.take (k + 1) = p.take k ++ [gi p k] := take_gi hk
  have hn2 : (p.take (k + 1)).Nodup := hn.sublist (List.take_sublist _ _)
  rw [e, List.nodup_append] at hn2
  exact hn2.2.2 _ h _ (by simp) rfl
theorem ok_of_seen {p : List Int} (h1 : ∀ j, j < p.length → 0 ≤ gi p j ∧ gi p j < p.length) (h2 : ∀ j, j < p.length → gi p j ∉ p.take j) : okP p := by
  refine (good_iff p).1 ⟨fun x hx => ?_, ?_⟩
  · obtain ⟨j, hj, rfl⟩ := List.getElem_of_mem hx
    have := h1 j hj
    simpa [gi, hj] using this
  · have : ∀ k, k ≤ p.length → (p.take k).Nodup := by
      intro k
      induction k with
      | zero => simp
      | succ k ih =>
        intro hk
        rw [take_gi (by omega), List.nodup_append]
        refine ⟨ih (by omega), by simp, ?_⟩
        intro a ha b hb e
        simp only [List.mem_singleton] at hb
        exact h2 k (by omega) (by rw [← hb, ← e]; exact ha)
    have h3 := this p.length (Nat.le_refl _)
    rwa [List.take_length] at h3
#print axioms refInverse_any
#print axioms ok_of_seen
end Go.Proofs.Ytddpdjbgidmdlaa
