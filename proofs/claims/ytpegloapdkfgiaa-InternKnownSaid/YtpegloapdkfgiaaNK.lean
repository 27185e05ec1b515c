/- intern: the document's tables: rows of pairs; names, one that is found, more. -/
import Derived.Test.YtpegloapdkfgiaaNDoor
import Derived.Test.YtpegloapdkfgiaaNEq
import Derived.Laws.ResultCell
namespace Go.Proofs.Ytpegloapdkfgiaa
open Go.RowKit
set_option linter.unusedVariables false

def gp (L : List (Int × Int)) (k : Nat) : Int × Int := L.getD k (0, 0)
theorem gp_mem {L : List (Int × Int)} {k : Nat} (h : k < L.length) : gp L k ∈ L := by simp [gp, List.getD, h]
theorem gp_get? {L : List (Int × Int)} {k : Nat} (h : k < L.length) : L[k]? = some (gp L k) := by simp [gp, List.getD, h]
theorem take_gp {L : List (Int × Int)} {k : Nat} (h : k < L.length) : L.take (k + 1) = L.take k ++ [gp L k] := by
  rw [List.take_succ_eq_append_getElem h]; simp [gp, List.getD, h]
abbrev PaV (w : World) (D : Nat → Prop) (v : Value) (L : List (Int × Int)) : Prop := NamV kP w D v L
theorem PaV.facts {w : World} {D : Nat → Prop} {v : Value} {L : List (Int × Int)} (h : PaV w D v L) :
    ∃ ao cap, v = .slice ao L.length cap ∧ L.length ≤ cap ∧ cap ≤ 9223372036854775807 ∧ ∀ k, k < L.length → ∃ b o, ao = some ⟨b, o, none⟩ ∧ D b ∧ w.cell? ⟨b, o + k * 2, none⟩ = some (.int .u64 (gp L k).1) ∧ w.cell? ⟨b, o + k * 2 + 1, none⟩ = some (.int .u64 (gp L k).2) := by
  obtain ⟨ao, cap, h1, h2, h3, h4⟩ := NamV.facts fitP h
  refine ⟨ao, cap, h1, h2, h3, fun k hk => ?_⟩
  obtain ⟨b, o, h5, h6, h7⟩ := h4 k (gp L k) (gp_get? hk)
  exact ⟨b, o, h5, h6, by simpa [kP] using h7 0 _ rfl, by simpa [kP, Nat.add_assoc] using h7 1 _ rfl⟩
abbrev OwnP (w : World) (base : Nat) (v : Value) (L : List (Int × Int)) : Prop := w.ownsRow base 54 2 v L.length (ncells kP L)
theorem OwnP.row {w : World} {base : Nat} {v : Value} {L : List (Int × Int)} (h : OwnP w base v L) : PaV w (Iv base w.heap.size) v L := SlV.ofOwns h
theorem info_ref : (Try.prog.info? 54).map (fun i => (i.zero, i.size, i.bytes)) = some (some (.agg #[.int .u64 0, .int .u64 0]), 2, 16) := by kernel_rfl
/-- names as pairs -/
def up (L : List Int) : List (Int × Int) := L.map fun x => (x, 0)
theorem up_length (L : List Int) : (up L).length = L.length := by simp [up]
theorem up_inj : ∀ a b : Int, ((a, 0) : Int × Int) = (b, 0) → a = b := fun a b h => by simpa using h
theorem addN_up (L ks : List Int) : addN (up L) (up ks) = up (addN L ks) := (map_addN up_inj L ks).symm
theorem numN_mapP {β γ : Type} [DecidableEq β] [DecidableEq γ] {f : β → γ} (hf : ∀ a b, f a = f b → a = b) (L ks : List β) (n : Int) : numN (L.map f) (ks.map f) n = numN L ks n := by
  rcases List.eq_nil_or_concat ks with rfl | ⟨l, x, rfl⟩
  · rfl
  · rw [List.concat_eq_append, List.map_append, List.map_cons, List.map_nil, numN_snoc, numN_snoc, ← map_addN hf, ix_map hf]
theorem numN_up (L ks : List Int) (n : Int) : numN (up L) (up ks) n = numN L ks n := numN_mapP up_inj L ks n
theorem fnd_up (L : List Int) (x : Int) : fnd (up L) (x, 0) = fnd L x := by
  have h : ((x, 0) : Int × Int) ∈ up L ↔ x ∈ L := by simp [up]
  by_cases hx : x ∈ L
  · rw [fnd_in hx, fnd_in (h.2 hx), up, ix_map up_inj]
  · rw [fnd_out hx, fnd_out fun q => hx (h.1 q)]
theorem isIn_up (L : List Int) (x : Int) : isIn (up L) (x, 0) = isIn L x := by
  have h : ((x, 0) : Int × Int) ∈ up L ↔ x ∈ L := by simp [up]
  by_cases hx : x ∈ L
  · rw [isIn_in hx, isIn_in (h.2 hx)]
  · rw [isIn_out hx, isIn_out fun q => hx (h.1 q)]
theorem gp_up {L : List Int} {k : Nat} (h : k < L.length) : gp (up L) k = (gi L k, 0) := by simp [gp, gi, up, List.getD, h]
section
variable {w : World} {D E : Nat → Prop} {v u : Value} {ks : List Int} {L ps : List (Int × Int)} {x : Int × Int}
set_option maxRecDepth 100000 in
set_option maxHeartbeats 2000000 in
theorem refNames_any (h : NumV w D v ks) (hl : ks.length ≤ 100000) : Calls Try.prog 17 #[v] w fun e w' => ∃ v', e = .returned v' ∧ Fx No w w' ∧ OwnP w' w.heap.size v' (up ks) := by
  obtain ⟨ii, hi, hz, hs, hb⟩ := info_parts info_ref
  obtain ⟨ao, cap, rfl, _, hcm, hc⟩ := NumV.facts h
  have HC := Lib.hid hc
  clear h hc
  go_enter Try.func17, Try.ntmps17
  go_wp2
  go_loopw [3, 4] (fun ov kk ws => ∃ m : Nat, kk = .int .i64 m ∧ m ≤ ks.length ∧ Fx No w ws ∧ ws.ownsRow w.heap.size 54 2 ov m (ncells kP (up (ks.take m)))) (fun _ kk _ => ks.length - (intOf kk).toNat)
  case atStart => exact ⟨0, rfl, by omega, Fx.refl _ _, World.ownsRow_nil _ _ _ _⟩
  case round =>
    obtain ⟨m, rfl, hm, hf, ho⟩ := hrel
    have HF := Lib.hid hf
    have HO := Lib.hid ho
    obtain ⟨wm, hwm⟩ : ∃ x, x = wr := ⟨_, rfl⟩
    subst hwm
    clear hf ho
    by_cases hml : m < ks.length
    · have d1 : decide ((m : Int) < (ks.length : Int)) = true := decide_eq_true (by omega)
      have d1' : decide (m < ks.length) = true := decide_eq_true hml
      obtain ⟨g, o, rfl, _, hcc⟩ := HC.out m hml
      have hcc' := HF.out.cell' hcc (fun h => h)
      have j0 : (0 : Int) ≤ (m : Int) := by omega
      have j1 : (m : Int) < (ks.length : Int) := by omega
      have t1 : w.heap.size ≤ (wm.alloc (.cells #[.int .u64 (gi ks m), .int .u64 0] 54)).heap.size := by
        have := HF.out.size
        simp; omega
      have t2 : One (#[.int .u64 (gi ks m), .int .u64 0] : Array Value).toList := by
        intro u hu
        simp at hu
        rcases hu with rfl | rfl <;> rfl
      have t3 : m + 1 ≤ maxLen := by unfold maxLen; omega
      have t4 : (m + 1) * 16 ≤ 140737488355328 := by omega
      have T1 := Lib.hid t1
      clear t1 hcc
      go_wp2_with (at_builtin; refine wpList_append_kept rfl _ _ 41 rfl w.heap.size 54 Try.underlying41 hi hz hs hb rfl (by decide) rfl (World.ownsRow.alloc HO.out _) rfl (SlV.lit _ 54 #[.int .u64 (gi ks m), .int .u64 0] 2 1 rfl (by unfold maxLen; omega)) t2 (by omega) t3 t4 T1.out ?_)
      intro v2 w6 ho hf _ hbk
      have hown : ∀ j, u3.ownBlock = some j → w.heap.size ≤ j := fun j e => (World.ownsRow.lt HO.out j e).1
      have HO2 : Hid (w6.ownsRow w.heap.size 54 2 v2 (m + 1) (ncells kP (up (ks.take (m + 1))))) := Lib.hid (by
        have e : up (ks.take (m + 1)) = up (ks.take m) ++ [(gi ks m, 0)] := by rw [take_gi hml]; simp [up]
        rw [e, ncells_append]
        exact ho)
      have HF2 : Hid (Fx No w w6) := Lib.hid ((HF.out.alloc _).trans' hf fun j h1 h2 => by have := hown j h1; omega)
      clear ho hf hbk
      go_wp2
      go_roundw
      case rel => exact ⟨m + 1, by first | rfl | go_num, by omega, HF2.out, HO2.out⟩
      case measure => simp [intOf]; omega
    · obtain rfl : m = ks.length := by omega
      have d1 : decide ((ks.length : Int) < (ks.length : Int)) = false := decide_eq_false (by omega)
      have d1' : decide (ks.length < ks.length) = false := decide_eq_false (by omega)
      have HO2 : Hid (OwnP wm w.heap.size u3 (up ks)) := Lib.hid (by
        have := HO.out
        rw [List.take_length] at this
        unfold OwnP
        rw [up_length]; exact this)
      clear hml HO
      go_wp2
      go_ret
      exact ⟨_, rfl, HF.out, HO2.out⟩
theorem fields07 : (Try.prog.fieldsOf 54).toList.map (fun f => (f.name, f.type, f.offset)) = [("A", 0), ("B", 1)].map fun q => (q.1, 23, q.2) := by kernel_rfl
theorem run_eqP (a b : Int × Int) (w : World) : (Op.equalIn 10000 54 (.agg #[.int .u64 a.1, .int .u64 a.2]) (.agg #[.int .u64 b.1, .int .u64 b.2])).run Try.prog w = .ok (decide (a = b)) w := by
  have h := run_eqStructU (P := Try.prog) 9998 w Try.underlying23 (t := 54) (by kernel_rfl) (by kernel_rfl) fields07 [a.1, a.2] [b.1, b.2] rfl rfl (by decide)
  have e : (([a.1, a.2] : List Int) == [b.1, b.2]) = decide (a = b) := by
    rw [Bool.eq_iff_iff, decide_eq_true_iff, beq_iff_eq]
    constructor
    · intro h
      simp only [List.cons.injEq, and_true] at h
      exact Prod.ext h.1 h.2
    · rintro rfl; rfl
  rw [e] at h
  exact h
set_option maxRecDepth 100000 in
set_option maxHeartbeats 2000000 in
theorem refFind_any (h : PaV w D v L) : Calls Try.prog 22 #[v, .agg #[.int .u64 x.1, .int .u64 x.2]] w fun e w' => e = .returned (.tuple #[.int .i64 (fnd L x), .bool (isIn L x)]) ∧ Fx No w w' := by
  obtain ⟨ao, cap, rfl, _, hcm, hc⟩ := PaV.facts h
  have HC := Lib.hid hc
  clear h hc
  go_enter Try.func22, Try.ntmps22
  go_wp2
  go_loopw [6] (fun kk ws => ∃ m : Nat, kk = .int .i64 m ∧ m ≤ L.length ∧ (∀ j, j < m → gp L j ≠ x) ∧ Fx No w ws ∧ ws.cell? ⟨w.heap.size, 0, none⟩ = some (.int .u64 x.1) ∧ ws.cell? ⟨w.heap.size, 1, none⟩ = some (.int .u64 x.2)) (fun kk _ => L.length - (intOf kk).toNat)
  case atStart => exact ⟨0, rfl, by omega, fun j hj => by omega, (Fx.refl No w).alloc _, by go_simp, by go_simp⟩
  case round =>
    obtain ⟨m, rfl, hm, hq, hf, hb0, hb1⟩ := hrel
    have HF := Lib.hid hf
    have HQ := Lib.hid hq
    clear hf hq
    by_cases hml : m < L.length
    · have d1 : decide ((m : Int) < (L.length : Int)) = true := decide_eq_true (by omega)
      have d1' : decide (m < L.length) = true := decide_eq_true hml
      obtain ⟨g, o, rfl, _, hca, hcb⟩ := HC.out m hml
      have hca' := HF.out.cell' hca (fun h => h)
      have hcb' := HF.out.cell' hcb (fun h => h)
      have j0 : (0 : Int) ≤ (m : Int) := by omega
      have j1 : (m : Int) < (L.length : Int) := by omega
      have heq := run_eqP (gp L m) x
      have HB0 := Lib.hid hb0
      have HB1 := Lib.hid hb1
      clear hca hcb
      by_cases he : gp L m = x
      · have hfn : fnd L x = ((m : Nat) : Int) := by
          have hmem : x ∈ L := by rw [← he]; exact gp_mem hml
          rw [fnd_in hmem]
          have h1 := ix_lt hmem
          have h2 := ix_get? hmem
          have h3 : ¬ ix L x < m := fun q => HQ.out _ q (by simp [gp, List.getD, h2])
          have h4 : ∀ (l : List (Int × Int)) (n : Nat), l[n]? = some x → ix l x ≤ n := by
            intro l
            induction l with
            | nil => intro n hn; simp at hn
            | cons y l ih =>
              intro n hn
              unfold ix
              split
              · omega
              · cases n with
                | zero => simp at hn; contradiction
                | succ n => have := ih n (by simpa using hn); omega
          have h5 := h4 L m (by rw [← he]; exact gp_get? hml)
          omega
        have hin : isIn L x = true := isIn_in (by rw [← he]; exact gp_mem hml)
        rw [decide_eq_true he] at heq
        have HFn := Lib.hid hfn
        have HIn := Lib.hid hin
        clear hfn hin
        go_wp2
        go_quiet (fail)
        go_wp2
        go_ret2
        exact ⟨by rw [HFn.out, HIn.out]; rfl, HF.out.drewN _⟩
      · rw [decide_eq_false he] at heq
        go_wp2
        go_quiet (fail)
        go_wp2
        go_roundw
        case rel => exact ⟨m + 1, by first | rfl | go_num, by omega, fun j hj => by
          by_cases e : j = m
          · subst e; exact he
          · exact HQ.out j (by omega), HF.out.drewN _, by have := HB0.out; go_simp, by have := HB1.out; go_simp⟩
        case measure => simp [intOf]; omega
    · obtain rfl : m = L.length := by omega
      have d1 : decide ((L.length : Int) < (L.length : Int)) = false := decide_eq_false (by omega)
      have d1' : decide (L.length < L.length) = false := decide_eq_false (by omega)
      have hno : x ∉ L := fun hx => by
        have h1 := ix_lt hx
        exact HQ.out _ h1 (by simp [gp, List.getD, ix_get? hx])
      have HNo := Lib.hid hno
      clear hno
      go_wp2
      go_ret2
      exact ⟨by rw [fnd_out HNo.out, isIn_out HNo.out]; rfl, HF.out⟩
end
#print axioms refNames_any
#print axioms refFind_any
end Go.Proofs.Ytpegloapdkfgiaa
