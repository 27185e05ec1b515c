/- Contract: slices.Delete of one int. -/
import Derived.Test.YtddpdjbgidmdlaaRev
import Derived.Deep.RegionLaw
import Derived.Lib.SliceRun
import Derived.Laws.IdiomCopy
namespace Go.Proofs.Ytddpdjbgidmdlaa
open Go.RowKit
set_option linter.unusedVariables false

theorem Fx.setCells (g : Nat) : ∀ (vs : List Value) (o : Nat) (w : World), Fx (fun j => j = g) w (w.setCells g o vs)
  | [], _, _ => Fx.refl _ _
  | v :: r, o, w => (Fx.put w g o v).trans (Fx.setCells g r (o + 1) _)
theorem gi_erase {l : List Int} {i j : Nat} (h : j + 1 < l.length) : gi (l.eraseIdx i) j = if j < i then gi l j else gi l (j + 1) := by
  by_cases hji : j < i
  · rw [if_pos hji]; simp [gi, List.getD, List.getElem?_eraseIdx, hji]
  · rw [if_neg hji]; simp [gi, List.getD, List.getElem?_eraseIdx, hji]
set_option maxHeartbeats 4000000 in
set_option maxRecDepth 100000 in
theorem delete_any {w : World} {g o n cap i : Nat} {l : List Int} (h : CellsI w g o l) (hn : n = l.length) (hi : i < n) (hcap : n ≤ cap) (hm : cap ≤ 9223372036854775807) :
    Calls Try.prog 40 #[.slice (some ⟨g, o, none⟩) n cap, .int .i64 (i : Int), .int .i64 ((i : Int) + 1)] w fun e w' => e = .returned (.slice (some ⟨g, o, none⟩) (n - 1) cap) ∧ Fx (fun k => k = g) w w' ∧ CellsI w' g o (l.eraseIdx i) := by
  obtain ⟨i0, hi0, hz0, hz1, hz2⟩ := info_parts info_int
  obtain ⟨news, hnews⟩ : ∃ news, news = ints (l.drop (i + 1)) := ⟨_, rfl⟩
  have hlen : news.length = n - (i + 1) := by rw [hnews]; simp [ints]; omega
  have hget : ∀ t, t < n - (i + 1) → news[t]? = some (.int .i64 (gi l (i + 1 + t))) := by
    intro t ht
    have : i + 1 + t < l.length := by omega
    simp [hnews, ints, gi, this]
  obtain ⟨A, hA, hsrc⟩ : ∃ A : Addr, (if cap = i + 1 then some (⟨g, o, none⟩ : Addr) else some ⟨g, o + (i + 1), none⟩) = some A ∧ Hid (∀ t u, news[t]? = some u → w.drew.cell? (A.add t) = some u) := by
    by_cases h9 : cap = i + 1
    · refine ⟨⟨g, o, none⟩, by simp [h9], fun t u hu => ?_⟩
      have h0 : news.length = 0 := by rw [hlen]; omega
      rw [List.length_eq_zero_iff.1 h0] at hu
      simp at hu
    · refine ⟨⟨g, o + (i + 1), none⟩, by simp [h9], fun t u hu => ?_⟩
      have ht : t < n - (i + 1) := by
        have := (List.getElem?_eq_some_iff.1 hu).1
        rwa [hlen] at this
      rw [hget t ht] at hu
      rw [Addr.add_lit, show o + (i + 1) + t = o + (i + 1 + t) by omega]
      exact (h (i + 1 + t) (by omega)).1.trans hu
  have s1 : Hid (news.length = (n - (i + 1)) * 1) := by rw [Nat.mul_one]; exact hlen
  have s2 : Hid (∀ u ∈ news, u.oneCell' = true) := by
    intro u hu
    rw [hnews] at hu
    obtain ⟨x, _, rfl⟩ := List.mem_map.1 hu
    rfl
  have s3 : Hid (∀ t, t < news.length → (w.drew.cell? ⟨g, o + i * 1 + t, none⟩).isSome = true ∧ w.drew.frozen? ⟨g, o + i * 1 + t, none⟩ = false) := by
    intro t ht
    rw [hlen] at ht
    rw [Nat.mul_one, Nat.add_assoc]
    exact ⟨by show (w.cell? _).isSome = true; rw [(h (i + t) (by omega)).1]; rfl, (h (i + t) (by omega)).2⟩
  obtain ⟨W1, hW1⟩ : ∃ W1, W1 = w.drew.setCells g (o + i * 1) news := ⟨_, rfl⟩
  obtain ⟨N, hN⟩ : ∃ N, n = N + 1 := ⟨n - 1, by omega⟩
  have hso : ∀ t, t < n → (w.drew.cell? ⟨g, o + t, none⟩).isSome = true := fun t ht => by show (w.cell? _).isSome = true; rw [(h t (by omega)).1]; rfl
  have h1c : ∀ j, j < n → W1.cell? ⟨g, o + j, none⟩ = some (.int .i64 (if j < i then gi l j else if j + 1 < n then gi l (j + 1) else gi l j)) := by
    intro j hj
    rw [hW1, Nat.mul_one]
    by_cases h2 : j < i
    · rw [if_pos h2, World.cell?_setCells_out g news (o + i) _ _ (fun _ _ => .inl (by show o + j < o + i; omega))]
      exact (h j (by omega)).1
    · rw [if_neg h2]
      by_cases h3 : j + 1 < n
      · rw [if_pos h3]
        have := World.cell?_setCells_in g news (o + i) w.drew (fun t ht => by rw [hlen] at ht; have := hso (i + t) (by omega); rwa [← Nat.add_assoc] at this) (j - i) (by rw [hlen]; omega)
        rw [show o + i + (j - i) = o + j by omega] at this
        rw [this]
        have h4 := hget (j - i) (by omega)
        rw [List.getElem?_eq_getElem (by rw [hlen]; omega)] at h4
        rw [h4, show i + 1 + (j - i) = j + 1 by omega]
      · rw [if_neg h3, World.cell?_setCells_out g news (o + i) _ _ (fun _ _ => .inr (by show o + i + news.length ≤ o + j; rw [hlen]; omega))]
        exact (h j (by omega)).1
  have h1f : ∀ j, j < n → W1.frozen? ⟨g, o + j, none⟩ = false := by
    intro j hj
    rw [hW1, World.frozen?_setCells]
    exact (h j (by omega)).2
  have hF1 : Fx (fun k => k = g) w W1 := by rw [hW1]; exact ((Fx.refl _ w).drew).trans (Fx.setCells g _ _ _)
  have HF1 := Lib.hid hF1
  have H1c := Lib.hid h1c
  have H1f := Lib.hid h1f
  have HFin : Hid (Fx (fun k => k = g) w (W1.setCells g (o + (i + (n - (i + 1)))) (List.replicate (n - (i + (n - (i + 1)))) (.int .i64 0))) ∧ CellsI (W1.setCells g (o + (i + (n - (i + 1)))) (List.replicate (n - (i + (n - (i + 1)))) (.int .i64 0))) g o (l.eraseIdx i)) := by
    refine ⟨hF1.trans (Fx.setCells g _ _ _), fun j hj => ?_⟩
    have hj' : j + 1 < n := by rw [List.length_eraseIdx_of_lt (by omega)] at hj; omega
    rw [World.frozen?_setCells, World.cell?_setCells_out g _ _ _ _ (fun _ _ => .inl (by show o + j < o + (i + (n - (i + 1))); omega)), h1c j (by omega)]
    refine ⟨?_, h1f j (by omega)⟩
    rw [gi_erase (by omega)]
    by_cases h2 : j < i
    · rw [if_pos h2, if_pos h2]
    · rw [if_neg h2, if_neg h2, if_pos hj']
  have hv : ∀ w, (zeroValue 3).run Try.prog w = .ok (.int .i64 0) w := Try.zeroValue3
  have hcl : ∀ ty, (Builtin.clear_ #[29] ty #[.slice (some ⟨g, o + (i + (n - (i + 1))), none⟩) (n - (i + (n - (i + 1)))) (cap - (i + (n - (i + 1))))]).run Try.prog W1 = .ok (.tuple #[]) (W1.setCells g (o + (i + (n - (i + 1)))) (List.replicate (n - (i + (n - (i + 1)))) (.int .i64 0))) :=
    fun ty => Lib.run_clear_slice W1 _ _ ty _ Try.underlying29 hv rfl rfl g _ _ _ (by omega) (fun t ht => by rw [show o + (i + (n - (i + 1))) + t = o + (i + (n - (i + 1)) + t) by omega, h1c _ (by omega)]; rfl) (fun t ht => by rw [show o + (i + (n - (i + 1))) + t = o + (i + (n - (i + 1)) + t) by omega]; exact h1f _ (by omega))
  have hW : Hid (W1 = w.drew.setCells g (o + i * 1) news) := hW1
  have hic : i ≤ cap := by omega
  have hjc : i + 1 ≤ cap := by omega
  have hjn : i + 1 ≤ n := by omega
  have hne : ((i : Int) == (i : Int) + 1) = false := by simp; omega
  have hp0 : (0 : Int) ≤ (i : Int) + 1 := by omega
  have hp1 : (i : Int) + 1 ≤ (n : Int) := by omega
  have hp2 : ((i : Int) + 1).toNat = i + 1 := by omega
  clear hW1 h1c h1f hF1 hget hlen hnews hso hN h hn
  go_enter Try.func40, Try.ntmps40
  go_wp2_with fail
  go_region_law (refine step_append_room rfl (.tmp 22) (.tmp 25) 29 rfl 3 i0 1 Try.underlying29 hi0 hz1 g o i cap (by simp [Act.eval, Act.put]) A (n - (i + 1)) (cap - (i + 1)) news (by simp [Act.eval, Act.put]) s1.out hsrc.out s2.out (by omega) s3.out ?_; rw [← hW.out])
  go_wp2
  go_ret
  exact ⟨by rw [show n - 1 = i + (n - (i + 1)) by omega]; rfl, HFin.out⟩
end Go.Proofs.Ytddpdjbgidmdlaa
