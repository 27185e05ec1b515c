/- Numbers of names: plain lists. -/
namespace Go.Proofs.Ytpegloapdkfgiaa

section
variable {α : Type} [DecidableEq α]
/-- a name's number -/
def ix : List α → α → Nat
  | [], _ => 0
  | x :: l, k => if x = k then 0 else ix l k + 1
/-- the table behind one more name -/
def add1 (L : List α) (k : α) : List α := if k ∈ L then L else L ++ [k]
/-- the table behind more names -/
def addN (L : List α) (ks : List α) : List α := ks.foldl add1 L
/-- the last one's number -/
def numN (L : List α) (ks : List α) (n : Int) : Int := (ks.foldl (fun q k => (add1 q.1 k, ((ix (add1 q.1 k) k : Nat) : Int))) (L, n)).2
theorem ix_lt {L : List α} {k : α} (h : k ∈ L) : ix L k < L.length := by
  induction L with
  | nil => simp at h
  | cons x l ih =>
    unfold ix
    split
    · simp
    · rename_i hx
      have := ih (by rcases List.mem_cons.1 h with rfl | h; exact absurd rfl hx; exact h)
      simp; omega
theorem ix_le (L : List α) (k : α) : ix L k ≤ L.length := by
  induction L with
  | nil => simp [ix]
  | cons x l ih => unfold ix; split <;> simp; omega
theorem ix_out {L : List α} {k : α} (h : k ∉ L) : ix L k = L.length := by
  induction L with
  | nil => rfl
  | cons x l ih =>
    simp only [List.mem_cons, not_or] at h
    unfold ix
    rw [if_neg (fun e => h.1 e.symm), ih h.2]; rfl
theorem ix_get? {L : List α} {k : α} (h : k ∈ L) : L[ix L k]? = some k := by
  induction L with
  | nil => simp at h
  | cons x l ih =>
    unfold ix
    split
    · rename_i hx; simp [hx]
    · rename_i hx
      simpa using ih (by rcases List.mem_cons.1 h with rfl | h; exact absurd rfl hx; exact h)
theorem ix_of {L : List α} {k : α} {i : Nat} (hn : L.Nodup) (h : L[i]? = some k) : ix L k = i := by
  induction L generalizing i with
  | nil => simp at h
  | cons x l ih =>
    obtain ⟨h1, h2⟩ := List.nodup_cons.1 hn
    cases i with
    | zero => simp at h; simp [ix, h]
    | succ i =>
      simp at h
      have hm : k ∈ l := List.mem_of_getElem? h
      unfold ix
      rw [if_neg (fun e : x = k => h1 (by rw [e]; exact hm)), ih h2 h]
theorem ix_append_in {L M : List α} {k : α} (h : k ∈ L) : ix (L ++ M) k = ix L k := by
  induction L with
  | nil => simp at h
  | cons x l ih =>
    simp only [List.cons_append]
    unfold ix
    split
    · rfl
    · rename_i hx
      rw [ih (by rcases List.mem_cons.1 h with rfl | h; exact absurd rfl hx; exact h)]
theorem ix_append_out {L M : List α} {k : α} (h : k ∉ L) : ix (L ++ M) k = L.length + ix M k := by
  induction L with
  | nil => simp
  | cons x l ih =>
    simp only [List.mem_cons, not_or] at h
    simp only [List.cons_append]
    unfold ix
    rw [if_neg (fun e => h.1 e.symm), ih h.2]
    cases M <;> simp [ix] <;> omega
theorem mem_add1 {L : List α} {k x : α} : x ∈ add1 L k ↔ x ∈ L ∨ x = k := by
  unfold add1
  split
  · rename_i h; exact ⟨.inl, fun q => q.elim id fun e => e ▸ h⟩
  · simp
theorem add1_in {L : List α} {k : α} (h : k ∈ L) : add1 L k = L := if_pos h
theorem add1_out {L : List α} {k : α} (h : k ∉ L) : add1 L k = L ++ [k] := if_neg h
theorem ix_add1 (L : List α) (k : α) : ix (add1 L k) k = ix L k := by
  unfold add1
  split
  · rfl
  · rename_i h; rw [ix_append_out h, ix_out h]; simp [ix]
theorem ix_add1_ne {L : List α} {k x : α} (h : x ∈ L) : ix (add1 L k) x = ix L x := by
  unfold add1
  split
  · rfl
  · exact ix_append_in h
theorem nodup_add1 {L : List α} {k : α} (h : L.Nodup) : (add1 L k).Nodup := by
  unfold add1
  split
  · exact h
  · rename_i hk
    rw [List.nodup_append]
    exact ⟨h, by simp, fun a ha b hb e => by simp at hb; subst hb; subst e; exact hk ha⟩
theorem length_add1 (L : List α) (k : α) : L.length ≤ (add1 L k).length ∧ (add1 L k).length ≤ L.length + 1 := by
  unfold add1
  split <;> simp
theorem addN_nil (L : List α) : addN L [] = L := rfl
theorem addN_snoc (L ks : List α) (k : α) : addN L (ks ++ [k]) = add1 (addN L ks) k := by simp [addN]
theorem addN_append (L ks ms : List α) : addN L (ks ++ ms) = addN (addN L ks) ms := by simp [addN]
theorem addN_cons (L ks : List α) (k : α) : addN L (k :: ks) = addN (add1 L k) ks := rfl
theorem numN_fst (L ks : List α) (n : Int) : (ks.foldl (fun q k => (add1 q.1 k, ((ix (add1 q.1 k) k : Nat) : Int))) (L, n)).1 = addN L ks := by
  induction ks generalizing L n with
  | nil => rfl
  | cons k ks ih => simp only [List.foldl_cons]; rw [ih]; rfl
theorem numN_nil (L : List α) (n : Int) : numN L [] n = n := rfl
theorem numN_snoc (L ks : List α) (k : α) (n : Int) : numN L (ks ++ [k]) n = ((ix (addN L ks) k : Nat) : Int) := by
  unfold numN
  rw [List.foldl_append, List.foldl_cons, List.foldl_nil, numN_fst, ix_add1]
theorem nodup_addN {L : List α} (ks : List α) (h : L.Nodup) : (addN L ks).Nodup := by
  induction ks generalizing L with
  | nil => exact h
  | cons k ks ih => rw [addN_cons]; exact ih (nodup_add1 h)
theorem mem_addN {L : List α} {ks : List α} {x : α} : x ∈ addN L ks ↔ x ∈ L ∨ x ∈ ks := by
  induction ks generalizing L with
  | nil => simp [addN]
  | cons k ks ih => rw [addN_cons, ih, mem_add1]; simp [or_assoc]
theorem length_addN (L ks : List α) : L.length ≤ (addN L ks).length ∧ (addN L ks).length ≤ L.length + ks.length := by
  induction ks generalizing L with
  | nil => simp [addN]
  | cons k ks ih =>
    rw [addN_cons]
    have h1 := ih (add1 L k)
    have h2 := length_add1 L k
    simp; omega
theorem prefix_add1 (L : List α) (k : α) : ∃ M, add1 L k = L ++ M := by
  unfold add1
  split
  · exact ⟨[], by simp⟩
  · exact ⟨[k], rfl⟩
theorem prefix_addN (L ks : List α) : ∃ M, addN L ks = L ++ M := by
  induction ks generalizing L with
  | nil => exact ⟨[], by simp [addN]⟩
  | cons k ks ih =>
    rw [addN_cons]
    obtain ⟨M, h⟩ := ih (add1 L k)
    obtain ⟨M2, h2⟩ := prefix_add1 L k
    exact ⟨M2 ++ M, by rw [h, h2, List.append_assoc]⟩
/-- a table's names again are that table -/
theorem addN_self {ks : List α} (h : ks.Nodup) : addN [] ks = ks := by
  suffices H : ∀ (L ks : List α), (L ++ ks).Nodup → addN L ks = L ++ ks by simpa using H [] ks (by simpa using h)
  intro L ks
  induction ks generalizing L with
  | nil => intro _; simp [addN]
  | cons k ks ih =>
    intro hn
    have hk : k ∉ L := fun hk => by
      rw [List.nodup_append] at hn
      exact hn.2.2 k hk k (by simp) rfl
    rw [addN_cons, add1_out hk, ih _ (by simpa using hn)]
    simp
/-- alike but for names -/
theorem map_add1 {β : Type} [DecidableEq β] {f : α → β} (hf : ∀ a b, f a = f b → a = b) (L : List α) (k : α) : (add1 L k).map f = add1 (L.map f) (f k) := by
  unfold add1
  have : f k ∈ L.map f ↔ k ∈ L := by
    rw [List.mem_map]
    exact ⟨fun ⟨a, ha, e⟩ => hf _ _ e ▸ ha, fun h => ⟨k, h, rfl⟩⟩
  by_cases h : k ∈ L
  · rw [if_pos h, if_pos (this.2 h)]
  · rw [if_neg h, if_neg fun q => h (this.1 q)]; simp
theorem map_addN {β : Type} [DecidableEq β] {f : α → β} (hf : ∀ a b, f a = f b → a = b) (L ks : List α) : (addN L ks).map f = addN (L.map f) (ks.map f) := by
  induction ks generalizing L with
  | nil => rfl
  | cons k ks ih => rw [addN_cons, ih, map_add1 hf]; rfl
theorem ix_map {β : Type} [DecidableEq β] {f : α → β} (hf : ∀ a b, f a = f b → a = b) (L : List α) (k : α) : ix (L.map f) (f k) = ix L k := by
  induction L with
  | nil => rfl
  | cons x l ih =>
    simp only [List.map_cons]
    unfold ix
    by_cases h : x = k
    · rw [if_pos h, if_pos (h ▸ rfl)]
    · rw [if_neg h, if_neg fun q => h (hf _ _ q), ih]
end
#print axioms addN_self
end Go.Proofs.Ytpegloapdkfgiaa
