/-
  Weak handles: what is kept along a script. Which handles were given (slot, how-manieth), what is thought of each (0 alive, 1 cleared, 2 dropped), and the table.
  Conditions: none; plain lists and numbers.
-/
import Derived.Test.YtinpkimflcmkgaaWk9
namespace Go.Proofs.Ytinpkimflcmkgaa
open Go

abbrev Handle := Nat × Nat

/-- The table, the handles and what is thought of them go together; a cleared one may be thought alive still. -/
structure Loose (S : List Slot) (G : List Handle) (st : List Nat) : Prop where
  len : G.length = st.length
  slot : ∀ (j i g : Nat), G[j]? = some (i, g) → ∃ s, S[i]? = some s ∧ g ≤ s.given
  zero : ∀ (j i g : Nat) (s : Slot), G[j]? = some (i, g) → S[i]? = some s → st[j]? = some 0 → s.st ≠ 0 ∧ s.given = g
  one : ∀ (j i g : Nat) (s : Slot), G[j]? = some (i, g) → S[i]? = some s → st[j]? = some 1 → s.st = 2 ∧ s.given = g
  two : ∀ (j i g : Nat) (s : Slot), G[j]? = some (i, g) → S[i]? = some s → st[j]? = some 2 → s.st ≠ 0 → s.given ≠ g
  all : ∀ (i : Nat) (s : Slot), S[i]? = some s → s.st ≠ 0 → ∃ j : Nat, G[j]? = some (i, s.given)
  nodup : ∀ (j k : Nat) (h : Handle), G[j]? = some h → G[k]? = some h → j = k
  full : ∀ (i : Nat) (s : Slot), S[i]? = some s → s.st = 1 → s.addr ≠ 0
  gone : ∀ (i : Nat) (s : Slot), S[i]? = some s → s.st = 2 → s.addr = 0
  three : ∀ (i : Nat) (s : Slot), S[i]? = some s → s.st ≤ 2
  states : ∀ (j t : Nat), st[j]? = some t → t ≤ 2

/-- Is the j-th thought alive, and cleared? -/
def staleAt (S : List Slot) (G : List Handle) (st : List Nat) (j : Nat) : Bool :=
  st[j]? == some 0 && ((G[j]?.bind fun h => S[h.1]?).map Slot.st == some 2)
def stale (S : List Slot) (G : List Handle) (st : List Nat) : Nat := ((List.range G.length).filter (staleAt S G st)).length

theorem staleAt_iff {S : List Slot} {G : List Handle} {st : List Nat} {j : Nat} : staleAt S G st j = true ↔ st[j]? = some 0 ∧ ∃ i g s, G[j]? = some (i, g) ∧ S[i]? = some s ∧ s.st = 2 := by
  unfold staleAt
  constructor
  · intro h
    rw [Bool.and_eq_true, beq_iff_eq, beq_iff_eq] at h
    obtain ⟨h1, h2⟩ := h
    cases hG : G[j]? with
    | none => simp [hG] at h2
    | some x =>
      obtain ⟨i, g⟩ := x
      rw [hG] at h2
      cases hs : S[i]? with
      | none => simp [hs] at h2
      | some s =>
        simp [hs] at h2
        exact ⟨h1, i, g, s, rfl, hs, h2⟩
  · rintro ⟨h1, i, g, s, h2, h3, h4⟩
    simp [h1, h2, h3, h4]

theorem stale_zero {S : List Slot} {G : List Handle} {st : List Nat} (h : ∀ j, j < G.length → staleAt S G st j = false) : stale S G st = 0 := by
  unfold stale
  rw [List.length_eq_zero_iff, List.filter_eq_nil_iff]
  intro j hj
  rw [h j (List.mem_range.1 hj)]
  simp
theorem of_stale_zero {S : List Slot} {G : List Handle} {st : List Nat} (h : stale S G st = 0) (j : Nat) (hj : j < G.length) : staleAt S G st j = false := by
  unfold stale at h
  rw [List.length_eq_zero_iff, List.filter_eq_nil_iff] at h
  simpa using h j (List.mem_range.2 hj)

theorem filter_one {p q : Nat → Bool} {n j : Nat} (hj : j < n) (hp : p j = true) (hq : q j = false) (h : ∀ k, k ≠ j → p k = q k) : ((List.range n).filter p).length = ((List.range n).filter q).length + 1 := by
  induction n with
  | zero => omega
  | succ n ih =>
    rw [List.range_succ, List.filter_append, List.filter_append, List.length_append, List.length_append]
    by_cases hjn : j = n
    · subst hjn
      have hsame : (List.range j).filter p = (List.range j).filter q := List.filter_congr fun k hk => h k (by have := List.mem_range.1 hk; omega)
      rw [hsame]
      simp [hp, hq]
    · rw [ih (by omega)]
      have := h n (Ne.symm hjn)
      by_cases hn : q n <;> simp [this, hn] <;> omega

section
variable {S : List Slot} {G : List Handle} {st : List Nat}

theorem Loose.at_ (h : Loose S G st) {j : Nat} (hj : j < G.length) : ∃ i g s t, G[j]? = some (i, g) ∧ S[i]? = some s ∧ st[j]? = some t := by
  obtain ⟨i, g⟩ : Handle := G[j]
  have hG : ∃ x, G[j]? = some x := ⟨G[j], List.getElem?_eq_getElem hj⟩
  obtain ⟨⟨i, g⟩, hx⟩ := hG
  obtain ⟨s, hs, -⟩ := h.slot j i g hx
  have ht : ∃ t, st[j]? = some t := ⟨st[j]'(by rw [← h.len]; exact hj), List.getElem?_eq_getElem _⟩
  obtain ⟨t, ht⟩ := ht
  exact ⟨i, g, s, t, hx, hs, ht⟩

/-- One that is thought alive and is cleared is thought cleared from now on. -/
theorem Loose.mark (h : Loose S G st) {j : Nat} (hj : j < G.length) (hs : staleAt S G st j = true) : Loose S G (st.set j 1) ∧ stale S G st = stale S G (st.set j 1) + 1 ∧ staleAt S G (st.set j 1) j = false ∧ ∀ k, k ≠ j → staleAt S G (st.set j 1) k = staleAt S G st k := by
  obtain ⟨h0, i, g, s, hG, hS, h2⟩ := staleAt_iff.1 hs
  have hjs : j < st.length := by rw [← h.len]; exact hj
  have hself : (st.set j 1)[j]? = some 1 := List.getElem?_set_self hjs
  have hoth : ∀ k, k ≠ j → (st.set j 1)[k]? = st[k]? := fun k hk => List.getElem?_set_ne (Ne.symm hk)
  have hz := h.zero j i g s hG hS h0
  have hst : ∀ k, k ≠ j → staleAt S G (st.set j 1) k = staleAt S G st k := fun k hk => by unfold staleAt; rw [hoth k hk]
  have hsj : staleAt S G (st.set j 1) j = false := by unfold staleAt; rw [hself]; rfl
  refine ⟨⟨by simpa using h.len, h.slot, ?_, ?_, ?_, h.all, h.nodup, h.full, h.gone, h.three, ?_⟩, ?_, hsj, hst⟩
  · intro k i' g' s' hG' hS' ht
    by_cases hk : k = j
    · subst hk; rw [hself] at ht; cases ht
    · rw [hoth k hk] at ht; exact h.zero k i' g' s' hG' hS' ht
  · intro k i' g' s' hG' hS' ht
    by_cases hk : k = j
    · subst hk
      rw [hG] at hG'; cases hG'
      rw [hS] at hS'; cases hS'
      exact ⟨h2, hz.2⟩
    · rw [hoth k hk] at ht; exact h.one k i' g' s' hG' hS' ht
  · intro k i' g' s' hG' hS' ht
    by_cases hk : k = j
    · subst hk; rw [hself] at ht; cases ht
    · rw [hoth k hk] at ht; exact h.two k i' g' s' hG' hS' ht
  · intro k t ht
    by_cases hk : k = j
    · subst hk; rw [hself] at ht; cases ht; omega
    · rw [hoth k hk] at ht; exact h.states k t ht
  · exact filter_one hj hs hsj fun k hk => (hst k hk).symm

theorem Loose.nil (m : Nat) : Loose (List.replicate m zeroSlot) [] [] := by
  have hz : ∀ (i : Nat) (s : Slot), (List.replicate m zeroSlot)[i]? = some s → s = zeroSlot := fun i s h => List.eq_of_mem_replicate (List.mem_of_getElem? h)
  refine ⟨rfl, ?_, ?_, ?_, ?_, ?_, ?_, ?_, ?_, ?_, ?_⟩
  · intro j i g h; simp at h
  · intro j i g s h; simp at h
  · intro j i g s h; simp at h
  · intro j i g s h; simp at h
  · intro i s h h0; rw [hz i s h] at h0; exact absurd rfl h0
  · intro j k h hj; simp at hj
  · intro i s h h1; rw [hz i s h] at h1; cases h1
  · intro i s h h1; rw [hz i s h] at h1; cases h1
  · intro i s h; rw [hz i s h]; exact Nat.zero_le _
  · intro j t h; simp at h

/-- A new handle. -/
theorem Loose.add (h : Loose S G st) {i : Nat} {s : Slot} {a : Int} (hi : S[i]? = some s) (h0 : s.st = 0) (ha : a ≠ 0) :
    Loose (S.set i ⟨1, a, s.given + 1⟩) (G ++ [(i, s.given + 1)]) (st ++ [0]) ∧ ((∀ j, j < G.length → staleAt S G st j = false) → ∀ j, j < (G ++ [(i, s.given + 1)]).length → staleAt (S.set i ⟨1, a, s.given + 1⟩) (G ++ [(i, s.given + 1)]) (st ++ [0]) j = false) := by
  have hlt : i < S.length := (List.getElem?_eq_some_iff.1 hi).1
  have hself : (S.set i ⟨1, a, s.given + 1⟩)[i]? = some ⟨1, a, s.given + 1⟩ := List.getElem?_set_self hlt
  have hoth : ∀ k, k ≠ i → (S.set i ⟨1, a, s.given + 1⟩)[k]? = S[k]? := fun k hk => List.getElem?_set_ne (Ne.symm hk)
  have hGl : ∀ j x, (G ++ [(i, s.given + 1)])[j]? = some x → (j < G.length ∧ G[j]? = some x) ∨ (j = G.length ∧ x = (i, s.given + 1)) := by
    intro j x hx
    by_cases hj : j < G.length
    · rw [List.getElem?_append_left hj] at hx; exact .inl ⟨hj, hx⟩
    · have hlt := (List.getElem?_eq_some_iff.1 hx).1
      rw [List.length_append, List.length_singleton] at hlt
      have : j = G.length := by omega
      subst this
      rw [List.getElem?_append_right (by omega), Nat.sub_self] at hx
      simp at hx
      exact .inr ⟨rfl, hx.symm⟩
  have hsl : ∀ j, j < G.length → (st ++ [0])[j]? = st[j]? := fun j hj => List.getElem?_append_left (by rw [← h.len]; exact hj)
  have hsn : (st ++ [0])[G.length]? = some 0 := by rw [List.getElem?_append_right (by rw [h.len]; exact Nat.le_refl _), h.len, Nat.sub_self]; rfl
  have hsi : ∀ (j g : Nat), G[j]? = some (i, g) → j < G.length → st[j]? = some 2 := by
    intro j g hG hj
    obtain ⟨t, ht⟩ : ∃ t, st[j]? = some t := ⟨st[j]'(by rw [← h.len]; exact hj), List.getElem?_eq_getElem _⟩
    have := h.states j t ht
    rcases (show t = 0 ∨ t = 1 ∨ t = 2 from by omega) with rfl | rfl | rfl
    · exact absurd h0 (h.zero j i g s hG hi ht).1
    · have := (h.one j i g s hG hi ht).1
      omega
    · exact ht
  constructor
  · refine ⟨by simp [h.len], ?_, ?_, ?_, ?_, ?_, ?_, ?_, ?_, ?_, ?_⟩
    · intro j k g hG
      rcases hGl j _ hG with ⟨hj, hG'⟩ | ⟨rfl, hx⟩
      · obtain ⟨t, ht, hg⟩ := h.slot j k g hG'
        by_cases hk : k = i
        · subst hk
          rw [hi] at ht; cases ht
          exact ⟨_, hself, by show g ≤ s.given + 1; omega⟩
        · exact ⟨t, by rw [hoth k hk]; exact ht, hg⟩
      · cases hx
        exact ⟨_, hself, Nat.le_refl _⟩
    · intro j k g t hG hS ht
      rcases hGl j _ hG with ⟨hj, hG'⟩ | ⟨rfl, hx⟩
      · rw [hsl j hj] at ht
        by_cases hk : k = i
        · subst hk
          rw [hsi j g hG' hj] at ht; cases ht
        · rw [hoth k hk] at hS; exact h.zero j k g t hG' hS ht
      · cases hx
        rw [hself] at hS; cases hS
        exact ⟨by show 1 ≠ 0; omega, rfl⟩
    · intro j k g t hG hS ht
      rcases hGl j _ hG with ⟨hj, hG'⟩ | ⟨rfl, hx⟩
      · rw [hsl j hj] at ht
        by_cases hk : k = i
        · subst hk
          rw [hsi j g hG' hj] at ht; cases ht
        · rw [hoth k hk] at hS; exact h.one j k g t hG' hS ht
      · rw [hsn] at ht; cases ht
    · intro j k g t hG hS ht h1
      rcases hGl j _ hG with ⟨hj, hG'⟩ | ⟨rfl, hx⟩
      · rw [hsl j hj] at ht
        by_cases hk : k = i
        · subst hk
          rw [hself] at hS; cases hS
          obtain ⟨t, ht2, hg⟩ := h.slot j k g hG'
          rw [hi] at ht2; cases ht2
          show s.given + 1 ≠ g
          omega
        · rw [hoth k hk] at hS; exact h.two j k g t hG' hS ht h1
      · rw [hsn] at ht; cases ht
    · intro k t hS h1
      by_cases hk : k = i
      · subst hk
        rw [hself] at hS; cases hS
        exact ⟨G.length, by simp⟩
      · rw [hoth k hk] at hS
        obtain ⟨j, hj⟩ := h.all k t hS h1
        exact ⟨j, by rw [List.getElem?_append_left (List.getElem?_eq_some_iff.1 hj).1]; exact hj⟩
    · have hnew : ∀ j : Nat, G[j]? ≠ some (i, s.given + 1) := fun j hj => by
        obtain ⟨t, ht, hg⟩ := h.slot j i _ hj
        rw [hi] at ht; cases ht
        omega
      intro j k x hj hk
      rcases hGl j _ hj with ⟨hjl, hj'⟩ | ⟨rfl, rfl⟩
      · rcases hGl k _ hk with ⟨hkl, hk'⟩ | ⟨rfl, rfl⟩
        · exact h.nodup j k x hj' hk'
        · exact absurd hj' (hnew j)
      · rcases hGl k _ hk with ⟨hkl, hk'⟩ | ⟨rfl, -⟩
        · exact absurd hk' (hnew k)
        · rfl
    · intro k t hS h1
      by_cases hk : k = i
      · subst hk; rw [hself] at hS; cases hS; exact ha
      · rw [hoth k hk] at hS; exact h.full k t hS h1
    · intro k t hS h1
      by_cases hk : k = i
      · subst hk; rw [hself] at hS; cases hS; cases h1
      · rw [hoth k hk] at hS; exact h.gone k t hS h1
    · intro k t hS
      by_cases hk : k = i
      · subst hk; rw [hself] at hS; cases hS; show 1 ≤ 2; omega
      · rw [hoth k hk] at hS; exact h.three k t hS
    · intro j t ht
      by_cases hj : j < G.length
      · rw [hsl j hj] at ht; exact h.states j t ht
      · have hlt := (List.getElem?_eq_some_iff.1 ht).1
        rw [List.length_append, List.length_singleton, ← h.len] at hlt
        have : j = G.length := by omega
        subst this
        rw [hsn] at ht; cases ht; omega
  · intro hst j hj
    rw [Bool.eq_false_iff]
    intro hs
    obtain ⟨h1, k, g, t, hG, hS, h2⟩ := staleAt_iff.1 hs
    rcases hGl j _ hG with ⟨hjl, hG'⟩ | ⟨rfl, hx⟩
    · rw [hsl j hjl] at h1
      by_cases hk : k = i
      · subst hk
        rw [hsi j g hG' hjl] at h1; cases h1
      · rw [hoth k hk] at hS
        have := hst j hjl
        rw [staleAt_iff.2 ⟨h1, k, g, t, hG', hS, h2⟩] at this
        cases this
    · cases hx
      rw [hself] at hS; cases hS; cases h2
end
end Go.Proofs.Ytinpkimflcmkgaa
