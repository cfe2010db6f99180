/-
  Handles: what is kept along a script: which handles were given (slot, how-manieth), the address that was said last of each (0: dropped), and the table.
  Conditions: none; plain lists and numbers.
-/
import Derived.Test.YtinpkimflcmkgaaHd12
namespace Go.Proofs.Ytinpkimflcmkgaa
open Go

/-- One handle, the address thought of it, and the table. -/
def Entry (S : List HSlot) (h : Nat × Nat) (a : Int) : Prop :=
  1 ≤ h.2 ∧ ∃ s, S[h.1]? = some s ∧ h.2 ≤ s.given ∧ (a ≠ 0 → s.addr = a ∧ s.given = h.2) ∧ (a = 0 → s.addr ≠ 0 → s.given ≠ h.2)

structure Fresh (S : List HSlot) (G : List (Nat × Nat)) (A : List Int) : Prop where
  len : G.length = A.length
  each : ∀ (j : Nat) (h : Nat × Nat) (a : Int), G[j]? = some h → A[j]? = some a → Entry S h a
  all : ∀ (i : Nat) (s : HSlot), S[i]? = some s → s.addr ≠ 0 → ∃ j : Nat, G[j]? = some (i, s.given)
  nodup : ∀ (j k : Nat) (h : Nat × Nat), G[j]? = some h → G[k]? = some h → j = k

theorem Fresh.nil (m : Nat) : Fresh (List.replicate m zeroHSlot) [] [] := by
  refine ⟨rfl, fun j h a hj => by simp at hj, fun i s hi h0 => ?_, fun j k h hj => by simp at hj⟩
  rw [List.eq_of_mem_replicate (List.mem_of_getElem? hi)] at h0
  exact absurd rfl h0

section
variable {S : List HSlot} {G : List (Nat × Nat)} {A : List Int}

theorem Fresh.at_ (h : Fresh S G A) {j : Nat} (hj : j < G.length) : ∃ x a, G[j]? = some x ∧ A[j]? = some a ∧ Entry S x a := by
  have h1 : G[j]? = some G[j] := List.getElem?_eq_getElem hj
  have h2 : A[j]? = some (A[j]'(by rw [← h.len]; exact hj)) := List.getElem?_eq_getElem _
  exact ⟨_, _, h1, h2, h.each j _ _ h1 h2⟩

theorem snoc_get {α : Type} {L : List α} {x y : α} {j : Nat} (h : (L ++ [x])[j]? = some y) : (j < L.length ∧ L[j]? = some y) ∨ (j = L.length ∧ y = x) := by
  by_cases hj : j < L.length
  · rw [List.getElem?_append_left hj] at h; exact .inl ⟨hj, h⟩
  · have hlt := (List.getElem?_eq_some_iff.1 h).1
    rw [List.length_append, List.length_singleton] at hlt
    obtain rfl : j = L.length := by omega
    rw [List.getElem?_append_right (Nat.le_refl _), Nat.sub_self] at h
    simp at h
    exact .inr ⟨rfl, h.symm⟩

/-- A new handle, at a slot that was free. -/
theorem Fresh.add (h : Fresh S G A) {i : Nat} {s : HSlot} {a : Int} (hi : S[i]? = some s) (h0 : s.addr = 0) (ha : a ≠ 0) :
    Fresh (S.set i ⟨s.given + 1, a⟩) (G ++ [(i, s.given + 1)]) (A ++ [a]) := by
  have hlt : i < S.length := (List.getElem?_eq_some_iff.1 hi).1
  have hself : (S.set i ⟨s.given + 1, a⟩)[i]? = some ⟨s.given + 1, a⟩ := List.getElem?_set_self hlt
  have hoth : ∀ k, k ≠ i → (S.set i ⟨s.given + 1, a⟩)[k]? = S[k]? := fun k hk => List.getElem?_set_ne (Ne.symm hk)
  have hold : ∀ (j g : Nat), G[j]? = some (i, g) → g ≤ s.given := by
    intro j g hj
    obtain ⟨x, a', hx, ha', -, t, ht, hle, -⟩ := h.at_ (List.getElem?_eq_some_iff.1 hj).1
    rw [hj] at hx; cases hx
    rw [hi] at ht; cases ht
    exact hle
  refine ⟨by simp [h.len], fun j x a' hx hax => ?_, fun k t hk h1 => ?_, fun j k x hj hk => ?_⟩
  · rcases snoc_get hx with ⟨hj, hx⟩ | ⟨rfl, rfl⟩
    · rcases snoc_get hax with ⟨-, hax⟩ | ⟨hj', -⟩
      · obtain ⟨h1, t, ht, hle, hlive, hdead⟩ := h.each j x a' hx hax
        by_cases hk : x.1 = i
        · rw [hk, hi] at ht; cases ht
          have ha0 : a' = 0 := Classical.byContradiction fun hne => hne ((hlive hne).1.symm.trans h0)
          refine ⟨h1, ⟨s.given + 1, a⟩, by rw [hk]; exact hself, Nat.le_succ_of_le hle, fun hne => absurd ha0 hne, fun _ _ => ?_⟩
          show s.given + 1 ≠ x.2
          omega
        · exact ⟨h1, t, by rw [hoth _ hk]; exact ht, hle, hlive, hdead⟩
      · rw [h.len] at hj; omega
    · rcases snoc_get hax with ⟨hj', -⟩ | ⟨-, rfl⟩
      · rw [h.len] at hj'; omega
      · exact ⟨Nat.succ_le_succ (Nat.zero_le _), ⟨s.given + 1, a'⟩, hself, Nat.le_refl _, fun _ => ⟨rfl, rfl⟩, fun hz => absurd hz ha⟩
  · by_cases hki : k = i
    · subst hki
      rw [hself] at hk; cases hk
      exact ⟨G.length, by simp⟩
    · rw [hoth k hki] at hk
      obtain ⟨j, hj⟩ := h.all k t hk h1
      exact ⟨j, by rw [List.getElem?_append_left (List.getElem?_eq_some_iff.1 hj).1]; exact hj⟩
  · rcases snoc_get hj with ⟨hjl, hj⟩ | ⟨rfl, rfl⟩
    · rcases snoc_get hk with ⟨hkl, hk⟩ | ⟨rfl, rfl⟩
      · exact h.nodup j k x hj hk
      · have := hold j _ hj
        omega
    · rcases snoc_get hk with ⟨hkl, hk⟩ | ⟨rfl, -⟩
      · have := hold k _ hk
        omega
      · rfl

/-- A handle that is alive has another address, or none. -/
theorem Fresh.upd (h : Fresh S G A) {j i g : Nat} {s : HSlot} {a x : Int} (hj : G[j]? = some (i, g)) (hA : A[j]? = some a) (ha : a ≠ 0) (hi : S[i]? = some s) :
    Fresh (S.set i { s with addr := x }) G (A.set j x) := by
  have hlt : i < S.length := (List.getElem?_eq_some_iff.1 hi).1
  have hself : (S.set i { s with addr := x })[i]? = some { s with addr := x } := List.getElem?_set_self hlt
  have hoth : ∀ k, k ≠ i → (S.set i { s with addr := x })[k]? = S[k]? := fun k hk => List.getElem?_set_ne (Ne.symm hk)
  have hjA : j < A.length := (List.getElem?_eq_some_iff.1 hA).1
  obtain ⟨h1, t, ht, hle, hlive, -⟩ := h.each j _ a hj hA
  rw [show S[(i, g).1]? = some s from hi] at ht; cases ht
  obtain ⟨hsa, hsg⟩ := hlive ha
  refine ⟨by simpa using h.len, fun k y a' hk hak => ?_, fun k t hk h1 => ?_, h.nodup⟩
  · by_cases hkj : k = j
    · subst hkj
      rw [hj] at hk; cases hk
      rw [List.getElem?_set_self hjA] at hak; cases hak
      exact ⟨h1, ⟨s.given, x⟩, hself, hle, fun _ => ⟨rfl, hsg⟩, fun hz hne => absurd hz hne⟩
    · rw [List.getElem?_set_ne (Ne.symm hkj)] at hak
      obtain ⟨q1, t, ht, qle, qlive, qdead⟩ := h.each k y a' hk hak
      by_cases hyi : y.1 = i
      · rw [hyi, hi] at ht; cases ht
        have ha0 : a' = 0 := Classical.byContradiction fun hne => hkj (h.nodup k j (i, g) (by
          have hy2 := (qlive hne).2
          rw [hk]
          obtain ⟨y1, y2⟩ := y
          simp only at hyi hy2 hsg
          rw [hyi, ← hy2, ← hsg]) hj)
        exact ⟨q1, ⟨s.given, x⟩, by rw [hyi]; exact hself, qle, fun hne => absurd ha0 hne, fun _ _ => qdead ha0 (by rw [hsa]; exact ha)⟩
      · exact ⟨q1, t, by rw [hoth _ hyi]; exact ht, qle, qlive, qdead⟩
  · by_cases hki : k = i
    · subst hki
      rw [hself] at hk; cases hk
      exact ⟨j, by rw [hj]; show some (k, g) = some (k, s.given); rw [hsg]⟩
    · rw [hoth k hki] at hk
      exact h.all k t hk h1

/-- How many of the first q are alive. -/
def aliveOf (A : List Int) (q : Nat) : List Nat := (List.range q).filter fun j => (A[j]?.map fun a => a != 0).getD false
theorem aliveOf_yes {A : List Int} {q : Nat} {a : Int} (h : A[q]? = some a) (ha : a ≠ 0) : (aliveOf A (q + 1)).length = (aliveOf A q).length + 1 := by
  simp [aliveOf, List.range_succ, List.filter_append, h, ha]
theorem aliveOf_no {A : List Int} {q : Nat} {a : Int} (h : A[q]? = some a) (ha : a = 0) : (aliveOf A (q + 1)).length = (aliveOf A q).length := by
  simp [aliveOf, List.range_succ, List.filter_append, h, ha]
theorem aliveOf_le (A : List Int) (q : Nat) : (aliveOf A q).length ≤ q := by
  unfold aliveOf
  exact Nat.le_trans (List.length_filter_le _ _) (by simp)

/-- As many slots have an address as handles are alive. -/
theorem Fresh.count (h : Fresh S G A) : (livingOf S S.length).length = (aliveOf A G.length).length := by
  have hmap : (aliveOf A G.length).length = ((aliveOf A G.length).map fun j => ((G[j]?).getD (0, 0)).1).length := by rw [List.length_map]
  rw [hmap]
  have hn1 : (livingOf S S.length).Nodup := List.Pairwise.filter _ List.nodup_range
  have hmem : ∀ j, j ∈ aliveOf A G.length ↔ j < G.length ∧ ∃ a, A[j]? = some a ∧ a ≠ 0 := by
    intro j
    unfold aliveOf
    rw [List.mem_filter, List.mem_range]
    refine and_congr_right fun hj => ?_
    cases hA : A[j]? with
    | none => simp
    | some a => simp
  have hn2 : ((aliveOf A G.length).map fun j => ((G[j]?).getD (0, 0)).1).Nodup := by
    refine List.pairwise_map.2 (List.Pairwise.imp_of_mem ?_ (List.Pairwise.filter _ List.nodup_range))
    intro j k hj hk hjk he
    obtain ⟨hjl, a, hja, ha⟩ := (hmem j).1 hj
    obtain ⟨hkl, c, hkc, hc⟩ := (hmem k).1 hk
    obtain ⟨x, a', hx, hxa, -, s, hs, -, hl1, -⟩ := h.at_ hjl
    obtain ⟨y, c', hy, hyc, -, t, ht, -, hl2, -⟩ := h.at_ hkl
    rw [hja] at hxa; cases hxa
    rw [hkc] at hyc; cases hyc
    rw [hx, hy] at he
    have hxy : x.1 = y.1 := he
    rw [hxy, ht] at hs; cases hs
    refine hjk (h.nodup j k x hx ?_)
    rw [hy]
    obtain ⟨x1, x2⟩ := x
    obtain ⟨y1, y2⟩ := y
    simp only at hxy hl1 hl2
    rw [hxy, ← (hl1 ha).2, ← (hl2 hc).2]
  refine ((List.perm_ext_iff_of_nodup hn1 hn2).2 fun i => ?_).length_eq
  rw [List.mem_map]
  unfold livingOf
  rw [List.mem_filter, List.mem_range]
  constructor
  · rintro ⟨hi, hs⟩
    have hS : S[i]? = some S[i] := List.getElem?_eq_getElem hi
    rw [hS] at hs
    have hne : S[i].addr ≠ 0 := by simpa using hs
    obtain ⟨j, hG⟩ := h.all i _ hS hne
    have hjl := (List.getElem?_eq_some_iff.1 hG).1
    obtain ⟨x, a, hx, hxa, -, s, hs', -, -, hdead⟩ := h.at_ hjl
    rw [hG] at hx; cases hx
    rw [show S[((i, S[i].given) : Nat × Nat).1]? = some S[i] from hS] at hs'; cases hs'
    refine ⟨j, (hmem j).2 ⟨hjl, a, hxa, fun hz => hdead hz hne rfl⟩, by rw [hG]; rfl⟩
  · rintro ⟨j, hj, he⟩
    obtain ⟨hjl, a, hja, ha⟩ := (hmem j).1 hj
    obtain ⟨x, a', hx, hxa, -, s, hs, -, hl1, -⟩ := h.at_ hjl
    rw [hja] at hxa; cases hxa
    rw [hx] at he
    have hxi : x.1 = i := he
    rw [hxi] at hs
    refine ⟨(List.getElem?_eq_some_iff.1 hs).1, ?_⟩
    rw [hs]
    have := (hl1 ha).1
    simp [this, ha]
end
end Go.Proofs.Ytinpkimflcmkgaa
