/-
  Weak handles: what a Drop and a Put do to what is kept along a script.
  Conditions: none; plain lists and numbers.
-/
import Derived.Test.YtinpkimflcmkgaaWg1
namespace Go.Proofs.Ytinpkimflcmkgaa
open Go

section
variable {S : List Slot} {G : List Handle} {st : List Nat}

/-- A handle is dropped that is there. -/
theorem Loose.drop (h : Loose S G st) {j i g : Nat} {s : Slot} (hj : G[j]? = some (i, g)) (hi : S[i]? = some s) (hg : s.given = g) :
    Loose (S.set i { s with st := 0 }) G (st.set j 2) ∧ ((∀ k, k < G.length → staleAt S G st k = false) → ∀ k, k < G.length → staleAt (S.set i { s with st := 0 }) G (st.set j 2) k = false) := by
  have hlt : i < S.length := (List.getElem?_eq_some_iff.1 hi).1
  have hjl : j < G.length := (List.getElem?_eq_some_iff.1 hj).1
  have hself : (S.set i { s with st := 0 })[i]? = some { s with st := 0 } := List.getElem?_set_self hlt
  have hoth : ∀ k, k ≠ i → (S.set i { s with st := 0 })[k]? = S[k]? := fun k hk => List.getElem?_set_ne (Ne.symm hk)
  have hjs : j < st.length := by rw [← h.len]; exact hjl
  have tself : (st.set j 2)[j]? = some 2 := List.getElem?_set_self hjs
  have toth : ∀ k, k ≠ j → (st.set j 2)[k]? = st[k]? := fun k hk => List.getElem?_set_ne (Ne.symm hk)
  have hone : ∀ (k g' : Nat), G[k]? = some (i, g') → s.given = g' → k = j := by
    intro k g' hk hg'
    refine h.nodup k j (i, g') hk ?_
    rw [hj, ← hg, hg']
  constructor
  · refine ⟨by simpa using h.len, ?_, ?_, ?_, ?_, ?_, h.nodup, ?_, ?_, ?_, ?_⟩
    · intro k i' g' hG
      obtain ⟨t, ht, hle⟩ := h.slot k i' g' hG
      by_cases hk : i' = i
      · subst hk; rw [hi] at ht; cases ht; exact ⟨_, hself, hle⟩
      · exact ⟨t, by rw [hoth i' hk]; exact ht, hle⟩
    · intro k i' g' t hG hS ht
      by_cases hkj : k = j
      · subst hkj; rw [tself] at ht; cases ht
      · rw [toth k hkj] at ht
        by_cases hk : i' = i
        · subst hk
          exact absurd (hone k g' hG (h.zero k i' g' s hG hi ht).2) hkj
        · rw [hoth i' hk] at hS; exact h.zero k i' g' t hG hS ht
    · intro k i' g' t hG hS ht
      by_cases hkj : k = j
      · subst hkj; rw [tself] at ht; cases ht
      · rw [toth k hkj] at ht
        by_cases hk : i' = i
        · subst hk
          exact absurd (hone k g' hG (h.one k i' g' s hG hi ht).2) hkj
        · rw [hoth i' hk] at hS; exact h.one k i' g' t hG hS ht
    · intro k i' g' t hG hS ht h1
      by_cases hk : i' = i
      · subst hk; rw [hself] at hS; cases hS; exact absurd rfl h1
      · rw [hoth i' hk] at hS
        by_cases hkj : k = j
        · subst hkj
          rw [hj] at hG; cases hG
          exact absurd rfl hk
        · rw [toth k hkj] at ht
          exact h.two k i' g' t hG hS ht h1
    · intro k t hS h1
      by_cases hk : k = i
      · subst hk; rw [hself] at hS; cases hS; exact absurd rfl h1
      · rw [hoth k hk] at hS; exact h.all k t hS h1
    · intro k t hS h1
      by_cases hk : k = i
      · subst hk; rw [hself] at hS; cases hS; cases h1
      · rw [hoth k hk] at hS; exact h.full k t hS h1
    · intro k t hS h1
      by_cases hk : k = i
      · subst hk; rw [hself] at hS; cases hS; cases h1
      · rw [hoth k hk] at hS; exact h.gone k t hS h1
    · intro k t hS
      by_cases hk : k = i
      · subst hk; rw [hself] at hS; cases hS; exact Nat.zero_le _
      · rw [hoth k hk] at hS; exact h.three k t hS
    · intro k t ht
      by_cases hkj : k = j
      · subst hkj; rw [tself] at ht; cases ht; exact Nat.le_refl _
      · rw [toth k hkj] at ht; exact h.states k t ht
  · intro hst k hk
    rw [Bool.eq_false_iff]
    intro hs
    obtain ⟨h1, i', g', t, hG, hS, h2⟩ := staleAt_iff.1 hs
    by_cases hkj : k = j
    · subst hkj; rw [tself] at h1; cases h1
    · rw [toth k hkj] at h1
      by_cases hki : i' = i
      · subst hki; rw [hself] at hS; cases hS; cases h2
      · rw [hoth i' hki] at hS
        have := hst k hk
        rw [staleAt_iff.2 ⟨h1, i', g', t, hG, hS, h2⟩] at this
        cases this

/-- What a Put makes of a slot. -/
theorem putF_at (S : List Slot) (xs : List Int) (i : Nat) : (putF S xs)[i]? = (mates S xs)[i]?.map updSlot := by unfold putF; rw [List.getElem?_map]

theorem put_slot {xs : List Int} (hb : badF S xs = false) {i : Nat} {s : Slot} (hi : S[i]? = some s) :
    ∃ s' x, (mates S xs)[i]? = some (s, x) ∧ (putF S xs)[i]? = some s' ∧ s'.given = s.given ∧ (s.st = 0 → s' = s) ∧ (s.st = 2 → s'.st = 2 ∧ s'.addr = 0) ∧ (s.st = 1 → (s'.st = 1 ∧ s'.addr ≠ 0 ∧ isClr (s, x) = false) ∨ (s'.st = 2 ∧ s'.addr = 0 ∧ isClr (s, x) = true)) := by
  have hm : ∃ x, (mates S xs)[i]? = some (s, x) := by rw [mates_get, hi]; exact ⟨_, rfl⟩
  obtain ⟨x, hm⟩ := hm
  have hnb : isBad (s, x) = false := by
    rw [Bool.eq_false_iff]
    intro h
    unfold badF at hb
    rw [List.any_eq_false] at hb
    exact hb _ (List.mem_of_getElem? hm) h
  refine ⟨updSlot (s, x), x, hm, by rw [putF_at, hm]; rfl, ?_, ?_, ?_, ?_⟩
  · unfold updSlot; by_cases h0 : s.st = 0 <;> simp [h0]
  · intro h0; simp [updSlot, h0]
  · intro h2
    have hx : x = 0 := by
      apply Classical.byContradiction
      intro hx
      simp [isBad, h2, hx] at hnb
    simp [updSlot, h2, hx]
  · intro h1
    by_cases hx : x = 0
    · right; simp [updSlot, h1, hx, isClr]
    · left; simp [updSlot, h1, hx, isClr]

theorem filter_range {α : Type} (p : α → Bool) (L : List α) : (L.filter p).length = ((List.range L.length).filter fun i => (L[i]?.map p).getD false).length := by
  induction L with
  | nil => rfl
  | cons a L ih =>
    rw [List.length_cons, List.range_succ_eq_map, List.filter_cons, List.filter_cons, List.filter_map]
    have e : ((fun i => (((a :: L)[i]?).map p).getD false) ∘ Nat.succ) = fun i => ((L[i]?).map p).getD false := by
      funext i
      simp
    rw [e]
    by_cases h : p a <;> simp [h, ih]

/-- A Put tells how many it cleared. -/
theorem Loose.put (h : Loose S G st) (hst : ∀ k, k < G.length → staleAt S G st k = false) {xs : List Int} (hb : badF S xs = false) :
    Loose (putF S xs) G st ∧ clrF S xs = stale (putF S xs) G st := by
  have hps := fun (i : Nat) (s : Slot) (hi : S[i]? = some s) => put_slot hb hi
  have hback : ∀ (i : Nat) (s' : Slot), (putF S xs)[i]? = some s' → ∃ s, S[i]? = some s := by
    intro i s' hs'
    have hlt := (List.getElem?_eq_some_iff.1 hs').1
    rw [putF_length] at hlt
    exact ⟨S[i], List.getElem?_eq_getElem hlt⟩
  have hS1 : ∀ (j i g : Nat) (s : Slot), G[j]? = some (i, g) → S[i]? = some s → st[j]? = some 0 → s.st = 1 := by
    intro j i g s hG hi ht
    have h3 := h.three i s hi
    have hz := h.zero j i g s hG hi ht
    have hne : s.st ≠ 2 := fun h2 => by
      have := hst j (List.getElem?_eq_some_iff.1 hG).1
      rw [staleAt_iff.2 ⟨ht, i, g, s, hG, hi, h2⟩] at this
      cases this
    omega
  have hloose : Loose (putF S xs) G st := by
    refine ⟨h.len, ?_, ?_, ?_, ?_, ?_, h.nodup, ?_, ?_, ?_, h.states⟩
    · intro j i g hG
      obtain ⟨s, hi, hg⟩ := h.slot j i g hG
      obtain ⟨s', x, -, hs', hgv, -⟩ := hps i s hi
      exact ⟨s', hs', by omega⟩
    · intro j i g s' hG hs' ht
      obtain ⟨s, hi⟩ := hback i s' hs'
      obtain ⟨s2, x, -, hs2, hgv, h0, h2, h1⟩ := hps i s hi
      rw [hs2] at hs'; cases hs'
      have hone := hS1 j i g s hG hi ht
      refine ⟨?_, by rw [hgv]; exact (h.zero j i g s hG hi ht).2⟩
      rcases h1 hone with ⟨h, -⟩ | ⟨h, -⟩ <;> omega
    · intro j i g s' hG hs' ht
      obtain ⟨s, hi⟩ := hback i s' hs'
      obtain ⟨s2, x, -, hs2, hgv, h0, h2, h1⟩ := hps i s hi
      rw [hs2] at hs'; cases hs'
      obtain ⟨hs2', hg⟩ := h.one j i g s hG hi ht
      exact ⟨(h2 hs2').1, by rw [hgv]; exact hg⟩
    · intro j i g s' hG hs' ht hnz
      obtain ⟨s, hi⟩ := hback i s' hs'
      obtain ⟨s2, x, -, hs2, hgv, h0, h2, h1⟩ := hps i s hi
      rw [hs2] at hs'; cases hs'
      have hsz : s.st ≠ 0 := fun hz => by rw [h0 hz] at hnz; exact hnz hz
      rw [hgv]
      exact h.two j i g s hG hi ht hsz
    · intro i s' hs' hnz
      obtain ⟨s, hi⟩ := hback i s' hs'
      obtain ⟨s2, x, -, hs2, hgv, h0, h2, h1⟩ := hps i s hi
      rw [hs2] at hs'; cases hs'
      have hsz : s.st ≠ 0 := fun hz => by rw [h0 hz] at hnz; exact hnz hz
      rw [hgv]
      exact h.all i s hi hsz
    · intro i s' hs' h1'
      obtain ⟨s, hi⟩ := hback i s' hs'
      obtain ⟨s2, x, -, hs2, hgv, h0, h2, h1⟩ := hps i s hi
      rw [hs2] at hs'; cases hs'
      have h3 := h.three i s hi
      rcases (show s.st = 0 ∨ s.st = 1 ∨ s.st = 2 from by omega) with hz | hz | hz
      · rw [h0 hz] at h1'; omega
      · rcases h1 hz with ⟨-, h, -⟩ | ⟨h, -⟩
        · exact h
        · omega
      · have := (h2 hz).1; omega
    · intro i s' hs' h2'
      obtain ⟨s, hi⟩ := hback i s' hs'
      obtain ⟨s2, x, -, hs2, hgv, h0, h2, h1⟩ := hps i s hi
      rw [hs2] at hs'; cases hs'
      have h3 := h.three i s hi
      rcases (show s.st = 0 ∨ s.st = 1 ∨ s.st = 2 from by omega) with hz | hz | hz
      · rw [h0 hz] at h2'; omega
      · rcases h1 hz with ⟨h, -⟩ | ⟨-, h, -⟩
        · omega
        · exact h
      · exact (h2 hz).2
    · intro i s' hs'
      obtain ⟨s, hi⟩ := hback i s' hs'
      obtain ⟨s2, x, -, hs2, hgv, h0, h2, h1⟩ := hps i s hi
      rw [hs2] at hs'; cases hs'
      have h3 := h.three i s hi
      rcases (show s.st = 0 ∨ s.st = 1 ∨ s.st = 2 from by omega) with hz | hz | hz
      · rw [h0 hz]; omega
      · rcases h1 hz with ⟨h, -⟩ | ⟨h, -⟩ <;> omega
      · have := (h2 hz).1; omega
  refine ⟨hloose, ?_⟩
  unfold clrF stale
  rw [filter_range, mates_length]
  have hmap : ((List.range G.length).filter (staleAt (putF S xs) G st)).length = (((List.range G.length).filter (staleAt (putF S xs) G st)).map fun j => ((G[j]?).getD (0, 0)).1).length := by rw [List.length_map]
  rw [hmap]
  have hn1 : ((List.range S.length).filter fun i => ((mates S xs)[i]?.map isClr).getD false).Nodup := List.Pairwise.filter _ List.nodup_range
  have hn2 : (((List.range G.length).filter (staleAt (putF S xs) G st)).map fun j => ((G[j]?).getD (0, 0)).1).Nodup := by
    refine List.pairwise_map.2 ?_
    have h0 : ((List.range G.length).filter (staleAt (putF S xs) G st)).Nodup := List.Pairwise.filter _ List.nodup_range
    refine List.Pairwise.imp_of_mem ?_ h0
    intro j k hj hk hjk he
    obtain ⟨-, hj⟩ := List.mem_filter.1 hj
    obtain ⟨-, hk⟩ := List.mem_filter.1 hk
    obtain ⟨hj0, i1, g1, s1, hG1, hs1, -⟩ := staleAt_iff.1 hj
    obtain ⟨hk0, i2, g2, s2, hG2, hs2, -⟩ := staleAt_iff.1 hk
    rw [hG1, hG2] at he
    have hi : i1 = i2 := he
    subst hi
    rw [hs1] at hs2; cases hs2
    have e1 := (hloose.zero j i1 g1 s1 hG1 hs1 hj0).2
    have e2 := (hloose.zero k i1 g2 s1 hG2 hs1 hk0).2
    exact hjk (h.nodup j k (i1, g1) hG1 (by rw [hG2, ← e2, e1]))
  refine ((List.perm_ext_iff_of_nodup hn1 hn2).2 fun i => ?_).length_eq
  rw [List.mem_filter, List.mem_map]
  constructor
  · rintro ⟨hi, hc⟩
    have hil := List.mem_range.1 hi
    have hs : S[i]? = some S[i] := List.getElem?_eq_getElem hil
    obtain ⟨s', x, hm, hs', hgv, h0, h2, h1⟩ := hps i _ hs
    rw [hm] at hc
    have hc' : isClr (S[i], x) = true := by simpa using hc
    have hone : S[i].st = 1 := by
      unfold isClr at hc'
      rw [Bool.and_eq_true, beq_iff_eq] at hc'
      exact hc'.1
    obtain ⟨j, hG⟩ := h.all i _ hs (by omega)
    have hjl := (List.getElem?_eq_some_iff.1 hG).1
    obtain ⟨t, ht⟩ : ∃ t, st[j]? = some t := ⟨st[j]'(by rw [← h.len]; exact hjl), List.getElem?_eq_getElem _⟩
    have ht3 := h.states j t ht
    have ht0 : t = 0 := by
      rcases (show t = 0 ∨ t = 1 ∨ t = 2 from by omega) with rfl | rfl | rfl
      · rfl
      · have := (h.one j i _ _ hG hs ht).1; omega
      · exact absurd rfl (h.two j i _ _ hG hs ht (by omega))
    subst ht0
    have hs2 : s'.st = 2 := by
      rcases h1 hone with ⟨-, -, h⟩ | ⟨h, -⟩
      · rw [h] at hc'; cases hc'
      · exact h
    exact ⟨j, List.mem_filter.2 ⟨List.mem_range.2 hjl, staleAt_iff.2 ⟨ht, i, _, s', hG, hs', hs2⟩⟩, by rw [hG]; rfl⟩
  · rintro ⟨j, hj, he⟩
    obtain ⟨-, hj⟩ := List.mem_filter.1 hj
    obtain ⟨ht, i', g, s', hG, hs', h2'⟩ := staleAt_iff.1 hj
    rw [hG] at he
    have hii : i' = i := he
    subst hii
    obtain ⟨s, hi⟩ := hback i' s' hs'
    obtain ⟨s2, x, hm, hs2, hgv, h0, h2, h1⟩ := hps i' s hi
    rw [hs2] at hs'; cases hs'
    have hone := hS1 j i' g s hG hi ht
    refine ⟨List.mem_range.2 (List.getElem?_eq_some_iff.1 hi).1, ?_⟩
    rw [hm]
    rcases h1 hone with ⟨h, -⟩ | ⟨-, -, h⟩
    · omega
    · simpa using h
end
end Go.Proofs.Ytinpkimflcmkgaa
