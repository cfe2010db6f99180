/-
  The table of weak handles of layer 16: contract of Put.
  Conditions: the list lies in a block of its own.
-/
import Derived.Test.YtinpkimflcmkgaaWk6
namespace Go.Proofs.Ytinpkimflcmkgaa
open Go Go.RowKit
attribute [local go_sem ↓] Go.wp_at_zero Go.wp_at_succ

theorem any_take_succ {α : Type} {p : α → Bool} {M : List α} {i : Nat} {m : α} (h : M[i]? = some m) : (M.take (i + 1)).any p = ((M.take i).any p || p m) := by
  rw [List.take_add_one, h]
  simp
theorem filter_take_succ {α : Type} {p : α → Bool} {M : List α} {i : Nat} {m : α} (h : M[i]? = some m) : ((M.take (i + 1)).filter p).length = ((M.take i).filter p).length + (if p m then 1 else 0) := by
  rw [List.take_add_one, h]
  by_cases hp : p m <;> simp [hp]

def evOf (M : List (Slot × Int)) (i : Nat) : Int := if (M.take i).any isBad then 2 else 0
def clOf (M : List (Slot × Int)) (i : Nat) : Nat := ((M.take i).filter isClr).length
def tabOf (S : List Slot) (M : List (Slot × Int)) (i : Nat) : List Slot := (M.take i).map updSlot ++ S.drop i

section
variable {b : Nat} {S : List Slot} {l R lx : List Blk}

abbrev intBlk (B : Nat) (v : Int) (T : Nat) : Blk := (B, .cells #[.int .i64 v] T)

theorem tabOf_length (S : List Slot) (xs : List Int) (i : Nat) (hi : i ≤ S.length) : (tabOf S (mates S xs) i).length = S.length := by
  simp [tabOf, mates_length]
  omega
theorem tabOf_at {S : List Slot} {xs : List Int} {i : Nat} {s : Slot} (h : S[i]? = some s) : (tabOf S (mates S xs) i)[i]? = some s := by
  have hlt := (List.getElem?_eq_some_iff.1 h).1
  have hl : ((List.take i (mates S xs)).map updSlot).length = i := by simp [mates_length]; omega
  rw [tabOf, List.getElem?_append_right (by omega), hl, Nat.sub_self, List.getElem?_drop, Nat.add_zero]
  exact h
theorem tabOf_succ {S : List Slot} {xs : List Int} {i : Nat} {s : Slot} {m : Slot × Int} (h : S[i]? = some s) (hm : (mates S xs)[i]? = some m) : tabOf S (mates S xs) (i + 1) = (tabOf S (mates S xs) i).set i (updSlot m) := by
  have hlt := (List.getElem?_eq_some_iff.1 h).1
  have hl : ((List.take i (mates S xs)).map updSlot).length = i := by simp [mates_length]; omega
  rw [tabOf, tabOf, List.set_append_right _ _ (by omega), hl, Nat.sub_self, List.take_add_one, hm]
  have hd : S.drop i = s :: S.drop (i + 1) := by
    rw [List.drop_eq_getElem_cons hlt]
    congr 1
    rw [List.getElem?_eq_getElem hlt] at h
    exact Option.some.inj h
  rw [hd]
  simp
theorem tabOf_zero_st {S : List Slot} {xs : List Int} {i : Nat} {s : Slot} (h : S[i]? = some s) (h0 : s.st = 0) : tabOf S (mates S xs) (i + 1) = tabOf S (mates S xs) i := by
  have hm : (mates S xs)[i]? = some (s, 0) := by rw [mates_get, h]; simp [h0]
  rw [tabOf_succ h hm]
  have hu : updSlot (s, 0) = s := by simp [updSlot, h0]
  rw [hu]
  have h1 := tabOf_at (xs := xs) h
  have hlt := (List.getElem?_eq_some_iff.1 h1).1
  rw [List.getElem?_eq_getElem hlt] at h1
  rw [← Option.some.inj h1]
  exact List.set_getElem_self hlt

/-- The first pass: is a cleared one given an address? -/
theorem pass1 {gx n px : Nat} {xs : List Int} {ax : Option Addr} {g : Nat} {cur : Array Value} {B3 B4 B5 : Nat} (w0 : World) (L0 : List Blk) (hl : S.length ≤ 4096) (hc : cur.toList = S.flatMap Slot.vals) (hn : n = cnt S)
    (hL0 : L0 = [(b, .cells #[.slice (some ⟨g, 0, none⟩) S.length S.length] 113), (g, .cells cur 116)] ++ (lx ++ R)) (hx : Row 31 1 ax n px (w64s xs) lx) (hgx : 0 < n → ax = some ⟨gx, 0, none⟩)
    (W : World) (T : Turn L0 w0 (intBlk B5 0 26 :: intBlk B4 0 3 :: varBlk B3 ax n px :: L0) W) :
    Calls Try.prog 66 #[.pointer (some ⟨b, 0, none⟩), .func (.func 67) #[] #[.pointer (some ⟨B3, 0, none⟩), .pointer (some ⟨B5, 0, none⟩)]] W
      (EachPost (fun i k W => k = cnt (S.take i) ∧ Turn L0 w0 (intBlk B5 (evOf (mates S xs) i) 26 :: intBlk B4 0 3 :: varBlk B3 ax n px :: L0) W) S.length) := by
  have ef := enters_of Try.func67 (by kernel_rfl) rfl
  have hxl : xs.length = n := by have := hx.1; simp [w64s] at this; omega
  refine each_gen _ ef #[.pointer (some ⟨B3, 0, none⟩), .pointer (some ⟨B5, 0, none⟩)] b g S.length hl _ ?_ ?_ W ⟨rfl, T⟩
  · rintro i k W ⟨-, T⟩
    have h := T.tail.tail.tail.has
    rw [hL0] at h
    exact (wcells hc h).c0
  · rintro i k W hi ⟨hk, T⟩
    obtain ⟨s, hs⟩ : ∃ s, S[i]? = some s := ⟨S[i]'hi, List.getElem?_eq_getElem _⟩
    have h := T.tail.tail.tail.has
    rw [hL0] at h
    have Wc := wcells hc h
    refine ⟨s.st, (Wc.at_ i s hs).1, fun h0 => ⟨by rw [cnt_take_zero hs h0]; exact hk, ?_⟩, fun h0 hki => ?_⟩
    · have hm : (mates S xs)[i]? = some (s, 0) := by rw [mates_get, hs]; simp [h0]
      have he : evOf (mates S xs) (i + 1) = evOf (mates S xs) i := by
        unfold evOf
        rw [any_take_succ hm, show isBad (s, 0) = false from by simp [isBad], Bool.or_false]
      rw [he]
      exact T
    · have hkn : k < n := by rw [hk, hn]; exact cnt_lt hs h0
      obtain ⟨x, hxk⟩ : ∃ x, xs[k]? = some x := ⟨xs[k]'(by omega), List.getElem?_eq_getElem _⟩
      have hm : (mates S xs)[i]? = some (s, x) := by
        rw [mates_get, hs, ← hk]
        simp [h0, List.getD, hxk]
      have hgx' := hgx (by omega)
      subst hgx'
      have hH := h.perm (l' := lx ++ ([(b, .cells #[.slice (some ⟨g, 0, none⟩) S.length S.length] 113), (g, .cells cur 116)] ++ R)) (perm_of fun c => by simp; omega)
      have hcell : PutCells W g i B3 gx n px k s.st x := by
        refine ⟨(Wc.at_ i s hs).1, T.has.cell (b := B3) (c := #[.slice (some ⟨gx, 0, none⟩) n px]) (e := 30) (f := (0, 0)) (by simp [varBlk]) 0, ?_⟩
        rw [hx.cell hH k (by omega)]
        simp [w64s, hxk]
      refine (wPut1_any W hcell hkn (T.has.cell (b := B5) (List.mem_cons_self ..) 0) (T.has.free (b := B5) (List.mem_cons_self ..) 0)).mono ?_
      rintro e w' ⟨rfl, rfl⟩
      refine ⟨rfl, by rw [cnt_take_more hs h0, hk], ?_⟩
      have he : evOf (mates S xs) (i + 1) = if s.st = 2 ∧ x ≠ 0 then 2 else evOf (mates S xs) i := by
        unfold evOf
        rw [any_take_succ hm]
        by_cases hb : s.st = 2 ∧ x ≠ 0
        · simp [isBad, hb]
        · have hb' : isBad (s, x) = false := by
            unfold isBad
            by_cases h2 : s.st = 2
            · have : x = 0 := by
                apply Classical.byContradiction
                intro h
                exact hb ⟨h2, h⟩
              simp [this]
            · simp [h2]
          rw [hb', Bool.or_false, if_neg hb]
      rw [he]
      by_cases hb : s.st = 2 ∧ x ≠ 0
      · rw [if_pos hb, if_pos hb]
        exact T.setCell 0 (.int .i64 2)
      · rw [if_neg hb, if_neg hb]
        exact T

theorem tabOf_state (hst : WkOk S) {xs : List Int} (i : Nat) : ∀ s ∈ tabOf S (mates S xs) i, s.given < 4294967295 ∧ s.st ≤ 2 := by
  intro s hs
  rcases List.mem_append.1 hs with h | h
  · obtain ⟨m, hm, rfl⟩ := List.mem_map.1 h
    obtain ⟨j, hj⟩ := List.mem_iff_getElem?.1 (List.mem_of_mem_take hm)
    rw [mates_get] at hj
    cases hsj : S[j]? with
    | none => simp [hsj] at hj
    | some t =>
      rw [hsj] at hj
      simp at hj
      have ht := List.mem_of_getElem? hsj
      have h1 := hst.small t ht
      have h2 := hst.states t ht
      subst hj
      unfold updSlot
      by_cases h0 : t.st = 0
      · simp [h0, h1]
      · simp [h0, h1]
        split <;> omega
  · have ht := List.mem_of_mem_drop h
    exact ⟨hst.small s ht, hst.states s ht⟩

/-- The second pass: the addresses are set. -/
theorem pass2 {gx n px : Nat} {xs : List Int} {ax : Option Addr} {g : Nat} {cur : Array Value} {B3 B4 B5 : Nat} (w0 : World) (L0 : List Blk) (hl : S.length ≤ 4096) (hc : cur.toList = S.flatMap Slot.vals) (hn : n = cnt S)
    (hL0 : L0 = [(b, .cells #[.slice (some ⟨g, 0, none⟩) S.length S.length] 113), (g, .cells cur 116)] ++ (lx ++ R)) (hx : Row 31 1 ax n px (w64s xs) lx) (hgx : 0 < n → ax = some ⟨gx, 0, none⟩)
    (W : World) (T : Turn L0 w0 (intBlk B5 0 26 :: intBlk B4 0 3 :: varBlk B3 ax n px :: L0) W) :
    Calls Try.prog 66 #[.pointer (some ⟨b, 0, none⟩), .func (.func 68) #[] #[.pointer (some ⟨B3, 0, none⟩), .pointer (some ⟨B4, 0, none⟩)]] W
      (EachPost (fun i k W => k = cnt (S.take i) ∧ ∃ cur : Array Value, cur.toList = (tabOf S (mates S xs) i).flatMap Slot.vals ∧
        Turn L0 w0 (intBlk B5 0 26 :: intBlk B4 (clOf (mates S xs) i) 3 :: varBlk B3 ax n px :: ([(b, .cells #[.slice (some ⟨g, 0, none⟩) S.length S.length] 113), (g, .cells cur 116)] ++ (lx ++ R))) W) S.length) := by
  have ef := enters_of Try.func68 (by kernel_rfl) rfl
  have hxl : xs.length = n := by have := hx.1; simp [w64s] at this; omega
  refine each_gen _ ef #[.pointer (some ⟨B3, 0, none⟩), .pointer (some ⟨B4, 0, none⟩)] b g S.length hl _ ?_ ?_ W ⟨rfl, cur, by simpa [tabOf] using hc, by rw [hL0] at T ⊢; exact T⟩
  · rintro i k W ⟨-, cur, hc, T⟩
    have h := T.tail.tail.tail.has
    have hb : (b, Obj.cells #[.slice (some ⟨g, 0, none⟩) S.length S.length] 113 (0, 0)) ∈ [(b, Obj.cells #[.slice (some ⟨g, 0, none⟩) S.length S.length] 113 (0, 0)), (g, Obj.cells cur 116 (0, 0))] ++ (lx ++ R) := by simp
    exact h.cell hb 0
  · rintro i k W hi ⟨hk, cur, hc, T⟩
    obtain ⟨s, hs⟩ : ∃ s, S[i]? = some s := ⟨S[i]'hi, List.getElem?_eq_getElem _⟩
    have h := T.tail.tail.tail.has
    have hlen := tabOf_length S xs i (by omega)
    have hts := tabOf_at (xs := xs) hs
    have h' := h
    rw [← hlen] at h'
    have Wc := wcells hc h'
    obtain ⟨a0, a1, a2⟩ := Wc.at_ i s hts
    refine ⟨s.st, a0, fun h0 => ⟨by rw [cnt_take_zero hs h0]; exact hk, cur, by rw [tabOf_zero_st hs h0]; exact hc, ?_⟩, fun h0 hki => ?_⟩
    · have hm : (mates S xs)[i]? = some (s, 0) := by rw [mates_get, hs]; simp [h0]
      have he : clOf (mates S xs) (i + 1) = clOf (mates S xs) i := by
        unfold clOf
        rw [filter_take_succ hm]
        simp [isClr, h0]
      rw [he]
      exact T
    · have hkn : k < n := by rw [hk, hn]; exact cnt_lt hs h0
      obtain ⟨x, hxk⟩ : ∃ x, xs[k]? = some x := ⟨xs[k]'(by omega), List.getElem?_eq_getElem _⟩
      have hm : (mates S xs)[i]? = some (s, x) := by
        rw [mates_get, hs, ← hk]
        simp [h0, List.getD, hxk]
      have hgx' := hgx (by omega)
      subst hgx'
      obtain ⟨gx', curx, hgx', rfl, -, -⟩ := hx.some_of (by omega)
      obtain rfl : gx = gx' := by cases hgx'; rfl
      have hH := h.perm (l' := [(gx, Obj.cells curx 31 (0, 0))] ++ ([(b, .cells #[.slice (some ⟨g, 0, none⟩) S.length S.length] 113), (g, .cells cur 116)] ++ R)) (perm_of fun c => by simp; omega)
      have hcell : PutCells W g i B3 gx n px k s.st x := by
        refine ⟨a0, T.has.cell (b := B3) (c := #[.slice (some ⟨gx, 0, none⟩) n px]) (e := 30) (f := (0, 0)) (by simp [varBlk]) 0, ?_⟩
        rw [hx.cell hH k (by omega)]
        simp [w64s, hxk]
      have nd := T.has.nd
      simp at nd
      have hcl : clOf (mates S xs) i ≤ 4096 := by
        unfold clOf
        have h1 := List.length_filter_le isClr ((mates S xs).take i)
        have h2 := List.length_take_le i (mates S xs)
        omega
      refine (wPut2_any W hcell hkn (T.has.cell (b := B4) (c := #[.int .i64 (clOf (mates S xs) i)]) (e := 3) (f := (0, 0)) (by simp [intBlk]) 0) (T.has.free (b := B4) (c := #[.int .i64 (clOf (mates S xs) i)]) (e := 3) (by simp [intBlk]) 0) a1 (Wc.free _) (Wc.free _) ?_ ?_ ?_ ?_ ?_ (by omega) (by omega)).mono ?_
      · intro e; simp [e] at nd
      · intro e; simp [e] at nd
      · intro e; simp [e] at nd
      · intro e; simp [e] at nd
      · intro e; simp [e] at nd
      rintro e w' ⟨rfl, rfl⟩
      refine ⟨rfl, by rw [cnt_take_more hs h0, hk], ?_⟩
      have hts' := tabOf_succ hs hm
      have hlt := (List.getElem?_eq_some_iff.1 hts).1
      have s1 := set_toList hc i 1 (by omega) s { s with addr := x } (.int .u64 x) hts rfl
      have hcl1 : clOf (mates S xs) (i + 1) = clOf (mates S xs) i + (if isClr (s, x) then 1 else 0) := by
        unfold clOf
        rw [filter_take_succ hm]
      unfold put2W
      by_cases hx0 : x = 0
      · have s2 := set_toList s1 i 0 (by omega) { s with addr := x } ⟨2, x, s.given⟩ (.int .i64 2) (List.getElem?_set_self hlt) rfl
        rw [List.set_set] at s2
        have hupd : updSlot (s, x) = ⟨2, x, s.given⟩ := by simp [updSlot, h0, hx0]
        rw [if_pos hx0]
        by_cases h1 : s.st = 1
        · rw [if_pos h1]
          have hcl2 : clOf (mates S xs) (i + 1) = clOf (mates S xs) i + 1 := by rw [hcl1]; simp [isClr, h1, hx0]
          refine ⟨(cur.setIfInBounds (i * 3 + 1) (.int .u64 x)).setIfInBounds (i * 3) (.int .i64 2), by rw [hts', hupd]; exact s2, ?_⟩
          have U1 := (T.perm (l2 := intBlk B4 (clOf (mates S xs) i) 3 :: (intBlk B5 0 26 :: varBlk B3 (some ⟨gx, 0, none⟩) n px :: ([(b, .cells #[.slice (some ⟨g, 0, none⟩) S.length S.length] 113), (g, .cells cur 116)] ++ ([(gx, Obj.cells curx 31 (0, 0))] ++ R)))) (perm_of fun c => by simp; omega)).setCell 0 (.int .i64 ((clOf (mates S xs) i : Int) + 1))
          have U2 := (U1.perm (l2 := (g, .cells cur 116) :: (intBlk B4 ((clOf (mates S xs) i : Int) + 1) 3 :: intBlk B5 0 26 :: varBlk B3 (some ⟨gx, 0, none⟩) n px :: (b, .cells #[.slice (some ⟨g, 0, none⟩) S.length S.length] 113) :: ([(gx, Obj.cells curx 31 (0, 0))] ++ R))) (perm_of fun c => by simp [intBlk]; omega)).setCell (i * 3 + 1) (.int .u64 x)
          have U3 := U2.setCell (i * 3) (.int .i64 2)
          rw [hcl2]
          rw [hx0] at U3 ⊢
          exact U3.perm (perm_of fun c => by simp [intBlk]; omega)
        · rw [if_neg h1]
          have hcl2 : clOf (mates S xs) (i + 1) = clOf (mates S xs) i := by rw [hcl1]; simp [isClr, h1]
          refine ⟨(cur.setIfInBounds (i * 3 + 1) (.int .u64 x)).setIfInBounds (i * 3) (.int .i64 2), by rw [hts', hupd]; exact s2, ?_⟩
          have U2 := (T.perm (l2 := (g, .cells cur 116) :: (intBlk B4 (clOf (mates S xs) i) 3 :: intBlk B5 0 26 :: varBlk B3 (some ⟨gx, 0, none⟩) n px :: (b, .cells #[.slice (some ⟨g, 0, none⟩) S.length S.length] 113) :: ([(gx, Obj.cells curx 31 (0, 0))] ++ R))) (perm_of fun c => by simp [intBlk]; omega)).setCell (i * 3 + 1) (.int .u64 x)
          have U3 := U2.setCell (i * 3) (.int .i64 2)
          rw [hcl2]
          rw [hx0] at U3 ⊢
          exact U3.perm (perm_of fun c => by simp [intBlk]; omega)
      · have hupd : updSlot (s, x) = { s with addr := x } := by simp [updSlot, h0, hx0]
        have hcl2 : clOf (mates S xs) (i + 1) = clOf (mates S xs) i := by rw [hcl1]; simp [isClr, hx0]
        rw [if_neg hx0]
        refine ⟨cur.setIfInBounds (i * 3 + 1) (.int .u64 x), by rw [hts', hupd]; exact s1, ?_⟩
        have U2 := (T.perm (l2 := (g, .cells cur 116) :: (intBlk B4 (clOf (mates S xs) i) 3 :: intBlk B5 0 26 :: varBlk B3 (some ⟨gx, 0, none⟩) n px :: (b, .cells #[.slice (some ⟨g, 0, none⟩) S.length S.length] 113) :: ([(gx, Obj.cells curx 31 (0, 0))] ++ R))) (perm_of fun c => by simp [intBlk]; omega)).setCell (i * 3 + 1) (.int .u64 x)
        rw [hcl2]
        exact U2.perm (perm_of fun c => by simp [intBlk]; omega)
end
end Go.Proofs.Ytinpkimflcmkgaa
