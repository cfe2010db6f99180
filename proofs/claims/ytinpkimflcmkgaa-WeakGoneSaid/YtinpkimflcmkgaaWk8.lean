/-
  The table of weak handles of layer 16: contract of Put; skerrylaw16.alive.
  Conditions: the list lies in a block of its own.
-/
import Derived.Test.YtinpkimflcmkgaaWk7
namespace Go.Proofs.Ytinpkimflcmkgaa
open Go Go.RowKit
attribute [local go_sem ↓] Go.wp_at_zero Go.wp_at_succ

section
variable {b : Nat} {S : List Slot} {l R lx : List Blk}

def PutPost (b : Nat) (S : List Slot) (n : Nat) (xs : List Int) (l X : List Blk) (w : World) (e : Ending) (w' : World) : Prop :=
  if n = cnt S ∧ badF S xs = false then e = .returned (.tuple #[.int .i64 (clrF S xs), .int .i64 0]) ∧ ∃ l', WeaksIs b (putF S xs) l' ∧ Turn (l ++ X) w (l' ++ X) w'
  else e = .returned (.tuple #[.int .i64 0, .int .i64 2]) ∧ Turn (l ++ X) w (l ++ X) w'

theorem putPost_no {n : Nat} {xs : List Int} {X : List Blk} {w w' : World} {e : Ending} (h : ¬ (n = cnt S ∧ badF S xs = false)) (he : e = .returned (.tuple #[.int .i64 0, .int .i64 2])) (T : Turn (l ++ X) w (l ++ X) w') : PutPost b S n xs l X w e w' := by
  unfold PutPost
  rw [if_neg h]
  exact ⟨he, T⟩
theorem putPost_yes {n : Nat} {xs : List Int} {l' X : List Blk} {w w' : World} {e : Ending} (h : n = cnt S ∧ badF S xs = false) (he : e = .returned (.tuple #[.int .i64 (clrF S xs), .int .i64 0])) (hS : WeaksIs b (putF S xs) l') (T : Turn (l ++ X) w (l' ++ X) w') : PutPost b S n xs l X w e w' := by
  unfold PutPost
  rw [if_pos h]
  exact ⟨he, l', hS, T⟩

theorem evOf_all (S : List Slot) (xs : List Int) : evOf (mates S xs) S.length = if badF S xs then 2 else 0 := by
  unfold evOf badF
  rw [List.take_of_length_le (by rw [mates_length]; exact Nat.le_refl _)]
theorem clOf_all (S : List Slot) (xs : List Int) : clOf (mates S xs) S.length = clrF S xs := by
  unfold clOf clrF
  rw [List.take_of_length_le (by rw [mates_length]; exact Nat.le_refl _)]
theorem tabOf_all (S : List Slot) (xs : List Int) : tabOf S (mates S xs) S.length = putF S xs := by
  unfold tabOf putF
  rw [List.take_of_length_le (by rw [mates_length]; exact Nat.le_refl _), List.drop_length, List.append_nil]
theorem putF_length (S : List Slot) (xs : List Int) : (putF S xs).length = S.length := by simp [putF, mates_length]
theorem putF_ok (h : WkOk S) (xs : List Int) : WkOk (putF S xs) := by
  rw [← tabOf_all]
  exact ⟨by rw [tabOf_length _ _ _ (Nat.le_refl _)]; exact h.len, fun s hs => (tabOf_state h S.length s hs).1, fun s hs => (tabOf_state h S.length s hs).2⟩

set_option maxRecDepth 100000 in
set_option maxHeartbeats 1600000 in
theorem wPut_any (w : World) (hS : WeaksIs b S l) {ax : Option Addr} {n px : Nat} {xs : List Int} (hx : Row 31 1 ax n px (w64s xs) lx) (hH : Has w (l ++ (lx ++ R))) :
    Calls Try.prog 33 #[.pointer (some ⟨b, 0, none⟩), .slice ax n px] w (PutPost b S n xs l (lx ++ R) w) := by
  have hS0 := hS
  obtain ⟨hok, g, cur, hl, hc⟩ := hS
  have hlen := hok.len
  have hcnt := cnt_le S
  generalize hL : l ++ (lx ++ R) = L at *
  have T0 := (((Turn.refl hH).alloc (.cells #[.slice ax n px] 30)).alloc (.cells #[.int .i64 0] 3)).alloc (.cells #[.int .i64 0] 26)
  simp only [World.size_alloc] at T0
  have hL0 : L = [(b, .cells #[.slice (some ⟨g, 0, none⟩) S.length S.length] 113), (g, .cells cur 116)] ++ (lx ++ R) := by rw [← hL, hl]
  have HL := Lib.hid hL
  obtain ⟨gx, hgx⟩ : ∃ gx, 0 < n → ax = some ⟨gx, 0, none⟩ := by
    by_cases h : 0 < n
    · obtain ⟨gx, curx, h1, -⟩ := hx.some_of h
      exact ⟨gx, fun _ => h1⟩
    · exact ⟨0, fun h' => absurd h' h⟩
  have HL0 := Lib.hid hL0
  have Hgx := Lib.hid hgx
  have Hl := Lib.hid hl
  clear hL hL0 hgx hl
  have hlc : ∀ W : World, Turn L w (intBlk (w.heap.size + 1 + 1) 0 26 :: intBlk (w.heap.size + 1) 0 3 :: varBlk w.heap.size ax n px :: L) W → Calls Try.prog 43 #[.pointer (some ⟨b, 0, none⟩)] W
      fun e w' => e = .returned (.int .i64 (cnt S)) ∧ Turn L w (intBlk (w.heap.size + 1 + 1) 0 26 :: intBlk (w.heap.size + 1) 0 3 :: varBlk w.heap.size ax n px :: L) w' := by
    intro W T
    have T' := T.perm (l2 := l ++ (lx ++ R ++ [intBlk (w.heap.size + 1 + 1) 0 26, intBlk (w.heap.size + 1) 0 3, varBlk w.heap.size ax n px])) (by rw [← HL.out]; exact perm_of fun c => by simp; omega)
    refine (wLen_any W hS0 T'.has).mono ?_
    rintro e w' ⟨rfl, T2⟩
    exact ⟨rfl, (T'.trans T2).perm (by rw [← HL.out]; exact perm_of fun c => by simp; omega)⟩
  have hcells : ∀ (W : World) (ev cv : Int) (X : List Blk), Has W (intBlk (w.heap.size + 1 + 1) ev 26 :: intBlk (w.heap.size + 1) cv 3 :: varBlk w.heap.size ax n px :: X) →
      W.cell? ⟨w.heap.size, 0, none⟩ = some (.slice ax n px) ∧ W.cell? ⟨w.heap.size + 1, 0, none⟩ = some (.int .i64 cv) ∧ W.cell? ⟨w.heap.size + 1 + 1, 0, none⟩ = some (.int .i64 ev) ∧ W.frozen? ⟨w.heap.size + 1, 0, none⟩ = false ∧ W.frozen? ⟨w.heap.size + 1 + 1, 0, none⟩ = false := by
    intro W ev cv X h
    exact ⟨h.cell (b := w.heap.size) (c := #[.slice ax n px]) (e := 30) (f := (0, 0)) (by simp [varBlk]) 0, h.cell (b := w.heap.size + 1) (c := #[.int .i64 cv]) (e := 3) (f := (0, 0)) (by simp [intBlk]) 0,
      h.cell (b := w.heap.size + 1 + 1) (c := #[.int .i64 ev]) (e := 26) (f := (0, 0)) (by simp [intBlk]) 0, h.free (b := w.heap.size + 1) (c := #[.int .i64 cv]) (e := 3) (by simp [intBlk]) 0, h.free (b := w.heap.size + 1 + 1) (c := #[.int .i64 ev]) (e := 26) (by simp [intBlk]) 0⟩
  have Hlc := Lib.hid hlc
  have Hcells := Lib.hid hcells
  have hne1 : w.heap.size + 1 ≠ w.heap.size := by omega
  clear hlc hcells
  go_enter Try.func33, Try.ntmps33
  go_wp2_with fail
  go_region_held3 (fun w' => w'.cell? ⟨w.heap.size, 0, none⟩ = some (.slice ax n px))
    (first | go_keep | exact d3)
    (first | (go_at_call 43; refine (Hlc.out _ T0.drew).mono ?_; rintro e w1 ⟨rfl, T1⟩; obtain ⟨d3, d4, d5, e4, e5⟩ := Hcells.out _ _ _ _ T1.has))
  by_cases hn : n = cnt S
  · have hb1 : ((n : Int) == (cnt S : Int)) = true := by rw [beq_iff_eq]; omega
    have hb2 : ((n : Int) != (cnt S : Int)) = false := by rw [bne_eq_false_iff_eq]; omega
    have hp1 := pass1 (B3 := w.heap.size) (B4 := w.heap.size + 1) (B5 := w.heap.size + 1 + 1) w L hlen hc hn HL0.out hx Hgx.out w1 T1
    have Hp1 := Lib.hid hp1
    have Hn := Lib.hid hn
    clear hp1 hn
    go_wp2_with fail
    refine Hp1.out.mono ?_
    rintro e w2 ⟨rfl, k2, -, -, T2⟩
    rw [evOf_all] at T2
    clear d3 d4 d5 e4 e5
    by_cases hbad : badF S xs = true
    · rw [if_pos hbad] at T2
      obtain ⟨d3, d4, d5, e4, e5⟩ := Hcells.out _ _ _ _ T2.has
      have Hbad := Lib.hid hbad
      clear hbad
      go_wp2_with fail
      go_region
      all_goals go_wp2
      all_goals
        refine bodyPost_ret (v := .tuple #[.int .i64 0, .int .i64 2]) ?_ rfl ?_
        · simp [results, Try.results33, go_sem, d4, d5]
        · refine putPost_no (by rw [Hbad.out]; simp) rfl ?_
          rw [HL.out]
          have U1 := (T2.drew.perm (l2 := intBlk (w.heap.size + 1) 0 3 :: (intBlk (w.heap.size + 1 + 1) 2 26 :: varBlk w.heap.size ax n px :: L)) (perm_of fun c => by simp; omega)).setCell 0 (.int .i64 0)
          have U2 := (U1.perm (l2 := intBlk (w.heap.size + 1 + 1) 2 26 :: (intBlk (w.heap.size + 1) 0 3 :: varBlk w.heap.size ax n px :: L)) (perm_of fun c => by simp [intBlk]; omega)).setCell 0 (.int .i64 2)
          exact U2.tail.tail.tail
    · have hbf : badF S xs = false := by simpa using hbad
      rw [if_neg hbad] at T2
      obtain ⟨d3, d4, d5, e4, e5⟩ := Hcells.out _ _ _ _ T2.has
      have hp2 := pass2 (B3 := w.heap.size) (B4 := w.heap.size + 1) (B5 := w.heap.size + 1 + 1) w L hlen hc Hn.out HL0.out hx Hgx.out w2 T2
      have Hp2 := Lib.hid hp2
      have Hbad := Lib.hid hbf
      clear hbad hbf hp2
      go_wp2_with fail
      refine Hp2.out.mono ?_
      rintro e w3 ⟨rfl, k3, -, -, cur3, hc3, T3⟩
      rw [clOf_all, tabOf_all] at *
      clear d3 d4 d5 e4 e5
      obtain ⟨d3, d4, d5, e4, e5⟩ := Hcells.out _ _ _ _ T3.has
      go_wp2
      refine bodyPost_ret (v := .tuple #[.int .i64 (clrF S xs), .int .i64 0]) ?_ rfl ?_
      · simp [results, Try.results33, go_sem, d4, d5]
      · have U1 := (T3.perm (l2 := intBlk (w.heap.size + 1) (clrF S xs) 3 :: (intBlk (w.heap.size + 1 + 1) 0 26 :: varBlk w.heap.size ax n px :: ([(b, .cells #[.slice (some ⟨g, 0, none⟩) S.length S.length] 113), (g, .cells cur3 116)] ++ (lx ++ R)))) (perm_of fun c => by simp; omega)).setCell 0 (.int .i64 (clrF S xs))
        have U2 := (U1.perm (l2 := intBlk (w.heap.size + 1 + 1) 0 26 :: (intBlk (w.heap.size + 1) (clrF S xs) 3 :: varBlk w.heap.size ax n px :: ([(b, .cells #[.slice (some ⟨g, 0, none⟩) S.length S.length] 113), (g, .cells cur3 116)] ++ (lx ++ R)))) (perm_of fun c => by simp [intBlk]; omega)).setCell 0 (.int .i64 0)
        refine putPost_yes ⟨Hn.out, Hbad.out⟩ rfl (WeaksIs.mk' (g := g) (n := S.length) (putF_ok hok xs) (putF_length S xs).symm hc3) ?_
        rw [HL.out]
        exact U2.tail.tail.tail
  · have hb1 : ((n : Int) == (cnt S : Int)) = false := by rw [beq_eq_false_iff_ne]; omega
    have hb2 : ((n : Int) != (cnt S : Int)) = true := by rw [bne_iff_ne]; omega
    have Hn := Lib.hid hn
    clear hn
    go_wp2
    refine bodyPost_ret (v := .tuple #[.int .i64 0, .int .i64 2]) ?_ rfl ?_
    · simp [results, Try.results33, go_sem, d4, d5]
    · refine putPost_no (fun h => Hn.out h.1) rfl ?_
      rw [HL.out]
      have U1 := (T1.perm (l2 := intBlk (w.heap.size + 1) 0 3 :: (intBlk (w.heap.size + 1 + 1) 0 26 :: varBlk w.heap.size ax n px :: L)) (perm_of fun c => by simp; omega)).setCell 0 (.int .i64 0)
      have U2 := (U1.perm (l2 := intBlk (w.heap.size + 1 + 1) 0 26 :: (intBlk (w.heap.size + 1) 0 3 :: varBlk w.heap.size ax n px :: L)) (perm_of fun c => by simp [intBlk]; omega)).setCell 0 (.int .i64 2)
      exact U2.tail.tail.tail
end
end Go.Proofs.Ytinpkimflcmkgaa
