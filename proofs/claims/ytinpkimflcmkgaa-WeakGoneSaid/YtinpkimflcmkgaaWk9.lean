/-
  skerrylaw16.alive: the chapter's example comes out as it should; what no table answers.
  Conditions: none.
-/
import Derived.Test.YtinpkimflcmkgaaWk8
namespace Go.Proofs.Ytinpkimflcmkgaa
open Go Go.RowKit

section
variable {b : Nat} {S : List Slot} {l R : List Blk}

theorem wAdd_at (w : World) (hS : WeaksIs b S l) (hH : Has w (l ++ R)) (a : Int) (ha : a ≠ 0) (hsm : ∀ s ∈ S, s.given < 4294967294) (i : Nat) (s : Slot) (hi : S[i]? = some s) (hst : s.st = 0) (hf : ∀ (j : Nat) (t : Slot), j < i → S[j]? = some t → t.st ≠ 0) :
    Calls Try.prog 31 #[.pointer (some ⟨b, 0, none⟩), .int .u64 a] w fun e w' => e = .returned (.tuple #[.int .u64 (wh i (s.given + 1)), .int .i64 0]) ∧ ∃ l', WeaksIs b (S.set i ⟨1, a, s.given + 1⟩) l' ∧ Turn (l ++ R) w (l' ++ R) w' := by
  refine (wAdd_any w hS hH a ha hsm).mono ?_
  rintro e w' (⟨i', s', l', hi', hst', hf', rfl, hS', T⟩ | ⟨hall, -, -⟩)
  · have hii : i' = i := by
      rcases Nat.lt_trichotomy i' i with h | h | h
      · exact absurd hst' (hf i' s' h hi')
      · exact h
      · exact absurd hst (hf' i s h hi)
    subst hii
    have hss := hi.symm.trans hi'
    cases hss
    exact ⟨rfl, l', hS', T⟩
  · exact absurd hst (hall i s hi)

theorem wAdd_full (w : World) (hS : WeaksIs b S l) (hH : Has w (l ++ R)) (a : Int) (ha : a ≠ 0) (hsm : ∀ s ∈ S, s.given < 4294967294) (hall : ∀ (j : Nat) (t : Slot), S[j]? = some t → t.st ≠ 0) :
    Calls Try.prog 31 #[.pointer (some ⟨b, 0, none⟩), .int .u64 a] w fun e w' => e = .returned (.tuple #[.int .u64 0, .int .i64 4]) ∧ Turn (l ++ R) w (l ++ R) w' := by
  refine (wAdd_any w hS hH a ha hsm).mono ?_
  rintro e w' (⟨i', s', l', hi', hst', -⟩ | ⟨-, rfl, T⟩)
  · exact absurd hst' (hall i' s' hi')
  · exact ⟨rfl, T⟩

theorem wPut_good {lx : List Blk} (w : World) (hS : WeaksIs b S l) {ax : Option Addr} {n px : Nat} {xs : List Int} (hx : Row 31 1 ax n px (w64s xs) lx) (hH : Has w (l ++ (lx ++ R))) (h : n = cnt S ∧ badF S xs = false) :
    Calls Try.prog 33 #[.pointer (some ⟨b, 0, none⟩), .slice ax n px] w fun e w' => e = .returned (.tuple #[.int .i64 (clrF S xs), .int .i64 0]) ∧ ∃ l', WeaksIs b (putF S xs) l' ∧ Turn (l ++ (lx ++ R)) w (l' ++ (lx ++ R)) w' := by
  refine (wPut_any w hS hx hH).mono ?_
  intro e w' hp
  unfold PutPost at hp
  rwa [if_pos h] at hp
theorem wPut_bad {lx : List Blk} (w : World) (hS : WeaksIs b S l) {ax : Option Addr} {n px : Nat} {xs : List Int} (hx : Row 31 1 ax n px (w64s xs) lx) (hH : Has w (l ++ (lx ++ R))) (h : ¬ (n = cnt S ∧ badF S xs = false)) :
    Calls Try.prog 33 #[.pointer (some ⟨b, 0, none⟩), .slice ax n px] w fun e w' => e = .returned (.tuple #[.int .i64 0, .int .i64 2]) ∧ Turn (l ++ (lx ++ R)) w (l ++ (lx ++ R)) w' := by
  refine (wPut_any w hS hx hH).mono ?_
  intro e w' hp
  unfold PutPost at hp
  rwa [if_neg h] at hp
end

theorem row2 (B : Nat) (x y : Int) : Row 31 1 (some ⟨B, 0, none⟩) 2 2 (w64s [x, y]) [(B, .cells #[.int .u64 x, .int .u64 y] 31)] := Row.lit B #[.int .u64 x, .int .u64 y] 2 rfl (by unfold maxLen; omega)

set_option maxRecDepth 100000 in
set_option maxHeartbeats 1600000 in
theorem alive16 {R : List Blk} (w : World) (hH : Has w R) : Calls Try.prog 29 #[] w fun e w' => e = .returned (.bool true) ∧ Turn R w R w' := by
  go_enter Try.func29, Try.ntmps29
  go_wp2_with fail
  refine (wNew_any w 2 (by omega) hH).mono ?_
  rintro e w0 ⟨b, l0, rfl, S0, T0⟩
  go_wp2_with fail
  refine (wAdd_at w0 S0 T0.has 16 (by decide) (by decide) 0 zeroSlot rfl rfl (fun j t hj => absurd hj (Nat.not_lt_zero _))).mono ?_
  rintro e w1 ⟨rfl, l1, S1, T1⟩
  have U1 := T0.trans T1
  clear T0 T1 S0
  rw [show wh 0 (zeroSlot.given + 1) = 4294967296 from rfl]
  go_wp2_with fail
  refine (wAdd_at w1 S1 U1.has 32 (by decide) (by decide) 1 zeroSlot rfl rfl (fun j t hj ht => by obtain rfl : j = 0 := (by omega); cases ht; decide)).mono ?_
  rintro e w2 ⟨rfl, l2, S2, T2⟩
  have U2 := U1.trans T2
  clear U1 T2 S1
  rw [show wh 1 (zeroSlot.given + 1) = 4294967297 from rfl]
  have U3 := (U2.alloc (.cells #[.int .u64 0, .int .u64 48] 31)).perm (l2 := l2 ++ ([(w2.heap.size, .cells #[.int .u64 0, .int .u64 48] 31)] ++ R)) (perm_of fun c => by simp; omega)
  go_wp2_with fail
  refine (wPut_good _ S2 (row2 w2.heap.size 0 48) U3.has ⟨rfl, rfl⟩).mono ?_
  rintro e w3 ⟨rfl, l3, S3, T3⟩
  have U4 := (U3.trans T3).perm (l2 := [(w2.heap.size, .cells #[.int .u64 0, .int .u64 48] 31)] ++ (l3 ++ R)) (perm_of fun c => by simp; omega) |>.drop
  clear U2 U3 T3 S2
  generalize hS4 : putF _ [0, 48] = S4 at S3
  have hS5 : S4 = [⟨2, 0, 1⟩, ⟨1, 48, 1⟩] := hS4.symm
  subst hS5
  clear hS4
  go_wp2_with fail
  refine (quiet_turn (wGet_yes w3 S3 U4.has 0 ⟨2, 0, 1⟩ rfl (by decide)) U4.has).mono ?_
  rintro e w4 ⟨rfl, T4⟩
  have U5 := U4.trans T4
  clear U4 T4
  go_wp2_with fail
  refine (quiet_turn (wGet_yes w4 S3 U5.has 1 ⟨1, 48, 1⟩ rfl (by decide)) U5.has).mono ?_
  rintro e w5 ⟨rfl, T5⟩
  have U6 := U5.trans T5
  clear U5 T5
  have U7 := (U6.alloc (.cells #[.int .u64 16, .int .u64 48] 31)).perm (l2 := l3 ++ ([(w5.heap.size, .cells #[.int .u64 16, .int .u64 48] 31)] ++ R)) (perm_of fun c => by simp; omega)
  clear U6
  go_wp2_with fail
  refine (wPut_bad _ S3 (row2 w5.heap.size 16 48) U7.has (by rintro ⟨-, h⟩; exact absurd h (by decide))).mono ?_
  rintro e w6 ⟨rfl, T6⟩
  have U8 := (U7.trans T6).perm (l2 := [(w5.heap.size, .cells #[.int .u64 16, .int .u64 48] 31)] ++ (l3 ++ R)) (perm_of fun c => by simp; omega) |>.drop
  clear U7 T6
  go_wp2_with fail
  refine (wLen_any w6 S3 U8.has).mono ?_
  rintro e w7 ⟨rfl, T7⟩
  rw [show cnt [⟨2, 0, 1⟩, ⟨1, 48, 1⟩] = 2 from rfl]
  go_wp2
  go_ret
  exact ⟨rfl, (U8.trans T7).drop⟩
end Go.Proofs.Ytinpkimflcmkgaa
