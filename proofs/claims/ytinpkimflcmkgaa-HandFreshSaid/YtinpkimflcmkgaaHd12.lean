/-
  skerrylaw15.alive returns true.
  Conditions: none.
-/
import Derived.Test.YtinpkimflcmkgaaHd11
namespace Go.Proofs.Ytinpkimflcmkgaa
open Go Go.RowKit

section
variable {b : Nat} {S : List HSlot} {l R : List Blk}

theorem hAdd_at (w : World) (hS : HandsIs b S l) (hH : Has w (l ++ R)) (a : Int) (ha : a ≠ 0) (hsm : ∀ s ∈ S, s.given < 4294967294) (i : Nat) (s : HSlot) (hi : S[i]? = some s) (hst : s.addr = 0) (hf : ∀ (j : Nat) (t : HSlot), j < i → S[j]? = some t → t.addr ≠ 0) :
    Calls Try.prog 14 #[.pointer (some ⟨b, 0, none⟩), .int .u64 a] w fun e w' => e = .returned (.tuple #[.int .u64 (wh i (s.given + 1)), .int .i64 0]) ∧ ∃ l', HandsIs b (S.set i ⟨s.given + 1, a⟩) l' ∧ Turn (l ++ R) w (l' ++ R) w' := by
  refine (hAdd_any w hS hH a ha hsm).mono ?_
  rintro e w' (⟨i', s', l', hi', hst', hf', rfl, hS', T⟩ | ⟨hall, -⟩)
  · have hii : i = i' := by
      rcases Nat.lt_trichotomy i i' with h | h | h
      · exact absurd hst (hf' i s h hi)
      · exact h
      · exact absurd hst' (hf i' s' h hi')
    subst hii
    have hss := hi.symm.trans hi'
    cases hss
    exact ⟨rfl, l', hS', T⟩
  · exact absurd hst (hall i s hi)

theorem hAdd_full (w : World) (hS : HandsIs b S l) (hH : Has w (l ++ R)) (a : Int) (ha : a ≠ 0) (hsm : ∀ s ∈ S, s.given < 4294967294) (hall : ∀ (j : Nat) (t : HSlot), S[j]? = some t → t.addr ≠ 0) :
    Calls Try.prog 14 #[.pointer (some ⟨b, 0, none⟩), .int .u64 a] w fun e w' => e = .returned (.tuple #[.int .u64 0, .int .i64 4]) ∧ Turn (l ++ R) w (l ++ R) w' := by
  refine (hAdd_any w hS hH a ha hsm).mono ?_
  rintro e w' (⟨i', s', l', hi', hst', -⟩ | ⟨-, rfl, T⟩)
  · exact absurd hst' (hall i' s' hi')
  · exact ⟨rfl, T⟩
end

theorem hrow2 (B : Nat) (x y : Int) : Row 31 1 (some ⟨B, 0, none⟩) 2 2 (u64s [x, y]) [(B, .cells #[.int .u64 x, .int .u64 y] 31)] := Row.lit B #[.int .u64 x, .int .u64 y] 2 rfl (by unfold maxLen; omega)

set_option maxRecDepth 100000 in
set_option maxHeartbeats 1600000 in
theorem alive15 {R : List Blk} (w : World) (hH : Has w R) : Calls Try.prog 12 #[] w fun e w' => e = .returned (.bool true) ∧ Turn R w R w' := by
  go_enter Try.func12, Try.ntmps12
  go_wp2_with fail
  refine (hNew_any w 2 (by omega) hH).mono ?_
  rintro e w0 ⟨b, l0, rfl, S0, T0⟩
  go_wp2_with fail
  refine (hAdd_at w0 S0 T0.has 16 (by decide) (by decide) 0 zeroHSlot rfl rfl (fun j t hj => absurd hj (Nat.not_lt_zero _))).mono ?_
  rintro e w1 ⟨rfl, l1, S1, T1⟩
  have U1 := T0.trans T1
  clear T0 T1 S0
  rw [show wh 0 (zeroHSlot.given + 1) = 4294967296 from rfl]
  go_wp2_with fail
  refine (hAdd_at w1 S1 U1.has 32 (by decide) (by decide) 1 zeroHSlot rfl rfl (fun j t hj ht => by obtain rfl : j = 0 := (by omega); cases ht; decide)).mono ?_
  rintro e w2 ⟨rfl, l2, S2, T2⟩
  have U2 := U1.trans T2
  clear U1 T2 S1
  rw [show wh 1 (zeroHSlot.given + 1) = 4294967297 from rfl]
  go_wp2_with fail
  refine (hAdd_full w2 S2 U2.has 48 (by decide) (by decide) (fun j t ht => by
    rcases j with _ | _ | j
    · cases ht; decide
    · cases ht; decide
    · cases ht)).mono ?_
  rintro e w3 ⟨rfl, T3⟩
  have U3 := U2.trans T3
  clear U2 T3
  go_wp2_with fail
  refine (hDrop_yes w3 S2 U3.has 0 ⟨1, 16⟩ rfl (by decide)).mono ?_
  rintro e w4 ⟨rfl, l4, S4, T4⟩
  have U4 := U3.trans T4
  clear U3 T4 S2
  go_wp2_with fail
  refine (hGet_no w4 S4 U4.has 4294967296 (by decide) (fun i s hi h0 => by
    rcases i with _ | _ | i
    · cases hi; exact absurd rfl h0
    · cases hi; decide
    · cases hi)).mono ?_
  rintro e w5 ⟨rfl, T5⟩
  have U5 := U4.trans T5
  clear U4 T5
  go_wp2_with fail
  refine (hAdd_at w5 S4 U5.has 48 (by decide) (by decide) 0 ⟨1, 0⟩ rfl rfl (fun j t hj => absurd hj (Nat.not_lt_zero _))).mono ?_
  rintro e w6 ⟨rfl, l6, S6, T6⟩
  have U6 := U5.trans T6
  clear U5 T6 S4
  rw [show wh 0 (1 + 1) = 8589934592 from rfl]
  go_wp2_with fail
  replace S6 : HandsIs b [⟨2, 48⟩, ⟨1, 32⟩] l6 := S6
  have hlv : livingOf [⟨2, 48⟩, ⟨1, 32⟩] 2 = [0, 1] := by decide
  have ha : addrsOf [⟨2, 48⟩, ⟨1, 32⟩] [0, 1] = [48, 32] := by decide
  have hrefs := hRefs_own w6 S6 U6.has
  have hlen := fun (w : World) (R' : List Blk) (h : Has w (l6 ++ R')) => hLen_any w S6 h
  rw [show List.length (α := HSlot) [⟨2, 48⟩, ⟨1, 32⟩] = 2 from rfl, hlv] at hlen
  rw [show List.length (α := HSlot) [⟨2, 48⟩, ⟨1, 32⟩] = 2 from rfl, hlv, ha] at hrefs
  clear hlv ha
  refine hrefs.mono ?_
  rintro e w7 ⟨ao, cap, l7, rfl, hr7, T7⟩
  have U7 := U6.trans T7
  clear U6 T7 hrefs
  have U8 := (U7.alloc (.cells #[.int .u64 48, .int .u64 32] 31)).perm (l2 := [(w7.heap.size, .cells #[.int .u64 48, .int .u64 32] 31)] ++ (l7 ++ (l6 ++ R))) (perm_of fun c => by simp)
  have hs7 := hr7.src (R := (w7.heap.size, .cells #[.int .u64 48, .int .u64 32] 31) :: (l6 ++ R)) (U8.has.perm (perm_of fun c => by simp; omega))
  have hs8 := (hrow2 w7.heap.size 48 32).src U8.has
  clear U7
  go_wp2_with fail
  refine (same_any _ hs7 hs8 (by unfold maxLen; simp)).mono ?_
  rintro e w8 ⟨rfl, k8, rfl⟩
  have U9 := (U8.drewN k8).drop.drop
  clear U8
  go_wp2_with fail
  refine (hlen _ R U9.has).mono ?_
  rintro e w9 ⟨rfl, T9⟩
  go_wp2
  go_ret
  exact ⟨rfl, (U9.trans T9).drop⟩
end Go.Proofs.Ytinpkimflcmkgaa
