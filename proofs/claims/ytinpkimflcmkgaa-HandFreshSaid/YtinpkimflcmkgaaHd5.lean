/-
  The table of hands: Add.
  Conditions: a table whose slots were each given less than 2^32 - 2 times.
-/
import Derived.Test.YtinpkimflcmkgaaHd4
namespace Go.Proofs.Ytinpkimflcmkgaa
open Go Go.RowKit

section
variable {b : Nat} {S : List HSlot} {l R : List Blk}

def HAddPost (b : Nat) (S : List HSlot) (a : Int) (l R : List Blk) (w : World) (e : Ending) (w' : World) : Prop :=
  (∃ i s l', S[i]? = some s ∧ s.addr = 0 ∧ (∀ (j : Nat) (t : HSlot), j < i → S[j]? = some t → t.addr ≠ 0) ∧ e = .returned (.tuple #[.int .u64 (wh i (s.given + 1)), .int .i64 0]) ∧ HandsIs b (S.set i ⟨s.given + 1, a⟩) l' ∧ Turn (l ++ R) w (l' ++ R) w') ∨
  ((∀ (j : Nat) (t : HSlot), S[j]? = some t → t.addr ≠ 0) ∧ e = .returned (.tuple #[.int .u64 0, .int .i64 4]) ∧ Turn (l ++ R) w (l ++ R) w')

set_option maxRecDepth 100000 in
theorem hAdd_zero (w : World) : Calls Try.prog 14 #[.pointer (some ⟨b, 0, none⟩), .int .u64 0] w fun e w' => e = .returned (.tuple #[.int .u64 0, .int .i64 2]) ∧ w = w' := by
  go_enter Try.func14, Try.ntmps14
  go_wp2
  go_ret2
  exact ⟨rfl, rfl⟩

theorem hset2_toList {cur : Array Value} (hc : cur.toList = S.flatMap HSlot.vals) (i : Nat) (s : HSlot) (hi : S[i]? = some s) (a : Int) (g : Nat) :
    ((cur.setIfInBounds (i * 2 + 1) (.int .u64 a)).setIfInBounds (i * 2) (.int .u64 g)).toList = (S.set i ⟨g, a⟩).flatMap HSlot.vals := by
  have hlt : i < S.length := (List.getElem?_eq_some_iff.1 hi).1
  have h1 := hset_toList hc i 1 (by omega) s { s with addr := a } (.int .u64 a) hi rfl
  have h2 := hset_toList (S := S.set i { s with addr := a }) h1 i 0 (by omega) { s with addr := a } ⟨g, a⟩ (.int .u64 g) (List.getElem?_set_self hlt) rfl
  rw [Nat.add_zero, List.set_set] at h2
  exact h2

set_option maxRecDepth 100000 in
theorem hAdd_any (w : World) (hS : HandsIs b S l) (hH : Has w (l ++ R)) (a : Int) (ha : a ≠ 0) (hsm : ∀ s ∈ S, s.given < 4294967294) :
    Calls Try.prog 14 #[.pointer (some ⟨b, 0, none⟩), .int .u64 a] w (HAddPost b S a l R w) := by
  obtain ⟨hok, g, cur, rfl, hc⟩ := hS
  have hl := hok.len
  have W := hcells hc hH
  have HW := Lib.hid W
  have c0 := W.c0
  have hb0 : (a == 0) = false := by simpa using ha
  have T := Turn.refl hH
  clear W
  go_enter Try.func14, Try.ntmps14
  go_wp2_with fail
  go_loop [18] (fun q => ∃ k : Nat, k ≤ S.length ∧ q = .int .i64 k ∧ ∀ (j : Nat) (t : HSlot), j < k → S[j]? = some t → t.addr ≠ 0) (fun q => S.length - (intOf q).toNat)
  case atStart => exact ⟨0, Nat.zero_le _, rfl, fun j t hj => absurd hj (Nat.not_lt_zero _)⟩
  case round =>
    obtain ⟨k, hk, rfl, hall⟩ := hrel
    have Hall := Lib.hid hall
    clear hall
    by_cases hlt : k < S.length
    · have hlt' : (k : Int) < (S.length : Int) := by omega
      obtain ⟨s, hs⟩ : ∃ s, S[k]? = some s := ⟨S[k]'hlt, List.getElem?_eq_getElem _⟩
      obtain ⟨a0, a1⟩ := HW.out.at_ k s hs
      have f0 := HW.out.free (k * 2)
      have f1 := HW.out.free (k * 2 + 1)
      have hne := HW.out.ne
      have hg := hsm s (List.mem_of_getElem? hs)
      have Hs := Lib.hid hs
      clear hs
      by_cases hz : s.addr = 0
      · rw [hz] at a1
        have hb1 : ((0 : Int) != 0) = false := rfl
        have hok' := hok.set k ⟨s.given + 1, a⟩ (show s.given + 1 < _ by omega)
        have hc' := hset2_toList hc k s Hs.out a (s.given + 1)
        have T2 := (((T.perm (l2 := (g, .cells cur 100) :: ((b, .cells #[.slice (some ⟨g, 0, none⟩) S.length S.length] 96) :: R)) (perm_of fun c => by simp; omega)).setCell (k * 2 + 1) (.int .u64 a)).setCell (k * 2) (.int .u64 ((s.given + 1 : Nat) : Int))).perm (l2 := [(b, .cells #[.slice (some ⟨g, 0, none⟩) S.length S.length] 96), (g, .cells ((cur.setIfInBounds (k * 2 + 1) (.int .u64 a)).setIfInBounds (k * 2) (.int .u64 ((s.given + 1 : Nat) : Int))) 100)] ++ R) (perm_of fun c => by simp; omega)
        have hS2 : HandsIs b (S.set k ⟨s.given + 1, a⟩) [(b, .cells #[.slice (some ⟨g, 0, none⟩) S.length S.length] 96), (g, .cells ((cur.setIfInBounds (k * 2 + 1) (.int .u64 a)).setIfInBounds (k * 2) (.int .u64 ((s.given + 1 : Nat) : Int))) 100)] := HandsIs.mk' hok' (by simp) hc'
        have hh := handle_any _ hS2 T2.has k ⟨s.given + 1, a⟩ (List.getElem?_set_self hlt)
        have Hh := Lib.hid hh
        have HT2 := Lib.hid T2
        have hcast : ((s.given + 1 : Nat) : Int) = (s.given : Int) + 1 := by omega
        rw [hcast] at Hh
        clear hh T2 hc' hok' hcast
        go_wp2_with (go_at_call 55; refine Hh.out.mono ?_; rintro e w' ⟨rfl, rfl⟩)
        go_ret2
        exact .inl ⟨k, s, _, Hs.out, hz, Hall.out, rfl, hS2, HT2.out⟩
      · have hb1 : (s.addr != 0) = true := by simpa using hz
        go_wp2
        go_round
        case rel => exact ⟨k + 1, by omega, by go_num, fun j t hj ht => by
          by_cases hjk : j = k
          · subst hjk; rw [Hs.out] at ht; cases ht; exact hz
          · exact Hall.out j t (by omega) ht⟩
        case measure => simp [intOf]; omega
    · have hge : ¬ (k : Int) < (S.length : Int) := by omega
      go_wp2
      go_ret2
      exact .inr ⟨fun j t ht => Hall.out j t (by have := (List.getElem?_eq_some_iff.1 ht).1; omega) ht, rfl, T⟩
end
end Go.Proofs.Ytinpkimflcmkgaa
