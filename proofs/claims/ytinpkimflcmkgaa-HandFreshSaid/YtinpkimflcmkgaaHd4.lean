/-
  The table of hands: Set.
  Conditions: a table.
-/
import Derived.Test.YtinpkimflcmkgaaHd3
namespace Go.Proofs.Ytinpkimflcmkgaa
open Go Go.RowKit

section
variable {b : Nat} {S : List HSlot} {l R : List Blk}

set_option maxRecDepth 100000 in
theorem hSet_zero (w : World) (x : Int) :
    Calls Try.prog 15 #[.pointer (some ⟨b, 0, none⟩), .int .u64 x, .int .u64 0] w fun e w' => e = .returned (.int .i64 2) ∧ w = w' := by
  go_enter Try.func15, Try.ntmps15
  go_wp2
  go_ret
  exact ⟨rfl, rfl⟩

set_option maxRecDepth 100000 in
theorem hSet_no (w : World) (hS : HandsIs b S l) (hH : Has w (l ++ R)) (x : Nat) (hx : x < 18446744073709551616) (hno : NoHand S x) (a : Int) (ha : a ≠ 0) :
    Calls Try.prog 15 #[.pointer (some ⟨b, 0, none⟩), .int .u64 x, .int .u64 a] w fun e w' => e = .returned (.int .i64 3) ∧ Turn (l ++ R) w (l ++ R) w' := by
  have hf := quiet_turn (hFind_no w hS hH x hx hno) hH
  have Hf := Lib.hid hf
  have hb0 : (a == 0) = false := by simpa using ha
  clear hf hno
  go_enter Try.func15, Try.ntmps15
  go_wp2_with (go_at_call 56; refine Hf.out.mono ?_; rintro e w1 ⟨rfl, T⟩)
  go_ret
  exact ⟨rfl, T⟩

set_option maxRecDepth 100000 in
theorem hSet_yes (w : World) (hS : HandsIs b S l) (hH : Has w (l ++ R)) (i : Nat) (s : HSlot) (hi : S[i]? = some s) (hst : s.addr ≠ 0) (a : Int) (ha : a ≠ 0) :
    Calls Try.prog 15 #[.pointer (some ⟨b, 0, none⟩), .int .u64 (wh i s.given), .int .u64 a] w fun e w' => e = .returned (.int .i64 0) ∧ ∃ l', HandsIs b (S.set i { s with addr := a }) l' ∧ Turn (l ++ R) w (l' ++ R) w' := by
  have hS' := hS
  obtain ⟨hok, g, cur, rfl, hc⟩ := hS
  have hf := quiet_turn (hFind_yes w hS' hH i s hi hst) hH
  have hlt : i < S.length := (List.getElem?_eq_some_iff.1 hi).1
  have hlt' : (i : Int) < (S.length : Int) := by omega
  have hsm := hok.small s (List.mem_of_getElem? hi)
  have hb0 : (a == 0) = false := by simpa using ha
  have Hf := Lib.hid hf
  have Hi := Lib.hid hi
  clear hf hi
  generalize wh i s.given = y at *
  go_enter Try.func15, Try.ntmps15
  go_wp2_with (go_at_call 56; refine Hf.out.mono ?_; rintro e w1 ⟨rfl, T⟩; obtain ⟨c0, at_, fr, ne⟩ := hcells hc T.has; obtain ⟨a0, a1⟩ := at_ i s Hi.out; have f1 := fr (i * 2 + 1); clear at_ fr)
  go_ret
  have hc' : (cur.setIfInBounds (i * 2 + 1) (.int .u64 a)).toList = (S.set i { s with addr := a }).flatMap HSlot.vals := hset_toList hc i 1 (by omega) s { s with addr := a } (.int .u64 a) Hi.out rfl
  exact ⟨rfl, [(b, .cells #[.slice (some ⟨g, 0, none⟩) S.length S.length] 96), (g, .cells (cur.setIfInBounds (i * 2 + 1) (.int .u64 a)) 100)], HandsIs.mk' (hok.set i { s with addr := a } hsm) (by simp) hc', ((T.perm (l2 := (g, .cells cur 100) :: ((b, .cells #[.slice (some ⟨g, 0, none⟩) S.length S.length] 96) :: R)) (perm_of fun c => by simp; omega)).setCell (i * 2 + 1) (.int .u64 a)).perm (perm_of fun c => by simp; omega)⟩
end
end Go.Proofs.Ytinpkimflcmkgaa
