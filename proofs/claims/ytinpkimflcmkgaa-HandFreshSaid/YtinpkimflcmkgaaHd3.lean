/-
  The table of hands: Get, Drop, Set.
  Conditions: a table.
-/
import Derived.Test.YtinpkimflcmkgaaHd2
namespace Go.Proofs.Ytinpkimflcmkgaa
open Go Go.RowKit

section
variable {b : Nat} {S : List HSlot} {l R : List Blk}

set_option maxRecDepth 100000 in
theorem hGet_yes (w : World) (hS : HandsIs b S l) (hH : Has w (l ++ R)) (i : Nat) (s : HSlot) (hi : S[i]? = some s) (hst : s.addr ≠ 0) :
    Calls Try.prog 17 #[.pointer (some ⟨b, 0, none⟩), .int .u64 (wh i s.given)] w fun e w' => e = .returned (.tuple #[.int .u64 s.addr, .int .i64 0]) ∧ Turn (l ++ R) w (l ++ R) w' := by
  have hS' := hS
  obtain ⟨hok, g, cur, rfl, hc⟩ := hS
  have hf := quiet_turn (hFind_yes w hS' hH i s hi hst) hH
  have hlt : i < S.length := (List.getElem?_eq_some_iff.1 hi).1
  have hlt' : (i : Int) < (S.length : Int) := by omega
  have Hf := Lib.hid hf
  have Hi := Lib.hid hi
  clear hf hi
  generalize wh i s.given = y at *
  go_enter Try.func17, Try.ntmps17
  go_wp2_with (go_at_call 56; refine Hf.out.mono ?_; rintro e w1 ⟨rfl, T⟩; obtain ⟨c0, at_, -, -⟩ := hcells hc T.has; obtain ⟨a0, a1⟩ := at_ i s Hi.out; clear at_)
  go_ret2
  exact ⟨rfl, T⟩

set_option maxRecDepth 100000 in
theorem hGet_no (w : World) (hS : HandsIs b S l) (hH : Has w (l ++ R)) (x : Nat) (hx : x < 18446744073709551616) (hno : NoHand S x) :
    Calls Try.prog 17 #[.pointer (some ⟨b, 0, none⟩), .int .u64 x] w fun e w' => e = .returned (.tuple #[.int .u64 0, .int .i64 3]) ∧ Turn (l ++ R) w (l ++ R) w' := by
  have hf := quiet_turn (hFind_no w hS hH x hx hno) hH
  have Hf := Lib.hid hf
  clear hf hno
  go_enter Try.func17, Try.ntmps17
  go_wp2_with (go_at_call 56; refine Hf.out.mono ?_; rintro e w1 ⟨rfl, T⟩)
  go_ret2
  exact ⟨rfl, T⟩

set_option maxRecDepth 100000 in
theorem hDrop_no (w : World) (hS : HandsIs b S l) (hH : Has w (l ++ R)) (x : Nat) (hx : x < 18446744073709551616) (hno : NoHand S x) :
    Calls Try.prog 16 #[.pointer (some ⟨b, 0, none⟩), .int .u64 x] w fun e w' => e = .returned (.int .i64 3) ∧ Turn (l ++ R) w (l ++ R) w' := by
  have hf := quiet_turn (hFind_no w hS hH x hx hno) hH
  have Hf := Lib.hid hf
  clear hf hno
  go_enter Try.func16, Try.ntmps16
  go_wp2_with (go_at_call 56; refine Hf.out.mono ?_; rintro e w1 ⟨rfl, T⟩)
  go_ret
  exact ⟨rfl, T⟩

set_option maxRecDepth 100000 in
theorem hDrop_yes (w : World) (hS : HandsIs b S l) (hH : Has w (l ++ R)) (i : Nat) (s : HSlot) (hi : S[i]? = some s) (hst : s.addr ≠ 0) :
    Calls Try.prog 16 #[.pointer (some ⟨b, 0, none⟩), .int .u64 (wh i s.given)] w fun e w' => e = .returned (.int .i64 0) ∧ ∃ l', HandsIs b (S.set i { s with addr := 0 }) l' ∧ Turn (l ++ R) w (l' ++ R) w' := by
  have hS' := hS
  obtain ⟨hok, g, cur, rfl, hc⟩ := hS
  have hf := quiet_turn (hFind_yes w hS' hH i s hi hst) hH
  have hlt : i < S.length := (List.getElem?_eq_some_iff.1 hi).1
  have hlt' : (i : Int) < (S.length : Int) := by omega
  have hsm := hok.small s (List.mem_of_getElem? hi)
  have Hf := Lib.hid hf
  have Hi := Lib.hid hi
  clear hf hi
  generalize wh i s.given = y at *
  go_enter Try.func16, Try.ntmps16
  go_wp2_with (go_at_call 56; refine Hf.out.mono ?_; rintro e w1 ⟨rfl, T⟩; obtain ⟨c0, at_, fr, ne⟩ := hcells hc T.has; obtain ⟨a0, a1⟩ := at_ i s Hi.out; have f1 := fr (i * 2 + 1); clear at_ fr)
  go_ret
  have hc' : (cur.setIfInBounds (i * 2 + 1) (.int .u64 0)).toList = (S.set i { s with addr := 0 }).flatMap HSlot.vals := hset_toList hc i 1 (by omega) s { s with addr := 0 } (.int .u64 0) Hi.out rfl
  exact ⟨rfl, [(b, .cells #[.slice (some ⟨g, 0, none⟩) S.length S.length] 96), (g, .cells (cur.setIfInBounds (i * 2 + 1) (.int .u64 0)) 100)], HandsIs.mk' (hok.set i { s with addr := 0 } hsm) (by simp) hc', ((T.perm (l2 := (g, .cells cur 100) :: ((b, .cells #[.slice (some ⟨g, 0, none⟩) S.length S.length] 96) :: R)) (perm_of fun c => by simp; omega)).setCell (i * 2 + 1) (.int .u64 0)).perm (perm_of fun c => by simp; omega)⟩
end
end Go.Proofs.Ytinpkimflcmkgaa
