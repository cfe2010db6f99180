/-
  What no table of hands answers (all but Len, List, Refs).
  Conditions: none.
-/
import Derived.Test.YtinpkimflcmkgaaHd5
namespace Go.Proofs.Ytinpkimflcmkgaa.handNil
open Go Go.RowKit

set_option maxRecDepth 100000 in
theorem nAdd (v : Int) (w : World) : Calls Try.prog 14 #[.pointer none, .int .u64 v] w fun e w' => e = .returned (.tuple #[.int .u64 0, .int .i64 1]) ∧ w = w' := by
  go_enter Try.func14, Try.ntmps14
  go_wp2
  go_ret2
  exact ⟨rfl, rfl⟩

set_option maxRecDepth 100000 in
theorem nFind (x : Int) (w : World) : Calls Try.prog 56 #[.pointer none, .int .u64 x] w fun e w' => e = .returned (.tuple #[.int .i64 0, .int .i64 1]) ∧ w = w' := by
  go_enter Try.func56, Try.ntmps56
  go_wp2
  go_ret2
  exact ⟨rfl, rfl⟩

set_option maxRecDepth 100000 in
theorem nGet (x : Int) (w : World) : Calls Try.prog 17 #[.pointer none, .int .u64 x] w fun e w' => e = .returned (.tuple #[.int .u64 0, .int .i64 1]) ∧ w = w' := by
  go_enter Try.func17, Try.ntmps17
  go_wp2_with (go_at_call 56; refine (nFind x _).mono ?_; rintro e w' ⟨rfl, rfl⟩)
  go_ret2
  exact ⟨rfl, rfl⟩

set_option maxRecDepth 100000 in
theorem nDrop (x : Int) (w : World) : Calls Try.prog 16 #[.pointer none, .int .u64 x] w fun e w' => e = .returned (.int .i64 1) ∧ w = w' := by
  go_enter Try.func16, Try.ntmps16
  go_wp2_with (go_at_call 56; refine (nFind x _).mono ?_; rintro e w' ⟨rfl, rfl⟩)
  go_ret
  exact ⟨rfl, rfl⟩

set_option maxRecDepth 100000 in
theorem nSet (x v : Int) (w : World) : Calls Try.prog 15 #[.pointer none, .int .u64 x, .int .u64 v] w fun e w' => e = .returned (.int .i64 1) ∧ w = w' := by
  go_enter Try.func15, Try.ntmps15
  go_wp2_with (go_at_call 56; refine (nFind x _).mono ?_; rintro e w' ⟨rfl, rfl⟩)
  go_ret
  exact ⟨rfl, rfl⟩

set_option maxRecDepth 100000 in
theorem nCopy (w : World) : Calls Try.prog 54 #[.pointer none] w fun e w' => e = .returned (.pointer none) ∧ w = w' := by
  go_enter Try.func54, Try.ntmps54
  go_wp2
  go_ret
  exact ⟨rfl, rfl⟩

set_option maxRecDepth 100000 in
theorem nPut {R : List Blk} (w : World) (a : Option Addr) (n c : Nat) (hH : Has w R) : Calls Try.prog 52 #[.pointer none, .slice a n c] w fun e w' => e = .returned (.int .i64 1) ∧ Turn R w R w' := by
  have T2 := (((Turn.refl hH).alloc (.cells #[.pointer none] 25)).alloc (.cells #[.slice a n c] 30)).tail.tail
  go_enter Try.func52, Try.ntmps52
  go_wp2
  go_ret
  exact ⟨rfl, T2⟩
end Go.Proofs.Ytinpkimflcmkgaa.handNil
