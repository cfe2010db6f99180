/-
  The table of hands: find where there is none; Get, Drop, Set.
  Conditions: a table.
-/
import Derived.Test.YtinpkimflcmkgaaHd1
namespace Go.Proofs.Ytinpkimflcmkgaa
open Go Go.RowKit

section
variable {b : Nat} {S : List HSlot} {l R : List Blk}

set_option maxRecDepth 100000 in
theorem hFind_no (w : World) (hS : HandsIs b S l) (hH : Has w (l ++ R)) (x : Nat) (hx : x < 18446744073709551616) (hno : NoHand S x) :
    Calls Try.prog 56 #[.pointer (some ⟨b, 0, none⟩), .int .u64 x] w fun e w' => e = .returned (.tuple #[.int .i64 0, .int .i64 3]) ∧ ∃ n, w' = w.drewN n := by
  have hS' := hS
  obtain ⟨hok, g, cur, rfl, hc⟩ := hS
  have W := hcells hc hH
  obtain ⟨c0, at_, -, -⟩ := W
  have hand := and_low x hx
  have hl := hok.len
  have hxm : x % 4294967296 < 4294967296 := Nat.mod_lt _ (by omega)
  generalize hi : x % 4294967296 = i at hand hxm
  have Hand := Lib.hid hand
  by_cases hlt : i < S.length
  · obtain ⟨s, hs⟩ : ∃ s, S[i]? = some s := ⟨S[i]'hlt, List.getElem?_eq_getElem _⟩
    obtain ⟨a0, a1⟩ := at_ i s hs
    have hlt' : (i : Int) < (S.length : Int) := by omega
    have hmin : min (i : Int) ((S.length : Int) - 1) = i := by omega
    have hwr : IntKind.i64.wrap ((S.length : Int) - 1) = (S.length : Int) - 1 := IntWalk.i64_in _ (by omega)
    by_cases hst : s.addr = 0
    · rw [hst] at a1
      clear at_ hno hst hs hi
      go_enter Try.func56, Try.ntmps56
      go_wp2_with fail
      go_quiet (fail)
      go_wp2
      go_ret2
      exact ⟨rfl, _, rfl⟩
    · have hne := hno i s hs hst
      have hb0 : (s.addr != 0) = true := by simpa using hst
      have hb1 : (wh i s.given != (x : Int)) = true := by rw [bne_iff_ne]; exact Ne.symm hne
      have hw : ∀ n : Nat, Calls Try.prog 55 #[.pointer (some ⟨b, 0, none⟩), .int .i64 i] (w.drewN n) fun e w' => e = .returned (.int .u64 (wh i s.given)) ∧ w.drewN n = w' := fun n => handle_any _ hS' (hH.drewN n) i s hs
      have Hw := Lib.hid hw
      generalize wh i s.given = y at *
      clear at_ hno hst hs hi hw hne
      go_enter Try.func56, Try.ntmps56
      go_wp2_with fail
      go_quiet (fail)
      go_wp2_with (go_at_call 55; refine (Hw.out _).mono ?_; rintro e w' ⟨rfl, rfl⟩)
      go_ret2
      exact ⟨rfl, _, rfl⟩
  · have hlt' : ¬ (i : Int) < (S.length : Int) := by omega
    clear at_ hno hi
    go_enter Try.func56, Try.ntmps56
    go_wp2_with fail
    go_quiet (fail)
    go_wp2
    go_ret2
    exact ⟨rfl, _, rfl⟩
end
end Go.Proofs.Ytinpkimflcmkgaa
