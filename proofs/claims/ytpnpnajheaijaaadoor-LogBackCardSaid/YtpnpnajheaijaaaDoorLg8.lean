/-
  The reference's log: the report of a line, up to its numbers.
  Conditions: the text is of at most 4096 bytes; the library's variables hold what the program's text lays.
-/
import Derived.Test.YtpnpnajheaijaaaDoorLg7
namespace Go.Proofs.YtpnpnajheaijaaaDoor
open Go Go.RowKit

set_option maxRecDepth 100000 in
set_option maxHeartbeats 1600000 in
theorem back_eq (w : World) (g o c : Nat) (hc : 6 ≤ c) (x0 x1 x2 x3 x4 x5 : Int) (h : w.rangeAt g o [.int .i64 x0, .int .i64 x1, .int .i64 x2, .int .i64 x3, .int .i64 x4, .int .i64 x5]) :
    Calls Tryd.prog 25 #[.slice (some ⟨g, o, none⟩) 6 c] w fun e w' => e = .returned (.agg #[.int .i64 x0, .int .i64 x1, .int .i64 x2, .int .i64 x3, .int .i64 x4, .int .i64 x5]) ∧
      w' = (w.alloc (.cells #[.int .i64 x0, .int .i64 x1, .int .i64 x2, .int .i64 x3, .int .i64 x4, .int .i64 x5] 23)).drew := by
  have c0 := h 0 _ rfl
  have c1 := h 1 _ rfl
  have c2 := h 2 _ rfl
  have c3 := h 3 _ rfl
  have c4 := h 4 _ rfl
  have c5 := h 5 _ rfl
  rw [Nat.add_zero] at c0
  have hl := World.block_lt_of_cell? w _ c0
  clear h
  go_enter Tryd.func25, Tryd.ntmps25
  go_wp2_with fail
  go_region_held3 (fun w' => w'.cell? ⟨g, o, none⟩ = some (.int .i64 x0) ∧ w'.cell? ⟨g, o + 1, none⟩ = some (.int .i64 x1) ∧ w'.cell? ⟨g, o + 2, none⟩ = some (.int .i64 x2) ∧ w'.cell? ⟨g, o + 3, none⟩ = some (.int .i64 x3) ∧ w'.cell? ⟨g, o + 4, none⟩ = some (.int .i64 x4) ∧ w'.cell? ⟨g, o + 5, none⟩ = some (.int .i64 x5)) (go_keep) (fail)
  go_wp2
  refine bodyPost_ret (v := .agg #[.int .i64 x0, .int .i64 x1, .int .i64 x2, .int .i64 x3, .int .i64 x4, .int .i64 x5]) ?_ rfl ?_
  · simp [results, Tryd.results25, go_sem]
  · exact ⟨rfl, rfl⟩
end Go.Proofs.YtpnpnajheaijaaaDoor
