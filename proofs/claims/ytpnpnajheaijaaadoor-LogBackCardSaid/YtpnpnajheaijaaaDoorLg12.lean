/-
  The log: a new one that is none; how many it keeps.
  Conditions: none.
-/
import Derived.Test.YtpnpnajheaijaaaDoorLg11
namespace Go.Proofs.YtpnpnajheaijaaaDoor
open Go Go.RowKit

set_option maxRecDepth 100000 in
theorem new_bad (w : World) (m : Int) (h : m < 1 ∨ 1024 < m) :
    Calls Tryd.prog 12 #[.int .i64 m] w fun e w' => e = .returned (.tuple #[.pointer none, .int .i64 2]) ∧ w' = w := by
  by_cases h1 : m < 1
  · go_enter Tryd.func12, Tryd.ntmps12
    go_wp2
    go_ret2
    exact ⟨rfl, rfl⟩
  · have h2 : 1024 < m := by omega
    go_enter Tryd.func12, Tryd.ntmps12
    go_wp2
    go_ret2
    exact ⟨rfl, rfl⟩

theorem foldl_len : ∀ (xs : List (List Int)) (s : List Int), s.length = 8 → (xs.foldl sumAdd s).length = 8
  | [], _, h => h
  | r :: xs, s, _ => foldl_len xs (sumAdd s r) rfl
theorem sumOf_length (xs : List (List Int)) : (sumOf xs).length = 8 := foldl_len xs noSum rfl

theorem LogIs.cells {b m : Nat} {xs : List (List Int)} {l R : List Blk} {w : World} (h : LogIs b m xs l) (hH : Has w (l ++ R)) :
    ∃ g, w.cell? ⟨b, 8, none⟩ = some (.slice (some ⟨g, 0, none⟩) m m) ∧ w.cell? ⟨b, 9, none⟩ = some (.int .i64 (min xs.length m : Nat)) ∧ w.cell? ⟨b, 10, none⟩ = some (.int .i64 (xs.length % m : Nat)) := by
  obtain ⟨g, cur, c, rfl, -, -, -⟩ := h
  have hl : (i64s (sumOf xs)).length = 8 := by rw [i64s_length, sumOf_length]
  refine ⟨g, ?_, ?_, ?_⟩ <;>
    (rw [hH.cell (b := b) (List.mem_cons_self ..), List.getElem?_toArray, List.getElem?_append_right (by omega), hl]; rfl)

set_option maxRecDepth 100000 in
theorem len_any {b m : Nat} {xs : List (List Int)} {l R : List Blk} (w : World) (h : LogIs b m xs l) (hH : Has w (l ++ R)) :
    Calls Tryd.prog 19 #[.pointer (some ⟨b, 0, none⟩)] w fun e w' => e = .returned (.int .i64 (min xs.length m : Nat)) ∧ w' = w := by
  obtain ⟨g, -, c9, -⟩ := h.cells hH
  generalize min xs.length m = n at *
  go_enter Tryd.func19, Tryd.ntmps19
  go_wp2
  go_ret
  exact ⟨rfl, rfl⟩

set_option maxRecDepth 100000 in
theorem len_nil (w : World) : Calls Tryd.prog 19 #[.pointer none] w fun e w' => e = .returned (.int .i64 0) ∧ w' = w := by
  go_enter Tryd.func19, Tryd.ntmps19
  go_wp2
  go_ret
  exact ⟨rfl, rfl⟩
end Go.Proofs.YtpnpnajheaijaaaDoor
