/-
  skerrylaw14.StackFrames: whatever steps, the law returns true and turns nothing that was there.
  Conditions: the slices of steps can be read.
-/
import Derived.Test.YtinpkimflcmkgaaRf6
namespace Go.Proofs.Ytinpkimflcmkgaa
open Go Go.RowKit

/-- A slice of steps that can be read. -/
structure StepsAt (w : World) (a : Option Addr) (n cap : Nat) (L : List (Int × Int × Int)) : Prop where
  len : L.length = n
  nil : a = none → n = 0
  at_ : ∀ ad, a = some ad → ∀ k d i v, L[k]? = some (d, i, v) → w.cell? (ad.add (k * 3)) = some (.int .i64 d) ∧ w.cell? (ad.add (k * 3 + 1)) = some (.int .i64 i) ∧ w.cell? (ad.add (k * 3 + 2)) = some (.int .u64 v)

/-- The cells of the k-th step, later on. -/
theorem StepsAt.cells {w : World} {a : Option Addr} {n cap : Nat} {L : List (Int × Int × Int)} (h : StepsAt w a n cap L) {wr : World} {l : List Blk} (T : Turn [] w l wr) (k : Nat) (hk : k < n) :
    ∃ b off d i v, a = some ⟨b, off, none⟩ ∧ L[k]? = some (d, i, v) ∧ wr.cell? ⟨b, off + k * 3, none⟩ = some (.int .i64 d) ∧ wr.cell? ⟨b, off + k * 3 + 1, none⟩ = some (.int .i64 i) ∧ wr.cell? ⟨b, off + k * 3 + 2, none⟩ = some (.int .u64 v) := by
  cases a with
  | none =>
    have := h.nil rfl
    omega
  | some ad =>
    obtain ⟨⟨d, i, v⟩, hx⟩ : ∃ x, L[k]? = some x := ⟨L[k]'(by rw [h.len]; exact hk), List.getElem?_eq_getElem _⟩
    obtain ⟨x0, hx0⟩ : ∃ x, L[0]? = some x := ⟨L[0]'(by rw [h.len]; omega), List.getElem?_eq_getElem _⟩
    obtain ⟨d0, i0, v0⟩ := x0
    have h0 := (h.at_ ad rfl 0 d0 i0 v0 hx0).1
    have h0' : ad.add (0 * 3) = ad := by unfold Addr.add; simp
    rw [h0'] at h0
    have hs := spot_of_cell h0
    obtain ⟨b, off, spot⟩ := ad
    obtain rfl : spot = none := hs
    obtain ⟨h1, h2, h3⟩ := h.at_ _ rfl k d i v hx
    rw [add_lit] at h1 h2 h3
    have g1 := (T.cellOld (World.block_lt_of_cell? w _ h1)).trans h1
    have g2 := (T.cellOld (World.block_lt_of_cell? w _ h2)).trans h2
    have g3 := (T.cellOld (World.block_lt_of_cell? w _ h3)).trans h3
    exact ⟨b, off, d, i, v, rfl, hx, g1, by rw [Nat.add_assoc]; exact g2, by rw [Nat.add_assoc]; exact g3⟩

set_option maxRecDepth 100000 in
theorem new_bad (m : Int) (w : World) (h : m < 0 ∨ 4096 < m) : Calls Try.prog 21 #[.int .i64 m] w fun e w' => e = .returned (.tuple #[.pointer none, .int .i64 2]) ∧ w = w' := by
  rcases h with h | h
  · go_enter Try.func21, Try.ntmps21
    go_wp2
    go_ret2
    exact ⟨rfl, rfl⟩
  · have h' : ¬ m < 0 := by omega
    go_enter Try.func21, Try.ntmps21
    go_wp2
    go_ret2
    exact ⟨rfl, rfl⟩

set_option maxRecDepth 100000 in
theorem new_good {R : List Blk} (w : World) (m : Nat) (hm : m ≤ 4096) (hH : Has w R) :
    Calls Try.prog 21 #[.int .i64 m] w fun e w' => ∃ b l, e = .returned (.tuple #[.pointer (some ⟨b, 0, none⟩), .int .i64 0]) ∧ StackIs b [] [] m l ∧ Turn R w (l ++ R) w' := by
  obtain ⟨l0, S0, T0⟩ := new_stack m hm hH
  refine (new_any m w (by omega) (by omega)).mono ?_
  rintro e w' ⟨rfl, rfl⟩
  exact ⟨_, _, rfl, S0, T0⟩

def LawPost (w : World) (e : Ending) (w' : World) : Prop := e = .returned (.bool true) ∧ Turn [] w [] w'

set_option maxRecDepth 100000 in
theorem frames_short (w : World) (max : Int) {a1 a2 : Option Addr} {n1 n2 c1 c2 : Nat} (hb1 : n1 ≤ 140737488355328) (hb2 : n2 ≤ 140737488355328) (h : 300 < n1 + n2 ∨ max < 0 ∨ 4096 < max) :
    Calls Try.prog 6 #[.int .i64 max, .slice a1 n1 c1, .slice a2 n2 c2] w (LawPost w) := by
  by_cases hl : 300 < n1 + n2
  · have hl' : (300 : Int) < (n1 : Int) + (n2 : Int) := by omega
    clear h
    go_enter Try.func6, Try.ntmps6
    go_wp2_with fail
    refine (alive14 w (Has.nil w)).mono ?_
    rintro e w' ⟨rfl, T⟩
    go_wp2
    go_ret
    exact ⟨rfl, T⟩
  · have hl' : ¬ (300 : Int) < (n1 : Int) + (n2 : Int) := by omega
    have h' : max < 0 ∨ 4096 < max := by omega
    clear h
    have H' := Lib.hid h'
    clear h'
    go_enter Try.func6, Try.ntmps6
    go_wp2_with fail
    refine (new_bad max w H'.out).mono ?_
    rintro e w1 ⟨rfl, rfl⟩
    go_wp2_with fail
    refine (alive14 w (Has.nil w)).mono ?_
    rintro e w' ⟨rfl, T⟩
    go_wp2
    go_ret
    exact ⟨rfl, T⟩
end Go.Proofs.Ytinpkimflcmkgaa
