/-
  skerrylaw15: the steps of a script as they lie in memory; Long.
  Conditions: the steps can be read.
-/
import Derived.Test.YtinpkimflcmkgaaHf1
namespace Go.Proofs.Ytinpkimflcmkgaa
open Go Go.RowKit

structure HStep where
  act : Int
  k : Int
  x : Int
  addr : Int
  la : Option Addr
  ln : Nat
  lc : Nat

/-- A slice of steps that can be read, and each step's list. -/
structure HStepsAt (w : World) (a : Option Addr) (n : Nat) (L : List HStep) : Prop where
  len : L.length = n
  nil : a = none → n = 0
  at_ : ∀ ad, a = some ad → ∀ (i : Nat) (s : HStep), L[i]? = some s → w.cell? (ad.add (i * 5)) = some (.int .i64 s.act) ∧ w.cell? (ad.add (i * 5 + 1)) = some (.int .i64 s.k) ∧ w.cell? (ad.add (i * 5 + 2)) = some (.int .u64 s.x) ∧ w.cell? (ad.add (i * 5 + 3)) = some (.int .u64 s.addr) ∧ w.cell? (ad.add (i * 5 + 4)) = some (.slice s.la s.ln s.lc)
  small : ∀ (i : Nat) (s : HStep), L[i]? = some s → s.ln ≤ 17592186044416
  few : n ≤ 17592186044416

structure HStepCells (w : World) (b o : Nat) (s : HStep) : Prop where
  c0 : w.cell? ⟨b, o, none⟩ = some (.int .i64 s.act)
  c1 : w.cell? ⟨b, o + 1, none⟩ = some (.int .i64 s.k)
  c2 : w.cell? ⟨b, o + 2, none⟩ = some (.int .u64 s.x)
  c3 : w.cell? ⟨b, o + 3, none⟩ = some (.int .u64 s.addr)
  c4 : w.cell? ⟨b, o + 4, none⟩ = some (.slice s.la s.ln s.lc)

theorem HStepsAt.cells {w : World} {a : Option Addr} {n : Nat} {L : List HStep} (h : HStepsAt w a n L) {wr : World} {l : List Blk} (T : Turn [] w l wr) (k : Nat) (hk : k < n) :
    ∃ b off s, a = some ⟨b, off, none⟩ ∧ L[k]? = some s ∧ HStepCells wr b (off + k * 5) s ∧ b < w.heap.size := by
  cases a with
  | none =>
    have := h.nil rfl
    omega
  | some ad =>
    obtain ⟨s, hx⟩ : ∃ x, L[k]? = some x := ⟨L[k]'(by rw [h.len]; exact hk), List.getElem?_eq_getElem _⟩
    obtain ⟨s0, hx0⟩ : ∃ x, L[0]? = some x := ⟨L[0]'(by rw [h.len]; omega), List.getElem?_eq_getElem _⟩
    have h0 := (h.at_ ad rfl 0 s0 hx0).1
    have h0' : ad.add (0 * 5) = ad := by unfold Addr.add; simp
    rw [h0'] at h0
    have hs := spot_of_cell h0
    obtain ⟨b, off, spot⟩ := ad
    obtain rfl : spot = none := hs
    obtain ⟨h1, h2, h3, h4, h5⟩ := h.at_ _ rfl k s hx
    rw [add_lit] at h1 h2 h3 h4 h5
    have hlt := World.block_lt_of_cell? w _ h1
    have go : ∀ (o : Nat) (v : Value), w.cell? ⟨b, o, none⟩ = some v → wr.cell? ⟨b, o, none⟩ = some v := fun o v hv => (T.cellOld (World.block_lt_of_cell? w _ hv)).trans hv
    exact ⟨b, off, s, rfl, hx, ⟨go _ _ h1, by rw [Nat.add_assoc]; exact go _ _ h2, by rw [Nat.add_assoc]; exact go _ _ h3, by rw [Nat.add_assoc]; exact go _ _ h4, by rw [Nat.add_assoc]; exact go _ _ h5⟩, hlt⟩

/-- The list of each step that is played is short. -/
def HLongPost (w : World) (n : Nat) (L : List HStep) (e : Ending) (w' : World) : Prop := ∃ r, e = .returned (.bool r) ∧ w = w' ∧ (r = false → n ≤ 200 ∧ ∀ (i : Nat) (s : HStep), L[i]? = some s → s.ln ≤ 2000)

set_option maxRecDepth 100000 in
theorem long15_any (w : World) {a : Option Addr} {n c : Nat} {L : List HStep} (h : HStepsAt w a n L) :
    Calls Try.prog 11 #[.slice a n c] w (HLongPost w n L) := by
  have hn := h.few
  go_enter Try.func11, Try.ntmps11
  go_wp2_with fail
  go_loop [3, 4] (fun m i => ∃ (k q : Nat), k ≤ n ∧ k ≤ 200 ∧ i = .int .i64 k ∧ m = .int .i64 q ∧ n ≤ q ∧ q ≤ n + k * 2199023255552 ∧ ∀ (j : Nat) (s : HStep), j < k → L[j]? = some s → s.ln / 8 + n ≤ q) (fun _ i => 201 - (intOf i).toNat)
  case atStart => exact ⟨0, n, Nat.zero_le _, Nat.zero_le _, rfl, rfl, Nat.le_refl _, by omega, fun j s hj => absurd hj (Nat.not_lt_zero _)⟩
  case round =>
    obtain ⟨k, q, hk, hk2, rfl, rfl, hq1, hq2, hall⟩ := hrel
    have Hall := Lib.hid hall
    clear hall
    by_cases hlt : k < n ∧ k < 200
    · obtain ⟨hlt, hlt2⟩ := hlt
      have hlt' : (k : Int) < (n : Int) := by omega
      have hlt2' : (k : Int) < 200 := by omega
      obtain ⟨b, off, s, rfl, hs, ⟨c0, c1, c2, c3, c4⟩, -⟩ := h.cells (Turn.refl (Has.nil w)) k hlt
      have hsm := h.small k s hs
      have Hs := Lib.hid hs
      clear hs
      have hd : s.ln / 8 ≤ 2199023255552 := by omega
      go_wp2
      go_round
      case rel =>
        refine ⟨k + 1, q + s.ln / 8, by omega, by omega, by go_num, by go_num, by omega, by omega, fun j t hj ht => ?_⟩
        by_cases hjk : j = k
        · subst hjk
          rw [Hs.out] at ht; cases ht
          omega
        · have := Hall.out j t (by omega) ht
          omega
      case measure => simp [intOf]; omega
    · by_cases hlt3 : k < n
      · have hk200 : k = 200 := by omega
        have Hk := Lib.hid hk200
        have hlt3' : (k : Int) < (n : Int) := by omega
        have hge : ¬ (k : Int) < 200 := by omega
        have hqn : 200 < q := by omega
        clear hk200
        go_wp2
        go_ret
        exact ⟨_, rfl, rfl, fun h => by rw [decide_eq_false_iff_not] at h; omega⟩
      · have hge : ¬ (k : Int) < (n : Int) := by omega
        by_cases hq : 200 < q
        · go_wp2
          go_ret
          exact ⟨_, rfl, rfl, fun h => by rw [decide_eq_false_iff_not] at h; omega⟩
        · go_wp2
          go_ret
          refine ⟨_, rfl, rfl, fun _ => ⟨by omega, fun i s hs => ?_⟩⟩
          have := Hall.out i s (by have := (List.getElem?_eq_some_iff.1 hs).1; have := h.len; omega) hs
          omega
end Go.Proofs.Ytinpkimflcmkgaa
