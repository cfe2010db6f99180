/-
  The table of weak handles of layer 16: contract of Put.
  Conditions: none beyond what each contract states.
-/
import Derived.Test.YtinpkimflcmkgaaWk5
import Derived.Deep.RegionHeld3
namespace Go.Proofs.Ytinpkimflcmkgaa
open Go Go.RowKit
attribute [local go_sem ↓] Go.wp_at_zero Go.wp_at_succ

/-- Each slot, and the address that a Put has for it. -/
def mates : List Slot → List Int → List (Slot × Int)
  | [], _ => []
  | s :: S, xs => if s.st = 0 then (s, 0) :: mates S xs else (s, xs.headD 0) :: mates S xs.tail
def updSlot (p : Slot × Int) : Slot := if p.1.st = 0 then p.1 else ⟨if p.2 = 0 then 2 else p.1.st, p.2, p.1.given⟩
def isBad (p : Slot × Int) : Bool := p.1.st == 2 && p.2 != 0
def isClr (p : Slot × Int) : Bool := p.1.st == 1 && p.2 == 0
def putF (S : List Slot) (xs : List Int) : List Slot := (mates S xs).map updSlot
def clrF (S : List Slot) (xs : List Int) : Nat := ((mates S xs).filter isClr).length
def badF (S : List Slot) (xs : List Int) : Bool := (mates S xs).any isBad

theorem cnt_cons (s : Slot) (S : List Slot) : cnt (s :: S) = (if s.st = 0 then 0 else 1) + cnt S := by
  by_cases h : s.st = 0 <;> simp [cnt, h] <;> omega

theorem mates_get (S : List Slot) (xs : List Int) (i : Nat) : (mates S xs)[i]? = S[i]?.map fun s => (s, if s.st = 0 then 0 else xs.getD (cnt (S.take i)) 0) := by
  induction S generalizing xs i with
  | nil => simp [mates]
  | cons s S ih =>
    unfold mates
    by_cases h : s.st = 0
    · rw [if_pos h]
      cases i with
      | zero => simp [h]
      | succ i =>
        rw [List.getElem?_cons_succ, List.getElem?_cons_succ, ih, List.take_succ_cons, cnt_cons, if_pos h, Nat.zero_add]
    · rw [if_neg h]
      cases i with
      | zero => cases xs <;> simp [h, cnt]
      | succ i =>
        rw [List.getElem?_cons_succ, List.getElem?_cons_succ, ih, List.take_succ_cons, cnt_cons, if_neg h]
        cases xs with
        | nil => simp
        | cons x xs => rw [Nat.add_comm 1]; simp
theorem mates_length (S : List Slot) (xs : List Int) : (mates S xs).length = S.length := by
  induction S generalizing xs with
  | nil => rfl
  | cons s S ih => unfold mates; by_cases h : s.st = 0 <;> simp [h, ih]

theorem cnt_lt {S : List Slot} {i : Nat} {s : Slot} (h : S[i]? = some s) (hs : s.st ≠ 0) : cnt (S.take i) < cnt S := by
  have h1 : cnt (S.take (i + 1)) = cnt (S.take i) + 1 := cnt_take_more h hs
  have h2 : cnt (S.take (i + 1)) ≤ cnt S := by
    unfold cnt
    exact (List.Sublist.filter _ (List.take_sublist _ _)).length_le
  omega

section
variable {b : Nat} {S : List Slot} {l R : List Blk}

structure PutCells (w : World) (g i B3 gx n px k : Nat) (st : Nat) (x : Int) : Prop where
  s0 : w.cell? ⟨g, i * 3, none⟩ = some (.int .i64 st)
  v0 : w.cell? ⟨B3, 0, none⟩ = some (.slice (some ⟨gx, 0, none⟩) n px)
  x0 : w.cell? ⟨gx, k, none⟩ = some (.int .u64 x)

set_option maxRecDepth 100000 in
theorem wPut1_any (w : World) {g i B3 B5 gx n px k st : Nat} {x ev : Int} (h : PutCells w g i B3 gx n px k st x) (hk : k < n) (hc : w.cell? ⟨B5, 0, none⟩ = some (.int .i64 ev)) (hf : w.frozen? ⟨B5, 0, none⟩ = false) :
    Calls Try.prog 67 #[.int .i64 k, .int .i64 i, .pointer (some ⟨g, i * 3, none⟩), .pointer (some ⟨B3, 0, none⟩), .pointer (some ⟨B5, 0, none⟩)] w fun e w' => e = .returned (.tuple #[]) ∧
      (if st = 2 ∧ x ≠ 0 then w.setCell ⟨B5, 0, none⟩ (.int .i64 2) else w) = w' := by
  obtain ⟨s0, v0, x0⟩ := h
  have hk' : (k : Int) < (n : Int) := by omega
  by_cases h2 : st = 2
  · by_cases hx : x = 0
    · rw [if_neg (by rintro ⟨-, h⟩; exact h hx)]
      rw [h2] at s0
      rw [hx] at x0
      clear h2 hx
      go_enter Try.func67, Try.ntmps67
      go_wp2
      go_end0
      exact ⟨rfl, rfl⟩
    · rw [if_pos ⟨h2, hx⟩]
      rw [h2] at s0
      have hb : (x != 0) = true := by rw [bne_iff_ne]; exact hx
      have hb2 : (x == 0) = false := by rw [beq_eq_false_iff_ne]; exact hx
      clear h2 hx
      go_enter Try.func67, Try.ntmps67
      go_wp2
      go_end0
      exact ⟨rfl, rfl⟩
  · rw [if_neg (by rintro ⟨h, -⟩; exact h2 h)]
    have hb : ((st : Int) == 2) = false := by rw [beq_eq_false_iff_ne]; omega
    clear h2
    go_enter Try.func67, Try.ntmps67
    go_wp2
    go_end0
    exact ⟨rfl, rfl⟩

/-- What the second pass does to the world at one slot. -/
def put2W (w : World) (g i B4 : Nat) (st : Nat) (x c : Int) : World :=
  if x = 0 then (if st = 1 then ((w.setCell ⟨B4, 0, none⟩ (.int .i64 (c + 1))).setCell ⟨g, i * 3 + 1, none⟩ (.int .u64 0)).setCell ⟨g, i * 3, none⟩ (.int .i64 2) else (w.setCell ⟨g, i * 3 + 1, none⟩ (.int .u64 0)).setCell ⟨g, i * 3, none⟩ (.int .i64 2))
  else w.setCell ⟨g, i * 3 + 1, none⟩ (.int .u64 x)

set_option maxRecDepth 100000 in
theorem wPut2_any (w : World) {g i B3 B4 gx n px k st : Nat} {x c ad : Int} (h : PutCells w g i B3 gx n px k st x) (hk : k < n) (hc : w.cell? ⟨B4, 0, none⟩ = some (.int .i64 c)) (hf : w.frozen? ⟨B4, 0, none⟩ = false)
    (h1 : w.cell? ⟨g, i * 3 + 1, none⟩ = some (.int .u64 ad)) (f0 : w.frozen? ⟨g, i * 3, none⟩ = false) (f1 : w.frozen? ⟨g, i * 3 + 1, none⟩ = false) (n1 : B4 ≠ g) (n2 : B4 ≠ gx) (n3 : B4 ≠ B3) (n4 : g ≠ gx) (n5 : g ≠ B3) (c0 : 0 ≤ c) (c1 : c ≤ 100000) :
    Calls Try.prog 68 #[.int .i64 k, .int .i64 i, .pointer (some ⟨g, i * 3, none⟩), .pointer (some ⟨B3, 0, none⟩), .pointer (some ⟨B4, 0, none⟩)] w fun e w' => e = .returned (.tuple #[]) ∧ put2W w g i B4 st x c = w' := by
  obtain ⟨s0, v0, x0⟩ := h
  have hk' : (k : Int) < (n : Int) := by omega
  unfold put2W
  by_cases hx : x = 0
  · rw [if_pos hx]
    rw [hx] at x0
    by_cases h1 : st = 1
    · rw [if_pos h1]
      rw [h1] at s0
      clear h1 hx
      go_enter Try.func68, Try.ntmps68
      go_wp2
      go_end0
      exact ⟨rfl, rfl⟩
    · rw [if_neg h1]
      have hb : ((st : Int) == 1) = false := by rw [beq_eq_false_iff_ne]; omega
      clear h1 hx
      go_enter Try.func68, Try.ntmps68
      go_wp2
      go_end0
      exact ⟨rfl, rfl⟩
  · rw [if_neg hx]
    have hb2 : (x == 0) = false := by rw [beq_eq_false_iff_ne]; exact hx
    clear hx
    by_cases h1 : st = 1
    · rw [h1] at s0
      clear h1
      go_enter Try.func68, Try.ntmps68
      go_wp2
      go_end0
      exact ⟨rfl, rfl⟩
    · have hb : ((st : Int) == 1) = false := by rw [beq_eq_false_iff_ne]; omega
      clear h1
      go_enter Try.func68, Try.ntmps68
      go_wp2
      go_end0
      exact ⟨rfl, rfl⟩
end
end Go.Proofs.Ytinpkimflcmkgaa
