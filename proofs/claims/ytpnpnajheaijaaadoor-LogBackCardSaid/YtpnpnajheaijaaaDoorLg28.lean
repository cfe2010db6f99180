/-
  The sum of reports, in two parts.
  Conditions: none; plain lists.
-/
import Derived.Test.YtpnpnajheaijaaaDoorLg26
namespace Go.Proofs.YtpnpnajheaijaaaDoor
open Go Go.RowKit Go.IntWalk

/-- What a report adds at place j. -/
def adds (r : List Int) (j : Nat) : Int :=
  if j = 0 then 1 else if j = 1 then r.getD 0 0 - r.getD 6 0 else if j = 2 then r.getD 3 0 - r.getD 9 0 else if j = 3 then r.getD 15 0 else if j = 4 then r.getD 16 0 else if j = 5 then r.getD 17 0 else if j = 6 then r.getD 18 0 else r.getD 20 0

theorem wrap_in (s a b : Int) : IntKind.i64.wrap (s + IntKind.i64.wrap (a - b)) = IntKind.i64.wrap (s + (a - b)) := by
  simp only [IntKind.wrap_i64]
  omega

theorem sumAdd_at (s r : List Int) (j : Nat) (hj : j < 8) : (sumAdd s r).getD j 0 = IntKind.i64.wrap (s.getD j 0 + adds r j) := by
  have hc : j = 0 ∨ j = 1 ∨ j = 2 ∨ j = 3 ∨ j = 4 ∨ j = 5 ∨ j = 6 ∨ j = 7 := by omega
  rcases hc with rfl | rfl | rfl | rfl | rfl | rfl | rfl | rfl
  · rfl
  · exact wrap_in _ _ _
  · exact wrap_in _ _ _
  · rfl
  · rfl
  · rfl
  · rfl
  · rfl

/-- What reports add together at place j. -/
def tot (j : Nat) : List (List Int) → Int
  | [] => 0
  | r :: xs => adds r j + tot j xs
theorem tot_append (j : Nat) : ∀ (xs ys : List (List Int)), tot j (xs ++ ys) = tot j xs + tot j ys
  | [], ys => by simp [tot]
  | r :: xs, ys => by rw [List.cons_append, tot, tot, tot_append j xs ys]; omega

theorem wrap_I64 (n : Int) : I64 (IntKind.i64.wrap n) := by
  unfold I64
  rw [IntKind.wrap_i64]
  omega

theorem foldl_at (j : Nat) (hj : j < 8) : ∀ (xs : List (List Int)) (s : List Int), I64 (s.getD j 0) → (xs.foldl sumAdd s).getD j 0 = IntKind.i64.wrap (s.getD j 0 + tot j xs)
  | [], s, h => by
    rw [List.foldl_nil, tot, Int.add_zero]
    exact (i64_in _ h).symm
  | r :: xs, s, h => by
    rw [List.foldl_cons, foldl_at j hj xs _ (by rw [sumAdd_at s r j hj]; exact wrap_I64 _), sumAdd_at s r j hj, tot]
    simp only [IntKind.wrap_i64]
    omega

theorem sumOf_at (j : Nat) (hj : j < 8) (xs : List (List Int)) : (sumOf xs).getD j 0 = IntKind.i64.wrap (tot j xs) := by
  have h0 : noSum.getD j 0 = 0 := by
    have hc : j = 0 ∨ j = 1 ∨ j = 2 ∨ j = 3 ∨ j = 4 ∨ j = 5 ∨ j = 6 ∨ j = 7 := by omega
    rcases hc with rfl | rfl | rfl | rfl | rfl | rfl | rfl | rfl <;> rfl
  unfold sumOf
  rw [foldl_at j hj xs noSum (by rw [h0]; exact ⟨by decide, by decide⟩), h0, Int.zero_add]

/-- The sum is that of its parts. -/
theorem sum_parts (j : Nat) (hj : j < 8) (xs : List (List Int)) (k : Nat) : IntKind.i64.wrap ((sumOf (xs.take k)).getD j 0 + (sumOf (xs.drop k)).getD j 0) = (sumOf xs).getD j 0 := by
  rw [sumOf_at j hj, sumOf_at j hj, sumOf_at j hj]
  conv => rhs; rw [← List.take_append_drop k xs, tot_append]
  simp only [IntKind.wrap_i64]
  omega
end Go.Proofs.YtpnpnajheaijaaaDoor
