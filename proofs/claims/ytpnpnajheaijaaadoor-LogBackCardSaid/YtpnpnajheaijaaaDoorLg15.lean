/-
  The log: add, as the plain law has it; Add.
  Conditions: none.
-/
import Derived.Test.YtpnpnajheaijaaaDoorLg14
namespace Go.Proofs.YtpnpnajheaijaaaDoor
open Go Go.RowKit

theorem sumOf_snoc (xs : List (List Int)) (r : List Int) : sumOf (xs ++ [r]) = sumAdd (sumOf xs) r := by simp [sumOf]

theorem cur_size {m : Nat} {c : List (List Int)} {cur : Array Value} {xs : List (List Int)} (h : RingIs m xs c) (hcur : cur.toList = c.flatMap i64s) (hc : ∀ r ∈ c, r.length = 21) : cur.size = m * 21 := by
  rw [← Array.length_toList, hcur, ← h.len, List.length_flatMap]
  have : ∀ l : List (List Int), (∀ r ∈ l, r.length = 21) → (l.map fun a => (i64s a).length).sum = l.length * 21 := by
    intro l
    induction l with
    | nil => intro _; rfl
    | cons a l ih =>
      intro h
      rw [List.map_cons, List.sum_cons, ih (fun r hr => h r (List.mem_cons_of_mem _ hr)), i64s_length, h a (List.mem_cons_self ..), List.length_cons, Nat.add_mul]
      omega
  exact this c hc


theorem ladd_any {b m : Nat} {xs : List (List Int)} {l R : List Blk} (w : World) (h : LogIs b m xs l) (h0 : 1 ≤ m) (hm : m ≤ 1024) (hH : Has w (l ++ R)) (r : List Int) (hr : RepOk r) :
    Calls Tryd.prog 28 #[.pointer (some ⟨b, 0, none⟩), repVal r] w fun e w' => (∃ v, e = .returned v) ∧ ∃ l', LogIs b m (xs ++ [r]) l' ∧ Turn (l ++ R) w (l' ++ R) w' := by
  obtain ⟨g, cur, c, rfl, hring, hcur, hc⟩ := h
  obtain ⟨s0, s1, s2, s3, s4, s5, s6, s7, hS⟩ := split8 (sumOf_length xs)
  obtain ⟨t0, t1, t2, t3, t4, t5, t6, t7, hT⟩ := split8 (sumOf_length (xs ++ [r]))
  have hadd : sumAdd [s0, s1, s2, s3, s4, s5, s6, s7] r = [t0, t1, t2, t3, t4, t5, t6, t7] := by rw [← hS, ← hT, sumOf_snoc]
  have hlt : xs.length % m < m := Nat.mod_lt _ h0
  have hcell : (i64s (sumOf xs) ++ [Value.slice (some ⟨g, 0, none⟩) m m, Value.int .i64 (min xs.length m : Nat), Value.int .i64 (xs.length % m : Nat)]).toArray = lg g m (min xs.length m) (xs.length % m) s0 s1 s2 s3 s4 s5 s6 s7 := by rw [hS]; rfl
  rw [hcell] at hH ⊢
  refine (add_walk w hm hlt (by omega) (cur_size hring hcur hc) r hr hH (min (xs ++ [r]).length m) ((xs ++ [r]).length % m) (fun cu => cu.toList = (c.set (xs.length % m) r).flatMap i64s)
    (laidOver_row hcur hc hr.len (by rw [hring.len]; exact hlt)) (by simp only [List.length_append, List.length_singleton]; split <;> omega) (by rw [List.length_append, List.length_singleton, Nat.mod_add_mod]) t0 t1 t2 t3 t4 t5 t6 t7 hadd).mono ?_
  rintro e w' ⟨he, cur', hcur', T⟩
  refine ⟨he, _, ⟨g, cur', c.set (xs.length % m) r, rfl, hring.add h0 r, hcur', fun r' h' => ?_⟩, ?_⟩
  · rcases List.mem_or_eq_of_mem_set h' with h | h
    · exact hc r' h
    · rw [h]; exact hr.len
  · have hcell' : (i64s (sumOf (xs ++ [r])) ++ [Value.slice (some ⟨g, 0, none⟩) m m, Value.int .i64 (min (xs ++ [r]).length m : Nat), Value.int .i64 ((xs ++ [r]).length % m : Nat)]).toArray = lg g m (min (xs ++ [r]).length m) ((xs ++ [r]).length % m) t0 t1 t2 t3 t4 t5 t6 t7 := by rw [hT]; rfl
    rw [hcell']
    exact T

/-- Reports in a row. -/
def reps (xs : List (List Int)) : List Value := xs.flatMap i64s
theorem reps_length {xs : List (List Int)} (h : ∀ r ∈ xs, RepOk r) : (reps xs).length = xs.length * 21 := by
  induction xs with
  | nil => rfl
  | cons a l ih =>
    show (i64s a ++ reps l).length = _
    rw [List.length_append, ih (fun r hr => h r (List.mem_cons_of_mem _ hr)), i64s_length, (h a (List.mem_cons_self ..)).len, List.length_cons, Nat.add_mul]
    omega
theorem reps_get {xs : List (List Int)} (h : ∀ r ∈ xs, RepOk r) {i : Nat} {r : List Int} (hi : xs[i]? = some r) {j : Nat} (hj : j < 21) : (reps xs)[i * 21 + j]? = (i64s r)[j]? := by
  induction xs generalizing i with
  | nil => cases hi
  | cons a l ih =>
    have ha : (i64s a).length = 21 := by rw [i64s_length, (h a (List.mem_cons_self ..)).len]
    show (i64s a ++ reps l)[i * 21 + j]? = _
    cases i with
    | zero =>
      have : a = r := by simpa using hi
      subst this
      rw [Nat.zero_mul, Nat.zero_add, List.getElem?_append_left (by omega)]
    | succ i =>
      rw [show (i + 1) * 21 + j = 21 + (i * 21 + j) by omega, List.getElem?_append_right (by omega), ha, Nat.add_sub_cancel_left]
      exact ih (fun r hr => h r (List.mem_cons_of_mem _ hr)) (by simpa using hi)

/-- A report of a slice of reports, where it lies. -/
theorem Src.rep {w : World} {b off n cap : Nat} {xs : List (List Int)} (h : Src w (some ⟨b, off, none⟩) n cap 21 (reps xs)) (hx : ∀ r ∈ xs, RepOk r) {i : Nat} {r : List Int} (hi : xs[i]? = some r) : w.rangeAt b (off + i * 21) (i64s r) := by
  intro j v hv
  have hj : j < 21 := by
    have := (List.getElem?_eq_some_iff.1 hv).1
    rw [i64s_length, (hx r (List.mem_of_getElem? hi)).len] at this
    exact this
  have h1 := h.at_ _ rfl (i * 21 + j) v (by rw [reps_get hx hi hj]; exact hv)
  rw [add_lit] at h1
  rw [Nat.add_assoc]
  exact h1
end Go.Proofs.YtpnpnajheaijaaaDoor
