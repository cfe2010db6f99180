/-
  A ring of things, as a plain law: which thing lies in which slot, and which of them are kept.
  Conditions: none; plain lists, no program.
-/
import Derived.Lib.Join
namespace Go.Proofs.YtpnpnajheaijaaaDoor

/-- Of the things xs that were put in, the last m lie in the ring c of m slots, each at its number's rest by m. -/
structure RingIs {α : Type} (m : Nat) (xs : List α) (c : List α) : Prop where
  len : c.length = m
  lies : ∀ i, i < xs.length → xs.length ≤ i + m → c[i % m]? = xs[i]?

theorem RingIs.start {α : Type} (m : Nat) (z : α) : RingIs m [] (List.replicate m z) := ⟨List.length_replicate, fun i h => by simp at h⟩

theorem mod_ne {m i n : Nat} (h1 : i < n) (h2 : n < i + m) : i % m ≠ n % m := by
  intro h
  have h3 : (n - i) % m = 0 := by
    have := Nat.sub_mod_eq_zero_of_mod_eq h.symm
    exact this
  rw [Nat.mod_eq_of_lt (by omega)] at h3
  omega

theorem RingIs.add {α : Type} {m : Nat} {xs c : List α} (h : RingIs m xs c) (hm : 0 < m) (r : α) : RingIs m (xs ++ [r]) (c.set (xs.length % m) r) := by
  refine ⟨by rw [List.length_set, h.len], fun i h1 h2 => ?_⟩
  rw [List.length_append, List.length_singleton] at h1 h2
  by_cases hi : i = xs.length
  · subst hi
    rw [List.getElem?_set_self (by rw [h.len]; exact Nat.mod_lt _ hm)]
    simp
  · rw [List.getElem?_set_ne (mod_ne (by omega) (by omega)).symm, List.getElem?_append_left (by omega)]
    exact h.lies i (by omega) (by omega)

/-- Those that are kept. -/
def keptOf {α : Type} (m : Nat) (xs : List α) : List α := xs.drop (xs.length - m)
theorem keptOf_length {α : Type} (m : Nat) (xs : List α) : (keptOf m xs).length = min xs.length m := by
  unfold keptOf
  rw [List.length_drop]
  omega

/-- The slot that the program reckons for the k-th of those that are kept. -/
theorem slot_eq {m N k : Nat} : (N % m + m - min N m + k) % m = (N - min N m + k) % m := by
  by_cases h : N < m
  · rw [Nat.mod_eq_of_lt h, Nat.min_eq_left (by omega)]
    rw [show N + m - N + k = k + m by omega, show N - N + k = k by omega, Nat.add_mod_right]
  · rw [Nat.min_eq_right (by omega)]
    have h1 : N % m + m - m + k = N % m + k := by omega
    have h2 : (N - m + k) % m = (N + k) % m := by
      rw [show N + k = N - m + k + m by omega, Nat.add_mod_right]
    rw [h1, h2, Nat.mod_add_mod]

theorem RingIs.kept {α : Type} {m : Nat} {xs c : List α} (h : RingIs m xs c) {k : Nat} (hk : k < min xs.length m) :
    c[(xs.length % m + m - min xs.length m + k) % m]? = (keptOf m xs)[k]? := by
  rw [slot_eq, h.lies _ (by omega) (by omega)]
  unfold keptOf
  rw [List.getElem?_drop]
  congr 1
  omega
end Go.Proofs.YtpnpnajheaijaaaDoor
