/-
  Many cells stored at once into an owned block.
  Conditions: none; plain lemmas on worlds, no program.
-/
import Derived.Test.YtpnpnajheaijaaaDoorKit2
import Derived.Deep.MidRow
namespace Go.Proofs.YtpnpnajheaijaaaDoor
open Go Go.RowKit

/-- Cells laid over others from a place on. -/
def laidOver (c : Array Value) (o : Nat) : List Value → Array Value
  | [] => c
  | v :: r => laidOver (c.setIfInBounds o v) (o + 1) r

theorem laidOver_size : ∀ (vs : List Value) (c : Array Value) (o : Nat), (laidOver c o vs).size = c.size
  | [], _, _ => rfl
  | v :: r, c, o => by rw [laidOver, laidOver_size r]; simp

theorem laidOver_out : ∀ (vs : List Value) (c : Array Value) (o j : Nat), (j < o ∨ o + vs.length ≤ j) → (laidOver c o vs)[j]? = c[j]?
  | [], _, _, _, _ => rfl
  | v :: r, c, o, j, h => by
    rw [List.length_cons] at h
    rw [laidOver, laidOver_out r _ _ j (by omega), Array.getElem?_setIfInBounds_ne (by omega)]

theorem laidOver_in : ∀ (vs : List Value) (c : Array Value) (o j : Nat), o + vs.length ≤ c.size → j < vs.length → (laidOver c o vs)[o + j]? = vs[j]?
  | v :: r, c, o, j, h, hj => by
    rw [List.length_cons] at h hj
    rw [laidOver]
    cases j with
    | zero =>
      show (laidOver (c.setIfInBounds o v) (o + 1) r)[o]? = some v
      rw [laidOver_out r (c.setIfInBounds o v) (o + 1) o (by omega), Array.getElem?_setIfInBounds_self_of_lt (by omega)]
    | succ j =>
      have := laidOver_in r (c.setIfInBounds o v) (o + 1) j (by simp; omega) (by omega)
      rw [show o + (j + 1) = o + 1 + j by omega, this]
      rfl

theorem laidOver_all (c : Array Value) (vs : List Value) (h : vs.length = c.size) : laidOver c 0 vs = vs.toArray := by
  apply Array.ext_getElem?
  intro j
  by_cases hj : j < vs.length
  · have := laidOver_in vs c 0 j (by omega) hj
    rw [Nat.zero_add] at this
    rw [this, List.getElem?_toArray]
  · rw [laidOver_out vs c 0 j (by omega), Array.getElem?_eq_none (by omega), List.getElem?_toArray, List.getElem?_eq_none (by omega)]

theorem Turn.setCells {l l1 : List Blk} {w : World} {b : Nat} {e : TypeId} {f : Nat × Nat} : ∀ (vs : List Value) (o : Nat) (c : Array Value) (w' : World), Turn l w ((b, .cells c e f) :: l1) w' →
    Turn l w ((b, .cells (laidOver c o vs) e f) :: l1) (w'.setCells b o vs)
  | [], _, _, _, h => h
  | v :: r, o, c, w', h => by
    rw [World.setCells]
    exact Turn.setCells r (o + 1) _ _ (h.setCell o v)

theorem Has.there {w : World} {l : List Blk} {b : Nat} {c : Array Value} {e : TypeId} (h : Has w l) (hm : (b, Obj.cells c e (0, 0)) ∈ l) (o n : Nat) (hn : o + n ≤ c.size) : w.there b o n := fun j hj =>
  ⟨by rw [h.cell hm (o + j), Array.getElem?_eq_getElem (by omega)]; rfl, h.free hm (o + j)⟩

theorem Has.range {w : World} {l : List Blk} {b : Nat} {c : Array Value} {e : TypeId} {f : Nat × Nat} (h : Has w l) (hm : (b, Obj.cells c e f) ∈ l) : w.rangeAt b 0 c.toList := fun j v hv => by
  rw [Nat.zero_add, h.cell hm j, ← Array.getElem?_toList]
  exact hv
end Go.Proofs.YtpnpnajheaijaaaDoor
