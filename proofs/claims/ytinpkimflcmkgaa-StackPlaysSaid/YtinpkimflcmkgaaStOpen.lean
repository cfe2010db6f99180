/-
  A slice of steps of a stack's script that came in, opened to its cells.
  Conditions: none.
-/
import Derived.Test.YtinpkimflcmkgaaSf1
import Derived.Test.YtinpkimflcmkgaaOpen
import Derived.Test.YtinpkimflcmkgaaRows
namespace Go.Proofs.Ytinpkimflcmkgaa
open Go Go.RowKit Go.ChangeShapes Go.WideShapes Go.ChangeAt Go.Deep

theorem cells_step : Try.prog.cellsOf 77 = 3 := by kernel_rfl
theorem bytes_step : Try.prog.bytesOf 77 = 24 := by kernel_rfl

/-- A slice of steps that came in. -/
theorem open_steps {H : Type} {enc : TypeId × Value → H} {w : World} {ao : Option Addr} {len cap fuel : Nat} {d : DataW H} {p : List MemPlace}
    (h : DataW.trod enc Try.prog w 0 (fun _ => true) true fuel 72 (Value.cells (.slice ao len cap)).toList = some (d, p)) :
    ∃ L, StepsAt w ao len cap L ∧ (d = .nil ∧ len = 0 ∨ ∃ elems spare, d = .slice elems spare ∧ elems.length = len) := by
  rcases open_slice_fields Try.underlying72 Try.underlying77 (by kernel_rfl) cells_step h with ⟨hcs, hx⟩ | ⟨a, len', cap', m, D, Pl, hcs, hb, hl, hm, hmm, hx, hcell⟩
  · simp [Value.cells] at hcs
    obtain ⟨rfl, rfl, rfl⟩ := hcs
    simp only [Prod.mk.injEq] at hx
    exact ⟨[], ⟨rfl, fun _ => rfl, fun ad h => by cases h⟩, .inl ⟨hx.1, rfl⟩⟩
  · simp [Value.cells] at hcs
    obtain ⟨rfl, rfl, rfl⟩ := hcs
    simp only [Prod.mk.injEq] at hx
    simp only [if_true] at hmm
    subst hmm
    have hall : ∀ k, k < len → ∃ x : Int × Int × Int, w.cell? (a.add (k * 3)) = some (.int .i64 x.1) ∧ w.cell? (a.add (k * 3 + 1)) = some (.int .i64 x.2.1) ∧ w.cell? (a.add (k * 3 + 2)) = some (.int .u64 x.2.2) := by
      intro k hk
      obtain ⟨ys, n, -, -, -, hf⟩ := hcell k (by omega)
      obtain ⟨v0, y0, c0, -, t0⟩ := hf 0 _ rfl
      obtain ⟨v1, y1, c1, -, t1⟩ := hf 1 _ rfl
      obtain ⟨v2, y2, c2, -, t2⟩ := hf 2 _ rfl
      obtain ⟨x0, e0, -, -⟩ := DataW.trod_int Try.underlying3 t0
      obtain ⟨x1, e1, -, -⟩ := DataW.trod_int Try.underlying3 t1
      obtain ⟨x2, e2, -, -⟩ := DataW.trod_int Try.underlying31 t2
      simp at e0 e1 e2
      subst e0; subst e1; subst e2
      exact ⟨(x0, x1, x2), c0, c1, c2⟩
    obtain ⟨L, hL, hP⟩ := list_of len hall
    refine ⟨L, ⟨hL, (by intro h; cases h), fun ad had k d i v hk => ?_⟩, .inr ⟨_, _, hx.1, by simp⟩⟩
    cases had
    exact hP k (d, i, v) hk
end Go.Proofs.Ytinpkimflcmkgaa
