/-
  A slice of steps of a hand table's script that came in, opened to its cells.
  Conditions: none.
-/
import Derived.Test.YtinpkimflcmkgaaHf2
import Derived.Test.YtinpkimflcmkgaaOpen
import Derived.Test.YtinpkimflcmkgaaRows
import Derived.ChangeSlices
namespace Go.Proofs.Ytinpkimflcmkgaa
open Go Go.RowKit Go.ChangeShapes Go.WideShapes Go.ChangeAt Go.Deep

theorem cells_hstep : Try.prog.cellsOf 34 = 5 := by kernel_rfl
theorem bytes_hstep : Try.prog.bytesOf 34 = 56 := by kernel_rfl
theorem bytes_w64 : Try.prog.bytesOf 31 = 8 := by kernel_rfl
theorem cells_w64 : Try.prog.cellsOf 31 = 1 := by kernel_rfl

theorem weightsAll_mem {H : Type} {P : Program} {e : TypeId} {d : DataW H} {n : Nat} (hn : n ∈ d.weights P e) : ∀ {ds : List (DataW H)}, d ∈ ds → n ∈ DataW.weightsAll P e ds
  | d0 :: ds, hd => by
    simp only [DataW.weightsAll, List.mem_append]
    rcases List.mem_cons.1 hd with rfl | hd
    · exact .inl hn
    · exact .inr (weightsAll_mem hn hd)

theorem open_hsteps {H : Type} {enc : TypeId × Value → H} {w : World} {ao : Option Addr} {len cap fuel : Nat} {d : DataW H} {p : List MemPlace}
    (h : DataW.trod enc Try.prog w 0 (fun _ => true) true fuel 22 (Value.cells (.slice ao len cap)).toList = some (d, p)) (hw : ∀ n ∈ d.weights Try.prog 22, n ≤ reachBytes) :
    ∃ L, HStepsAt w ao len L := by
  rcases open_slice_fields Try.underlying22 Try.underlying34 (by kernel_rfl) cells_hstep h with ⟨hcs, hx⟩ | ⟨a, len', cap', m, D, Pl, hcs, hb, hl, hm, hmm, hx, hcell⟩
  · simp [Value.cells] at hcs
    obtain ⟨rfl, rfl, rfl⟩ := hcs
    exact ⟨[], ⟨rfl, (fun _ => rfl), (fun ad h => by cases h), (fun i s hi => by simp at hi), by omega⟩⟩
  · simp [Value.cells] at hcs
    obtain ⟨rfl, rfl, rfl⟩ := hcs
    simp only [Prod.mk.injEq] at hx
    simp only [if_true] at hmm
    subst hmm
    obtain ⟨rfl, -⟩ := hx
    have hlen : len * 56 ≤ reachBytes := by
      have := hw ((((List.range len).map D).length + ((List.range (m - len)).map fun j => D (len + j)).length) * Try.prog.bytesOf 34) (by simp [DataW.weights, Try.underlying22])
      rw [bytes_hstep] at this
      simp only [List.length_map, List.length_range] at this
      have h2 := Nat.mul_le_mul_right 56 (Nat.le_add_right len (m - len))
      omega
    have hall : ∀ k, k < len → ∃ s : HStep, (w.cell? (a.add (k * 5)) = some (.int .i64 s.act) ∧ w.cell? (a.add (k * 5 + 1)) = some (.int .i64 s.k) ∧ w.cell? (a.add (k * 5 + 2)) = some (.int .u64 s.x) ∧ w.cell? (a.add (k * 5 + 3)) = some (.int .u64 s.addr) ∧ w.cell? (a.add (k * 5 + 4)) = some (.slice s.la s.ln s.lc)) ∧ s.ln ≤ 17592186044416 := by
      intro k hk
      obtain ⟨ys, n, hD, -, -, hf⟩ := hcell k (by omega)
      obtain ⟨v0, y0, c0, -, t0⟩ := hf 0 _ rfl
      obtain ⟨v1, y1, c1, -, t1⟩ := hf 1 _ rfl
      obtain ⟨v2, y2, c2, -, t2⟩ := hf 2 _ rfl
      obtain ⟨v3, y3, c3, -, t3⟩ := hf 3 _ rfl
      obtain ⟨v4, y4, c4, hy4, t4⟩ := hf 4 _ rfl
      obtain ⟨x0, e0, -, -⟩ := DataW.trod_int Try.underlying3 t0
      obtain ⟨x1, e1, -, -⟩ := DataW.trod_int Try.underlying3 t1
      obtain ⟨x2, e2, -, -⟩ := DataW.trod_int Try.underlying32 t2
      obtain ⟨x3, e3, -, -⟩ := DataW.trod_int Try.underlying31 t3
      simp at e0 e1 e2 e3
      subst e0; subst e1; subst e2; subst e3
      rcases open_ints Try.underlying30 Try.underlying31 cells_w64 t4 with ⟨hv, -⟩ | ⟨a4, n4, c4', zs, hv, -, hl4, hm4, hzl, hy, hat, -⟩
      · simp at hv
        subst hv
        exact ⟨⟨x0, x1, x2, x3, none, 0, 0⟩, ⟨c0, c1, c2, c3, c4⟩, by show 0 ≤ _; omega⟩
      · simp at hv
        subst hv
        simp only [if_true] at hzl
        have h8 : n4 * 8 ≤ reachBytes := by
          have hd4 : y4.1 = .slice (lits .u64 (zs.take n4)) (lits .u64 (zs.drop n4)) := by rw [hy]
          have hw4 : ((lits (H := H) .u64 (zs.take n4)).length + (lits (H := H) .u64 (zs.drop n4)).length) * Try.prog.bytesOf 31 ∈ (y4.1).weights Try.prog 30 := by
            rw [hd4]
            simp [DataW.weights, Try.underlying30]
          have hag : ((lits (H := H) .u64 (zs.take n4)).length + (lits (H := H) .u64 (zs.drop n4)).length) * Try.prog.bytesOf 31 ∈ (D k).weights Try.prog 34 := by
            rw [hD]
            simp only [DataW.weights, Try.underlying34]
            exact DataW.weights_mem_each (j := 4) (t := 30) (d := y4.1) rfl (by rw [List.getElem?_map, hy4]; rfl) _ hw4
          have hall := hw _ (by
            simp only [DataW.weights, Try.underlying22]
            exact List.mem_cons_of_mem _ (List.mem_append_left _ (weightsAll_mem hag (List.mem_map.2 ⟨k, List.mem_range.2 hk, rfl⟩))))
          rw [bytes_w64] at hall
          have hl1 : (lits (H := H) .u64 (zs.take n4)).length = n4 := by simp [lits]; omega
          rw [hl1] at hall
          have h2 := Nat.mul_le_mul_right 8 (Nat.le_add_right n4 (lits (H := H) .u64 (zs.drop n4)).length)
          omega
        refine ⟨⟨x0, x1, x2, x3, some a4, n4, c4'⟩, ⟨c0, c1, c2, c3, c4⟩, ?_⟩
        · show n4 ≤ _
          simp only [reachBytes] at h8
          omega
    obtain ⟨L, hL, hP⟩ := list_of len hall
    refine ⟨L, ⟨hL, (by intro h; cases h), fun ad had k s hk => ?_, fun k s hk => (hP k s hk).2, by simp only [reachBytes] at hlen; omega⟩⟩
    cases had
    exact (hP k s hk).1
end Go.Proofs.Ytinpkimflcmkgaa
