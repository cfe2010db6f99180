/-
  The law LogTells at whatever arguments.
  Conditions: none.
-/
import Derived.Test.YtpnpnajheaijaaaDoorLg27
import Derived.Test.YtpnpnajheaijaaaDoorRp
namespace Go.Proofs.YtpnpnajheaijaaaDoor
open Go Go.RowKit Go.ChangeShapes Go.WideShapes Go.ChangeAt Go.Deep

theorem cells_u8 : Tryd.prog.cellsOf 5 = 1 := by kernel_rfl

/-- A slice of bytes. -/
theorem open_bytes {H : Type} {enc : TypeId × Value → H} {w : World} {ao : Option Addr} {len cap fuel : Nat} {d : DataW H} {p : List MemPlace}
    (h : DataW.trod enc Tryd.prog w 0 (fun _ => true) true fuel 41 (Value.cells (.slice ao len cap)).toList = some (d, p)) : ∃ zs, U8s w ao len cap zs := by
  rcases open_ints Tryd.underlying41 Tryd.underlying5 cells_u8 h with ⟨hcs, -⟩ | ⟨a, len', cap', zs, hcs, -, hl, hm, hz, hx, hcell, hwf⟩
  · simp [Value.cells] at hcs
    obtain ⟨rfl, rfl, rfl⟩ := hcs
    exact ⟨[], rfl, fun _ => rfl, (fun z hz => by cases hz), (fun ad h => by cases h)⟩
  · simp [Value.cells] at hcs
    obtain ⟨rfl, rfl, rfl⟩ := hcs
    simp only [if_true] at hz
    refine ⟨zs.take len, by rw [List.length_take]; omega, (by intro h; cases h), fun z hzm => ?_, fun ad had j z hj => ?_⟩
    · exact bounds_u8 (hwf z (List.mem_of_mem_take hzm))
    · cases had
      have hjl : j < len := by
        have := (List.getElem?_eq_some_iff.1 hj).1
        rw [List.length_take] at this
        omega
      rw [List.getElem?_take_of_lt hjl] at hj
      rw [hcell j (by omega), List.getD_eq_getElem?_getD, hj]
      rfl

theorem logTells_all (w : World) (hE : Env w) (m i : Int) (ao so : Option Addr) (n cap sn sc : Nat) (hnc : n ≤ cap) (xs : List (List Int)) (hx : ∀ r ∈ xs, RepOk r) (hs : Src w ao n cap 21 (reps xs)) (zs : List Int) (hz : U8s w so sn sc zs) :
    Calls Tryd.prog 5 (tellsArgs m ao n cap so sn sc i) w fun e w' => e = .returned (.bool true) ∧ Below w.heap.size w w' := by
  by_cases hl : 200 < n ∨ 60 < sn
  · exact logTells_long w hE m i ao so n cap sn sc hl
  by_cases hm : m < 1 ∨ 1024 < m
  · exact logTells_bad w hE m i ao so n cap sn sc (by omega) (by omega) hm
  obtain ⟨mm, rfl⟩ := Int.eq_ofNat_of_zero_le (show 0 ≤ m by omega)
  exact logTells_any w hE mm (by omega) (by omega) i ao so n cap sn sc (by omega) (by omega) hnc xs hx hs zs hz
end Go.Proofs.YtpnpnajheaijaaaDoor
