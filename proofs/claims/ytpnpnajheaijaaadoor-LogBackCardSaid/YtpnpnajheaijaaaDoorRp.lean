/-
  A report, and a slice of reports, that came in, opened to their numbers.
  Conditions: none; plain lemmas on readings.
-/
import Derived.Test.YtpnpnajheaijaaaDoorLg24
import Derived.Test.YtpnpnajheaijaaaDoorOpen
import Derived.Test.YtpnpnajheaijaaaDoorCd
namespace Go.Proofs.YtpnpnajheaijaaaDoor
open Go Go.RowKit Go.ChangeShapes Go.WideShapes Go.ChangeAt Go.Deep

theorem cells_rep : Tryd.prog.cellsOf 25 = 21 := by kernel_rfl
theorem cells_tally : Tryd.prog.cellsOf 23 = 6 := by kernel_rfl
theorem cells_int : Tryd.prog.cellsOf 3 = 1 := by kernel_rfl
theorem bytes_rep : Tryd.prog.bytesOf 25 = 168 := by kernel_rfl

theorem one_at {cs : List Value} {o : Nat} {v : Value} (h : (cs.drop o).take 1 = [v]) : cs[o]? = some v := by
  have h1 := congrArg (·[0]?) h
  simpa [List.getElem?_take, List.getElem?_drop] using h1
theorem six_at {cs : List Value} {o j : Nat} {v : Value} (hj : j < 6) (h : ((cs.drop o).take 6)[j]? = some v) : cs[o + j]? = some v := by
  rw [List.getElem?_take_of_lt hj, List.getElem?_drop] at h
  exact h

section
variable {H : Type} {enc : TypeId × Value → H} {w : World} {base : Nat} {spare : Nat → Bool} {held : Bool}

theorem int_of_trod {fuel : Nat} {cs : List Value} {x : DataW H × List MemPlace} (h : DataW.trod enc Tryd.prog w base spare held fuel 3 cs = some x) : ∃ n : Int, cs = [.int .i64 n] ∧ I64 n := by
  obtain ⟨n, hn, -, hw⟩ := DataW.trod_int Tryd.underlying3 h
  exact ⟨n, hn, bounds_i64 hw⟩

theorem tally_of_trod {fuel : Nat} {cs : List Value} {x : DataW H × List MemPlace} (h : DataW.trod enc Tryd.prog w base spare held fuel 23 cs = some x) : ∀ j, j < 6 → ∃ n : Int, cs[j]? = some (.int .i64 n) ∧ I64 n := by
  obtain ⟨ys, n', -, -, -, hyl, hf⟩ := DataW.trod_struct Tryd.underlying23 h
  have go : ∀ (j o : Nat), j < 6 → DataW.trod enc Tryd.prog w base spare held n' 3 ((cs.drop o).take (Tryd.prog.cellsOf 3)) = ys[j]? → ∃ n : Int, cs[o]? = some (.int .i64 n) ∧ I64 n := by
    intro j o hj h1
    rw [cells_int] at h1
    have hlt : j < ys.length := by rw [hyl]; exact hj
    rw [List.getElem?_eq_getElem hlt] at h1
    obtain ⟨n, hn, hb⟩ := int_of_trod h1
    exact ⟨n, one_at hn, hb⟩
  intro j hj
  match j, hj with
  | 0, _ => exact go 0 0 (by decide) (hf 0 _ rfl)
  | 1, _ => exact go 1 1 (by decide) (hf 1 _ rfl)
  | 2, _ => exact go 2 2 (by decide) (hf 2 _ rfl)
  | 3, _ => exact go 3 3 (by decide) (hf 3 _ rfl)
  | 4, _ => exact go 4 4 (by decide) (hf 4 _ rfl)
  | 5, _ => exact go 5 5 (by decide) (hf 5 _ rfl)

theorem cells_of_trod {fuel : Nat} {cs : List Value} {x : DataW H × List MemPlace} (h : DataW.trod enc Tryd.prog w base spare held fuel 25 cs = some x) : cs.length = 21 ∧ ∀ j, j < 21 → ∃ n : Int, cs[j]? = some (.int .i64 n) ∧ I64 n := by
  obtain ⟨ys, n', -, -, hlen, hyl, hf⟩ := DataW.trod_struct Tryd.underlying25 h
  rw [cells_rep] at hlen
  have go : ∀ (j o : Nat), j < 11 → DataW.trod enc Tryd.prog w base spare held n' 3 ((cs.drop o).take (Tryd.prog.cellsOf 3)) = ys[j]? → ∃ n : Int, cs[o]? = some (.int .i64 n) ∧ I64 n := by
    intro j o hj h1
    rw [cells_int] at h1
    have hlt : j < ys.length := by rw [hyl]; exact hj
    rw [List.getElem?_eq_getElem hlt] at h1
    obtain ⟨n, hn, hb⟩ := int_of_trod h1
    exact ⟨n, one_at hn, hb⟩
  have go6 : ∀ (j o : Nat), j < 11 → DataW.trod enc Tryd.prog w base spare held n' 23 ((cs.drop o).take (Tryd.prog.cellsOf 23)) = ys[j]? → ∀ i, i < 6 → ∃ n : Int, cs[o + i]? = some (.int .i64 n) ∧ I64 n := by
    intro j o hj h1 i hi
    rw [cells_tally] at h1
    have hlt : j < ys.length := by rw [hyl]; exact hj
    rw [List.getElem?_eq_getElem hlt] at h1
    obtain ⟨n, hn, hb⟩ := tally_of_trod h1 i hi
    exact ⟨n, six_at hi hn, hb⟩
  refine ⟨hlen, fun j hj => ?_⟩
  by_cases h0 : j < 6
  · have := go6 0 0 (by decide) (hf 0 _ rfl) j h0
    rwa [Nat.zero_add] at this
  by_cases h1 : j < 12
  · have := go6 1 6 (by decide) (hf 1 _ rfl) (j - 6) (by omega)
    rwa [show 6 + (j - 6) = j by omega] at this
  have hc : j = 12 ∨ j = 13 ∨ j = 14 ∨ j = 15 ∨ j = 16 ∨ j = 17 ∨ j = 18 ∨ j = 19 ∨ j = 20 := by omega
  rcases hc with rfl | rfl | rfl | rfl | rfl | rfl | rfl | rfl | rfl
  · exact go 2 12 (by decide) (hf 2 _ rfl)
  · exact go 3 13 (by decide) (hf 3 _ rfl)
  · exact go 4 14 (by decide) (hf 4 _ rfl)
  · exact go 5 15 (by decide) (hf 5 _ rfl)
  · exact go 6 16 (by decide) (hf 6 _ rfl)
  · exact go 7 17 (by decide) (hf 7 _ rfl)
  · exact go 8 18 (by decide) (hf 8 _ rfl)
  · exact go 9 19 (by decide) (hf 9 _ rfl)
  · exact go 10 20 (by decide) (hf 10 _ rfl)

theorem rep_of_trod {fuel : Nat} {cs : List Value} {x : DataW H × List MemPlace} (h : DataW.trod enc Tryd.prog w base spare held fuel 25 cs = some x) : ∃ r, RepOk r ∧ cs = i64s r := by
  obtain ⟨hl, hc⟩ := cells_of_trod h
  obtain ⟨r, hr, hrc⟩ := list_of 21 hc
  refine ⟨r, ⟨hr, fun v hv => ?_⟩, List.ext_getElem? fun k => ?_⟩
  · obtain ⟨k, hk⟩ := List.getElem?_of_mem hv
    exact (hrc k v hk).2
  · by_cases hk : k < 21
    · obtain ⟨v, hv⟩ : ∃ v, r[k]? = some v := ⟨r[k]'(by omega), List.getElem?_eq_getElem _⟩
      rw [(hrc k v hv).1, i64s_at hv]
    · rw [List.getElem?_eq_none (by omega), List.getElem?_eq_none (by rw [i64s_length]; omega)]
end

set_option maxRecDepth 100000 in
/-- A report by value. -/
theorem open_rep {H : Type} {enc : TypeId × Value → H} {w : World} {r : Reach} {b0 : Nat} {v : Value} {d : DataW H} {p : List MemPlace} (hval : Value.okWide Tryd.prog w r b0 25 v)
    (h : DataW.Trod enc Tryd.prog w 0 (fun _ => true) true 25 v d p) : ∃ r, RepOk r ∧ v = repVal r := by
  unfold Value.okWide at hval
  rw [Tryd.underlying25] at hval
  obtain ⟨cs, rfl, -, -⟩ := hval
  obtain ⟨fuel, hf⟩ := h
  obtain ⟨r, hr, hc⟩ := rep_of_trod hf
  refine ⟨r, hr, ?_⟩
  unfold repVal
  rw [← hc]
  simp [Value.cells]

/-- A slice of reports. -/
theorem open_reps {H : Type} {enc : TypeId × Value → H} {w : World} {ao : Option Addr} {len cap fuel : Nat} {d : DataW H} {p : List MemPlace}
    (h : DataW.trod enc Tryd.prog w 0 (fun _ => true) true fuel 32 (Value.cells (.slice ao len cap)).toList = some (d, p)) :
    ∃ xs, (∀ r ∈ xs, RepOk r) ∧ Src w ao len cap 21 (reps xs) ∧ xs.length = len ∧ len ≤ cap ∧ cap ≤ maxLen := by
  rcases open_slice Tryd.underlying32 h with ⟨hcs, hx⟩ | ⟨a, len', cap', m, n, D, Pl, hcs, hb, hl, hm, hmm, hx, hcell⟩
  · simp [Value.cells] at hcs
    obtain ⟨rfl, rfl, rfl⟩ := hcs
    exact ⟨[], (fun r hr => by cases hr), ⟨rfl, fun _ => ⟨rfl, rfl⟩, (fun ad h => by cases h)⟩, rfl, Nat.le_refl _, Nat.zero_le _⟩
  · simp [Value.cells] at hcs
    obtain ⟨rfl, rfl, rfl⟩ := hcs
    simp only [if_true] at hmm
    subst hmm
    have hall : ∀ k, k < len → ∃ r, RepOk r ∧ ∀ j v, (i64s r)[j]? = some v → w.cell? (a.add (k * 21 + j)) = some v := by
      intro k hk
      obtain ⟨cs', hc, ht⟩ := hcell k (by omega)
      obtain ⟨r, hr, rfl⟩ := rep_of_trod ht
      rw [cells_rep] at hc
      obtain ⟨-, -, hat⟩ := World.cells?_some hc
      refine ⟨r, hr, fun j v hv => ?_⟩
      have hj : j < 21 := by
        have := (List.getElem?_eq_some_iff.1 hv).1
        rw [i64s_length, hr.len] at this
        exact this
      rw [← Go.Deep.add_add, hat j hj]
      exact hv
    obtain ⟨xs, hxl, hP⟩ := list_of len hall
    have hok : ∀ r ∈ xs, RepOk r := fun r hr => by
      obtain ⟨k, hk⟩ := List.getElem?_of_mem hr
      exact (hP k r hk).1
    refine ⟨xs, hok, ⟨by rw [reps_length hok, hxl], (by intro h; cases h), fun ad had j u hu => ?_⟩, hxl, hl, hm⟩
    cases had
    have hjl : j < xs.length * 21 := by rw [← reps_length hok]; exact (List.getElem?_eq_some_iff.1 hu).1
    have hj : j = j / 21 * 21 + j % 21 := (Nat.div_add_mod' j 21).symm
    have h21 : j % 21 < 21 := Nat.mod_lt _ (by omega)
    have hq : j / 21 < xs.length := by omega
    obtain ⟨r, hr⟩ : ∃ r, xs[j / 21]? = some r := ⟨xs[j / 21]'hq, List.getElem?_eq_getElem _⟩
    rw [hj, reps_get hok hr h21] at hu
    rw [hj]
    exact (hP _ r hr).2 _ _ hu
end Go.Proofs.YtpnpnajheaijaaaDoor
