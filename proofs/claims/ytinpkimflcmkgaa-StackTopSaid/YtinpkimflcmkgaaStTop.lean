/-
  StackTop holds for every slice of words: what was pushed last is got first; the slice reads as it did.
  Conditions: none.
-/
import Derived.Test.YtinpkimflcmkgaaSt8
import Derived.Test.YtinpkimflcmkgaaRows
import Derived.ProofKit
import Derived.SizedLaws
import Derived.OpenShut
namespace Go.Proofs.Ytinpkimflcmkgaa.stackTop
open Go.ChangeShapes Go.WideShapes Go.ChangeAt Go.RowKit

theorem own : ownKnob Try.prog.godebug = none := by kernel_rfl
theorem laidOut : laidOutB Try.prog = true := by kernel_rfl
theorem cellsE : Try.prog.cellsOf 31 = 1 := by kernel_rfl

/-- A slice of words that came in can be read. -/
theorem src_of_ints {W : World} {a : Addr} {len cap : Nat} {zs : List Int} (hl : len ≤ cap) (hz : zs.length = cap) (hcell : ∀ i, i < cap → W.cell? (a.add i) = some (.int .u64 (zs.getD i 0))) :
    Src W (some a) len cap 1 (u64s (zs.take len)) := by
  refine ⟨by simp [u64s]; omega, (by intro h; cases h), fun ad had j u hu => ?_⟩
  cases had
  have hj : j < len := by
    have := (List.getElem?_eq_some_iff.1 hu).1
    simp [u64s] at this
    omega
  rw [hcell j (by omega), ← hu]
  simp [u64s, List.getElem?_take_of_lt hj, List.getElem?_eq_getElem (show j < zs.length by omega), List.getD]

set_option maxRecDepth 100000 in
theorem lifted (os : Os) (started : os.Started) (H : Type) (enc : TypeId × Value → H) :
    ReturnsInHanded {} Try.checked os 4 .any (Rows.stackTopSpec.pre6 enc Try.prog Try.f4 Rows.stackTopRow.domain false) (Rows.stackTopSpec.post enc Try.prog Try.f4 false true false false) := by
  refine returnsInHanded_of_change (C := Try.checked) own started (by kernel_rfl) Try.func4
    (ChangeSpec.witness6 (enc := enc) (C := Try.checked) false ⟨#[], #[.slice none 0 0], []⟩ 8 (by kernel_rfl) (by kernel_rfl) (by kernel_rfl) (by kernel_rfl)) ?_
  intro W base args ds gs before hval0 hW hcnd _
  have hval : ∀ (j : Nat) t v, Try.f4.params[j]? = some t → args[j]? = some v → Value.okWide Try.prog W .any base t v := hval0
  have hW' := hW
  obtain ⟨p, q, hA0, hV, rfl, hfz, hnd⟩ := hW
  have hA : DataW.TrodAll enc Try.prog W 0 (fun _ => true) true Try.f4.params.toList args.toList ds p := hA0
  rw [Try.params4] at hA hval
  obtain ⟨v0, d0, rfl, rfl, h0⟩ := trodAll_one hA
  obtain ⟨rfl, rfl⟩ := trodVars_none hV
  obtain ⟨a0, len, cap, rfl⟩ := okWide_slice Try.underlying30 (hval 0 30 v0 rfl rfl)
  have h0k := h0
  obtain ⟨fuel, hf⟩ := h0
  clear hA0 hval0
  simp only [List.append_nil] at hW'
  have hlt : ∀ x ∈ p, x.block < W.heap.size := fun x hx => by simpa using hW'.lt x hx
  have hargs : ∀ (W' : World), Below W.heap.size W W' → DataW.Trod enc Try.prog W' 0 (fun b => decide (b < W.heap.size)) true 30 (.slice a0 len cap) d0 p :=
    fun W' hn => Below.trod laidOut (by kernel_rfl) (of_decide_eq_true (by kernel_rfl)) h0k hn hlt
  have hsrc : ∃ xs : List Int, Src W a0 len cap 1 (u64s xs) ∧ len ≤ maxLen := by
    rcases open_ints Try.underlying30 Try.underlying31 cellsE hf with ⟨hcs, hx⟩ | ⟨a, len', cap', zs, hcs, _, hl, hm, hz, hx, hcell, hwz⟩
    · simp [Value.cells] at hcs
      obtain ⟨rfl, rfl, rfl⟩ := hcs
      exact ⟨[], ⟨rfl, fun _ => ⟨rfl, rfl⟩, fun ad h => by cases h⟩, Nat.zero_le _⟩
    · simp [Value.cells] at hcs
      obtain ⟨rfl, rfl, rfl⟩ := hcs
      simp only [if_true] at hz
      exact ⟨_, src_of_ints hl hz (fun i hi => hcell i (by omega)), Nat.le_trans hl hm⟩
  obtain ⟨xs, hs, hm⟩ := hsrc
  refine (stackTop_any W hs hm).mono fun e W' ⟨he, hT⟩ => ?_
  subst he
  refine ⟨_, rfl, _, _, _, [], p ++ [], [], hW', ?_, ?_, rfl, hT.below.frame _, fun h => by cases h⟩
  · exact (trodAll_cons_mk (shut_bool Try.underlying4 _) trodAll_mk0)
  · exact trodAll_cons_mk (hargs _ hT.below) trodAll_mk0

theorem over : Rows.stackTopRow.holds Try.pinned (OpenSpec.ofChange Rows.stackTopSpec) :=
  OpenClaim.holds_of_wide 4 Try.f4 rfl rfl rfl rfl rfl rfl rfl ⟨rfl, rfl, rfl, rfl, rfl⟩ rfl rfl rfl rfl rfl (by kernel_rfl) Try.func4 (by kernel_rfl)
    (of_decide_eq_true (by kernel_rfl)) (by unfold Func.isWrapper; first | (rw [if_pos (by decide +kernel)]; kernel_rfl) | (rw [if_neg (by decide +kernel)]; exact ⟨rfl, rfl⟩))
    (fun os started H enc _ => lifted os started H enc)

theorem proved : Rows.StackTopSaid := over
#print axioms proved
end Go.Proofs.Ytinpkimflcmkgaa.stackTop
