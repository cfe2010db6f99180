/-
  StackFrames holds for every bound and all scripts: whatever is done between an Enter and its Leave, the stack is as it was at the Enter.
  Conditions: none.
-/
import Derived.Test.YtinpkimflcmkgaaSf2
import Derived.Test.YtinpkimflcmkgaaStOpen
namespace Go.Proofs.Ytinpkimflcmkgaa.stackFrames
open Go Go.RowKit Go.ChangeShapes Go.WideShapes Go.ChangeAt Go.Deep

theorem own : ownKnob Try.prog.godebug = none := by kernel_rfl
theorem laidOut : laidOutB Try.prog = true := by kernel_rfl

set_option maxRecDepth 100000 in
theorem lifted (os : Os) (started : os.Started) (H : Type) (enc : TypeId × Value → H) :
    ReturnsInHanded {} Try.checked os 6 .any (Rows.stackFramesSpec.pre6 enc Try.prog Try.f6 Rows.stackFramesRow.domain false) (Rows.stackFramesSpec.post enc Try.prog Try.f6 false true false false) := by
  refine returnsInHanded_of_change_sized (C := Try.checked) own started (by kernel_rfl) Try.func6
    (ChangeSpec.witness6 (enc := enc) (C := Try.checked) false ⟨#[], #[.int .i64 0, .slice none 0 0, .slice none 0 0], []⟩ 8 (by kernel_rfl) (by kernel_rfl) (by kernel_rfl) (by kernel_rfl)) ?_
  intro W base args ds gs before hval0 hW hcnd hsz0 _
  have hsz : (DataW.weightsEach Try.prog (Try.f6.params.toList ++ Rows.stackFramesSpec.plain.varTypes Try.prog) (ds ++ gs)).all (· ≤ reachBytes) = true := hsz0
  clear hsz0
  have hval : ∀ (j : Nat) t v, Try.f6.params[j]? = some t → args[j]? = some v → Value.okWide Try.prog W .any base t v := hval0
  have hW' := hW
  obtain ⟨p, q, hA0, hV, rfl, hfz, hnd⟩ := hW
  have hA : DataW.TrodAll enc Try.prog W 0 (fun _ => true) true Try.f6.params.toList args.toList ds p := hA0
  rw [Try.params6] at hA hval hsz
  obtain ⟨v0, v1, v2, d0, d1, d2, p0, p1, p2, rfl, rfl, rfl, h0, h1, h2⟩ := trodAll_three hA
  obtain ⟨rfl, rfl⟩ := trodVars_none hV
  obtain ⟨m, rfl, rfl, rfl, wm⟩ := open_int Try.underlying3 (hval 0 3 v0 rfl rfl) h0
  obtain ⟨a1, n1, c1, rfl⟩ := okWide_slice Try.underlying72 (hval 1 72 v1 rfl rfl)
  obtain ⟨a2, n2, c2, rfl⟩ := okWide_slice Try.underlying72 (hval 2 72 v2 rfl rfl)
  have h1k := h1
  have h2k := h2
  obtain ⟨fuel1, hf1⟩ := h1
  obtain ⟨fuel2, hf2⟩ := h2
  clear hA0 hval0
  simp only [List.append_nil] at hW'
  have hlt1 : ∀ x ∈ p1, x.block < W.heap.size := fun x hx => by simpa using hW'.lt x (by simp [hx])
  have hlt2 : ∀ x ∈ p2, x.block < W.heap.size := fun x hx => by simpa using hW'.lt x (by simp [hx])
  have hargs1 : ∀ (W' : World), Below W.heap.size W W' → DataW.Trod enc Try.prog W' 0 (fun b => decide (b < W.heap.size)) true 72 (.slice a1 n1 c1) d1 p1 :=
    fun W' hn => Below.trod laidOut (by kernel_rfl) (of_decide_eq_true (by kernel_rfl)) h1k hn hlt1
  have hargs2 : ∀ (W' : World), Below W.heap.size W W' → DataW.Trod enc Try.prog W' 0 (fun b => decide (b < W.heap.size)) true 72 (.slice a2 n2 c2) d2 p2 :=
    fun W' hn => Below.trod laidOut (by kernel_rfl) (of_decide_eq_true (by kernel_rfl)) h2k hn hlt2
  obtain ⟨L1, hL1, hd1⟩ := open_steps hf1
  obtain ⟨L2, hL2, hd2⟩ := open_steps hf2
  have hb1 : n1 ≤ 140737488355328 := by
    rcases hd1 with ⟨-, rfl⟩ | ⟨elems, spare, rfl, hel⟩
    · omega
    · have := sized_slice hsz (j := 1) (t := 72) (e := 77) rfl rfl Try.underlying72
      rw [bytes_step] at this
      simp only [reachBytes] at this
      omega
  have hb2 : n2 ≤ 140737488355328 := by
    rcases hd2 with ⟨-, rfl⟩ | ⟨elems, spare, rfl, hel⟩
    · omega
    · have := sized_slice hsz (j := 2) (t := 72) (e := 77) rfl rfl Try.underlying72
      rw [bytes_step] at this
      simp only [reachBytes] at this
      omega
  have hwalk : Calls Try.prog 6 #[.int .i64 m, .slice a1 n1 c1, .slice a2 n2 c2] W (LawPost W) := by
    by_cases hs : 300 < n1 + n2 ∨ m < 0 ∨ 4096 < m
    · exact frames_short W m hb1 hb2 hs
    · obtain ⟨k, rfl⟩ := Int.eq_ofNat_of_zero_le (show 0 ≤ m by omega)
      exact frames_main W k hL1 hL2 (by omega) (by omega)
  refine hwalk.mono fun e W' hpost => ?_
  obtain ⟨he, hT⟩ := hpost
  subst he
  refine ⟨_, rfl, _, _, _, [], [] ++ (p1 ++ (p2 ++ [])), [], hW', ?_, ?_, rfl, hT.below.frame _, fun h => by cases h⟩
  · exact (trodAll_cons_mk (shut_bool Try.underlying4 _) trodAll_mk0)
  · exact trodAll_cons_mk (shut_int Try.underlying3 wm) (trodAll_cons_mk (hargs1 _ hT.below) (trodAll_cons_mk (hargs2 _ hT.below) trodAll_mk0))

theorem over : Rows.stackFramesRow.holds Try.pinned (OpenSpec.ofChange Rows.stackFramesSpec) :=
  OpenClaim.holds_of_wide 6 Try.f6 rfl rfl rfl rfl rfl rfl rfl ⟨rfl, rfl, rfl, rfl, rfl⟩ rfl rfl rfl rfl rfl (by kernel_rfl) Try.func6 (by kernel_rfl)
    (of_decide_eq_true (by kernel_rfl)) (by unfold Func.isWrapper; first | (rw [if_pos (by decide +kernel)]; kernel_rfl) | (rw [if_neg (by decide +kernel)]; exact ⟨rfl, rfl⟩))
    (fun os started H enc _ => lifted os started H enc)

theorem proved : Rows.StackFramesSaid := over
#print axioms proved
end Go.Proofs.Ytinpkimflcmkgaa.stackFrames
