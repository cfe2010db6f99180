/-
  LogBack holds for all reports, every bound and cut, every text: which sums a log gives, and which reports a line is read back to; the listed variables tied to the program's text.
  Conditions: none.
-/
import Derived.Test.YtpnpnajheaijaaaDoorRp
import Derived.Test.YtpnpnajheaijaaaDoorLg31
import Derived.Test.YtpnpnajheaijaaaDoorCards
import Derived.Test.YtpnpnajheaijaaaDoorTie
import Derived.SevenTiedAt
namespace Go.Proofs.YtpnpnajheaijaaaDoor.logBack
open Go Go.RowKit Go.ChangeShapes Go.WideShapes Go.ChangeAt Go.Deep

theorem own : ownKnob Tryd.prog.godebug = none := by kernel_rfl
theorem laidOut : laidOutB Tryd.prog = true := by kernel_rfl

set_option maxRecDepth 100000 in
theorem witness (os : Os) (H : Type) (enc : TypeId × Value → H) :
    ∃ (w : World) (tape : Tape) (i : Input), w.os = os ∧ (w.forCall tape i).Shaped Tryd.prog ∧ i.vars = [] ∧ Input.okWide Tryd.prog (w.forCall tape i) .any w.heap.size 4 i ∧
      ((Rows.logBackSpec.pre enc Tryd.prog Tryd.f4 Rows.logBackRow.domain false (w.forCall tape i).memory i.args ∧ laidMetH Tryd.prog Rows.logBackRow.laid (w.forCall tape i).memory) ∧ sizedMet enc Tryd.prog Tryd.f4 (OpenSpec.ofChange Rows.logBackSpec) false (w.forCall tape i).memory i.args) ∧ ({} : Assume).holds Tryd.prog (lone (Frame.enter Tryd.prog 4 i.args .normal) [] (w.forCall tape i)) :=
  ChangeSpec.witness_shaped (enc := enc) (C := Tryd.checked) (os := os) (X := fun w _ => laidMetH Tryd.prog Rows.logBackRow.laid w) false
    { World.holding Tryd.prog os ⟨#[], #[], []⟩ with heap := (varsWorld Tryd.prog 72 (varsId Tryd.prog) os (fun _ _ => 0)).heap.modify 4 fun
        | .cells _ t f => .cells (Lib.firstTab.map fun z => Value.int .u8 z).toArray t f
        | o => o }
    #[.slice none 0 0, .int .u8 0, .int .u8 0, .string ⟨#[]⟩] 8 rfl (World.shaped_of_RefB (by kernel_rfl) (by kernel_rfl)) (by kernel_rfl) (by kernel_rfl) (by kernel_rfl)
    (by rw [MakeChecks.laidMetH_plain _ _ _ (by kernel_rfl)]; exact laidMet_of_run' 8 (by kernel_rfl) (by kernel_rfl))

set_option maxRecDepth 100000 in
theorem lifted (os : Os) (started : os.Started) (H : Type) (enc : TypeId × Value → H) :
    ReturnsInHanded {} Tryd.checked os 4 .any (fun w args => (Rows.logBackSpec.pre enc Tryd.prog Tryd.f4 Rows.logBackRow.domain false w args ∧ laidMetH Tryd.prog Rows.logBackRow.laid w) ∧ sizedMet enc Tryd.prog Tryd.f4 (OpenSpec.ofChange Rows.logBackSpec) false w args)
      (Rows.logBackSpec.post enc Tryd.prog Tryd.f4 false true false false) := by
  refine returns_listed (C := Tryd.checked) own started (by kernel_rfl) Tryd.func4 (witness os H enc) ?_
  intro W base args ds gs before hval0 hW hcnd hL hsh
  have hE : Env W := env_of W (show laidMet Tryd.prog Rows.logNilRow.laid W by have h := hL; rw [MakeChecks.laidMetH_plain _ _ _ (by kernel_rfl)] at h; exact h) hsh
  have hval : ∀ (j : Nat) t v, Tryd.f4.params[j]? = some t → args[j]? = some v → Value.okWide Tryd.prog W .any base t v := hval0
  have hW' := hW
  obtain ⟨p, q, hA0, hV, rfl, hfz, hnd⟩ := hW
  have hA : DataW.TrodAll enc Tryd.prog W 0 (fun _ => true) true Tryd.f4.params.toList args.toList ds p := hA0
  rw [Tryd.params4] at hA hval
  obtain ⟨v0, v1, v2, v3, d0, d1, d2, d3, p0, p1, p2, p3, rfl, rfl, rfl, h0, h1, h2, h3⟩ := trodAll_four hA
  obtain ⟨rfl, rfl⟩ := trodVars_none hV
  obtain ⟨ao, n, cap, rfl⟩ := okWide_slice Tryd.underlying32 (hval 0 32 v0 rfl rfl)
  obtain ⟨m, rfl, rfl, rfl, wm⟩ := open_int Tryd.underlying5 (hval 1 5 v1 rfl rfl) h1
  obtain ⟨i, rfl, rfl, rfl, wi⟩ := open_int Tryd.underlying5 (hval 2 5 v2 rfl rfl) h2
  obtain ⟨s, rfl, rfl, rfl, ws⟩ := ChangeMaps.open_string Tryd.underlying9 (hval 3 9 v3 rfl rfl) h3
  have h0k := h0
  obtain ⟨fuel0, hf0⟩ := h0
  obtain ⟨xs, hx, hs, -, hnc, -⟩ := open_reps hf0
  clear hA0 hval0
  simp only [List.append_nil] at hW'
  have hlt0 : ∀ x ∈ p0, x.block < W.heap.size := fun x hx => by simpa using hW'.lt x (by simp [hx])
  have hargs0 : ∀ (W' : World), Below W.heap.size W W' → DataW.Trod enc Tryd.prog W' 0 (fun b => decide (b < W.heap.size)) true 32 (.slice ao n cap) d0 p0 :=
    fun W' hn => Below.trod laidOut (by kernel_rfl) (of_decide_eq_true (by kernel_rfl)) h0k hn hlt0
  refine (logBack_all W hE ao n cap m i (bounds_u8 wm) (bounds_u8 wi) s hnc xs hx hs).mono fun e W' ⟨he, hT⟩ => ?_
  subst he
  refine ⟨_, rfl, _, _, _, [], p0 ++ ([] ++ ([] ++ ([] ++ []))), [], hW', ?_, ?_, rfl, hT.frame _, fun h => by cases h⟩
  · exact (trodAll_cons_mk (shut_bool Tryd.underlying4 _) trodAll_mk0)
  · exact trodAll_cons_mk (hargs0 _ hT) (trodAll_cons_mk (shut_int Tryd.underlying5 wm) (trodAll_cons_mk (shut_int Tryd.underlying5 wi) (trodAll_cons_mk (ChangeMaps.shut_string Tryd.underlying9 ws) trodAll_mk0)))

theorem over : Rows.LogBackSaid :=
  OpenClaim.holds_of_wide 4 Tryd.f4 rfl rfl rfl rfl rfl rfl rfl ⟨rfl, rfl, rfl, rfl, rfl⟩ rfl rfl rfl rfl rfl (by kernel_rfl) Tryd.func4 (by kernel_rfl)
    (of_decide_eq_true (by kernel_rfl)) (by unfold Func.isWrapper; first | (rw [if_pos (by decide +kernel)]; kernel_rfl) | (rw [if_neg (by decide +kernel)]; exact ⟨rfl, rfl⟩))
    (fun os started H enc _ => lifted os started H enc)

theorem proved : Rows.LogBackCardSaid :=
  Claim7.holds_tied_plain_at .later [] [.data, .data, .data, .data, .sentinel, .sentinel, .pinned] true (true, "563408d7479c31915e127dae9ab19659fbd3c282afcf2b6454bf21b8a3647ad2") true
    over (fun _ h => by cases h) (by kernel_rfl) (fun _ h => by cases h) logBack_row_tie rfl ⟨rfl, rfl⟩ (by kernel_rfl) rfl
    (fun f fn hf hfn => by
      obtain rfl : f = 4 := Option.some.inj ((show Tryd.prog.funcNamed "skerry/skerrylaw34.LogBack" = some 4 by kernel_rfl).symm.trans hf) |>.symm
      obtain rfl : fn = Tryd.f4 := (Option.some.inj (Tryd.func4.symm.trans hfn)).symm
      exact ⟨by kernel_rfl, fun j t ht => by
        rw [Tryd.params4] at ht
        have hm : t ∈ [32, 5, 5, 9] := by simpa using Array.mem_of_getElem? ht
        have hall : ([32, 5, 5, 9].all fun u => !Tryd.prog.wantsStandIn u) = true := by kernel_rfl
        exact (show Tryd.prog.wantsStandIn t = false by simpa using List.all_eq_true.1 hall t hm)⟩)
    (by kernel_rfl)
#print axioms proved
end Go.Proofs.YtpnpnajheaijaaaDoor.logBack
