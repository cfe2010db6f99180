/-
  AuditGaps holds for any words, any types, any steps: no two gaps touch each other that are free, and all cells are right; the listed variables tied to the program text.
  Conditions: none.
-/
import Derived.Test.YtbecgkejdacidaaGreatDoorCards
import Derived.Test.YtbecgkejdacidaaGreatDoorTie
import Derived.SevenTiedAt
import Derived.Test.YtbecgkejdacidaaGreatDoorQc7
set_option maxRecDepth 100000
set_option maxHeartbeats 12800000
namespace Go.Proofs.YtbecgkejdacidaaGreatDoor.auditGaps
open Go Go.RowKit Go.ChangeShapes Go.WideShapes Go.ChangeAt Go.Deep
theorem own : ownKnob Tryz.prog.godebug = none := by kernel_rfl
theorem laidOut : laidOutB Tryz.prog = true := by kernel_rfl
theorem witness (os : Os) (H : Type) (enc : TypeId × Value → H) :
  ∃ (w : World) (tape : Tape) (i : Input), w.os = os ∧ (w.forCall tape i).Shaped Tryz.prog ∧ i.vars = [] ∧ Input.okWide Tryz.prog (w.forCall tape i) .any w.heap.size 5 i ∧
   ((Rows.auditGapsSpec.pre enc Tryz.prog Tryz.f5 Rows.auditGapsRow.domain false (w.forCall tape i).memory i.args ∧ laidMetH Tryz.prog Rows.auditGapsRow.laid (w.forCall tape i).memory) ∧ sizedMet enc Tryz.prog Tryz.f5 (OpenSpec.ofChange Rows.auditGapsSpec) false (w.forCall tape i).memory i.args) ∧ ({} : Assume).holds Tryz.prog (lone (Frame.enter Tryz.prog 5 i.args .normal) [] (w.forCall tape i)) :=
 ChangeSpec.witness_shaped (enc := enc) (C := Tryz.checked) (os := os) (X := fun w _ => laidMetH Tryz.prog Rows.auditGapsRow.laid w) false
  { World.holding Tryz.prog os ⟨#[], #[], []⟩ with heap := (varsWorld Tryz.prog 200 (varsId Tryz.prog) os (fun _ _ => 0)).heap }
  #[.int .i64 0, .slice none 0 0, .slice none 0 0] 8 rfl (World.shaped_of_RefB (by kernel_rfl) (by kernel_rfl)) (by kernel_rfl) (by kernel_rfl) (by kernel_rfl)
  (by rw [MakeChecks.laidMetH_plain _ _ _ (by kernel_rfl)]; exact laidMet_of_run' 8 (by kernel_rfl) (by kernel_rfl))
theorem lifted (os : Os) (started : os.Started) (H : Type) (enc : TypeId × Value → H) :
  ReturnsInHanded {} Tryz.checked os 5 .any (fun w args => (Rows.auditGapsSpec.pre enc Tryz.prog Tryz.f5 Rows.auditGapsRow.domain false w args ∧ laidMetH Tryz.prog Rows.auditGapsRow.laid w) ∧ sizedMet enc Tryz.prog Tryz.f5 (OpenSpec.ofChange Rows.auditGapsSpec) false w args)
   (Rows.auditGapsSpec.post enc Tryz.prog Tryz.f5 false true false false) := by
 refine returns_listed9 (C := Tryz.checked) own started (by kernel_rfl) Tryz.func5 (witness os H enc) ?_
 intro W base args ds gs before hval0 hW hcnd hsz0 hL
 obtain ⟨hFd, hTb⟩ := env9_of W (show laidMet Tryz.prog Rows.statsSumRow.laid W by have h := hL; rw [MakeChecks.laidMetH_plain _ _ _ (by kernel_rfl)] at h; exact h)
 have hsz : (DataW.weightsEach Tryz.prog (Tryz.f5.params.toList ++ Rows.auditGapsSpec.plain.varTypes Tryz.prog) (ds ++ gs)).all (· ≤ reachBytes) = true := hsz0
 clear hsz0
 have hval : ∀ (j : Nat) t v, Tryz.f5.params[j]? = some t → args[j]? = some v → Value.okWide Tryz.prog W .any base t v := hval0
 have hW' := hW
 obtain ⟨p, q, hA0, hV, rfl, hfz, hnd⟩ := hW
 have hA : DataW.TrodAll enc Tryz.prog W 0 (fun _ => true) true Tryz.f5.params.toList args.toList ds p := hA0
 rw [Tryz.params5] at hA hval hsz
 obtain ⟨v0, v1, v2, d0, d1, d2, p0, p1, p2, rfl, rfl, rfl, h0, h1, h2⟩ := trodAll_three hA
 obtain ⟨rfl, rfl⟩ := trodVars_none hV
 obtain ⟨n0, rfl, rfl, rfl, wn0⟩ := open_int Tryz.underlying3 (hval 0 3 v0 rfl rfl) h0
 obtain ⟨lao, ln, lcap, rfl⟩ := okWide_slice Tryz.underlying22 (hval 1 22 v1 rfl rfl)
 obtain ⟨sao, sn, scap, rfl⟩ := okWide_slice Tryz.underlying23 (hval 2 23 v2 rfl rfl)
 have h1k := h1
 have h2k := h2
 obtain ⟨fuel1, hf1⟩ := h1
 obtain ⟨fuel2, hf2⟩ := h2
 obtain ⟨L, hTy, hS, rfl, hlc, hlm⟩ := open_types hf1
 obtain ⟨ss, hSt, rfl, hsm, hin⟩ := open_steps9 hf2 (fun n hn => of_decide_eq_true (List.all_eq_true.1 hsz _ (DataW.weights_mem_each (j := 2) (t := 23) (d := d2) rfl rfl n hn)))
 clear hA0 hval0
 simp only [List.append_nil] at hW'
 have hlt1 : ∀ x ∈ p1, x.block < W.heap.size := fun x hx => by simpa using hW'.lt x (by simp [hx])
 have hargs1 : ∀ (W' : World), Below W.heap.size W W' → DataW.Trod enc Tryz.prog W' 0 (fun b => decide (b < W.heap.size)) true 22 (.slice lao L.length lcap) d1 p1 :=
  fun W' hn => Below.trod laidOut (by kernel_rfl) (of_decide_eq_true (by kernel_rfl)) h1k hn hlt1
 have hlt2 : ∀ x ∈ p2, x.block < W.heap.size := fun x hx => by simpa using hW'.lt x (by simp [hx])
 have hargs2 : ∀ (W' : World), Below W.heap.size W W' → DataW.Trod enc Tryz.prog W' 0 (fun b => decide (b < W.heap.size)) true 23 (.slice sao ss.length scap) d2 p2 :=
  fun W' hn => Below.trod laidOut (by kernel_rfl) (of_decide_eq_true (by kernel_rfl)) h2k hn hlt2
 refine (auditGaps_walk W hFd hTb n0 L lao lcap sao ss.length scap (heavy n0 L.length ss) (uh (heavy9 W n0 lao L.length lcap sao scap ss hSt (by omega) hsm fun s hs => (hin s hs).2.2)) (uh fun hh => played_all W hFd L lao lcap hS hTy n0 sao scap ss hSt hin hh)).mono fun e W' ⟨he, hT⟩ => ?_
 subst he
 refine ⟨_, rfl, _, _, _, [], [] ++ (p1 ++ (p2 ++ [])), [], hW', ?_, ?_, rfl, hT.frame _, fun h => by cases h⟩
 · exact (trodAll_cons_mk (shut_bool Tryz.underlying4 _) trodAll_mk0)
 · exact trodAll_cons_mk (shut_int Tryz.underlying3 wn0) (trodAll_cons_mk (hargs1 _ hT) (trodAll_cons_mk (hargs2 _ hT) trodAll_mk0))
theorem over : Rows.AuditGapsSaid :=
 OpenClaim.holds_of_wide 5 Tryz.f5 rfl rfl rfl rfl rfl rfl rfl ⟨rfl, rfl, rfl, rfl, rfl⟩ rfl rfl rfl rfl rfl named Tryz.func5 closed
  (of_decide_eq_true (by kernel_rfl)) (by unfold Func.isWrapper; first | (rw [if_pos (by decide +kernel)]; kernel_rfl) | (rw [if_neg (by decide +kernel)]; exact ⟨rfl, rfl⟩))
  (fun os started H enc _ => lifted os started H enc)
theorem proved : Rows.AuditGapsCardSaid :=
 Claim7.holds_tied_plain_at .later [] [.data, .data, .data, .data] true (true, "367503d1219b5296946ea50cbce7af74187deeecb45e1afd359862ce6c042c1c") false
  over (fun _ h => by cases h) wfText (fun _ h => by cases h) auditGaps_row_tie rfl ⟨rfl, rfl⟩ mainIs rfl
  (fun f fn hf hfn => by
    obtain rfl : f = 5 := Option.some.inj (named.symm.trans hf) |>.symm
    obtain rfl : fn = Tryz.f5 := (Option.some.inj (Tryz.func5.symm.trans hfn)).symm
    exact ⟨looks, fun j t ht => by
     rw [Tryz.params5] at ht
     have hm : t ∈ [3, 22, 23] := by simpa using Array.mem_of_getElem? ht
     have hall : ([3, 22, 23].all fun u => !Tryz.prog.wantsStandIn u) = true := by kernel_rfl
     exact (show Tryz.prog.wantsStandIn t = false by simpa using List.all_eq_true.1 hall t hm)⟩)
  goesBy
end Go.Proofs.YtbecgkejdacidaaGreatDoor.auditGaps
