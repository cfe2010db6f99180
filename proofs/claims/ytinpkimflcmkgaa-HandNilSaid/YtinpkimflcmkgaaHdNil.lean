/-
  HandNil holds for every argument: what no table answers.
  Conditions: none.
-/
import Derived.Test.YtinpkimflcmkgaaHd12
import Derived.Test.YtinpkimflcmkgaaRows
import Derived.ProofKit
import Derived.OpenShut
namespace Go.Proofs.Ytinpkimflcmkgaa.handNil
open Go Go.ChangeShapes Go.WideShapes Go.ChangeAt Go.RowKit

theorem own : ownKnob Try.prog.godebug = none := by kernel_rfl
theorem laidOut : laidOutB Try.prog = true := by kernel_rfl

set_option maxRecDepth 100000 in
set_option maxHeartbeats 3200000 in
theorem walk (x v : Int) (a : Option Addr) (n c : Nat) (w : World) : Calls Try.prog 10 #[.int .u64 x, .int .u64 v, .slice a n c] w fun e w' => e = .returned (.bool true) ∧ Turn [] w [] w' := by
  go_enter Try.func10, Try.ntmps10
  go_wp2_with (first
    | (go_at_call 14; refine (nAdd v _).mono ?_; rintro e w' ⟨rfl, rfl⟩)
    | (go_at_call 17; refine (nGet x _).mono ?_; rintro e w' ⟨rfl, rfl⟩)
    | (go_at_call 15; refine (nSet x v _).mono ?_; rintro e w' ⟨rfl, rfl⟩)
    | (go_at_call 16; refine (nDrop x _).mono ?_; rintro e w' ⟨rfl, rfl⟩)
    | fail)
  refine (nPut w a n c (Has.nil w)).mono ?_
  rintro e w1 ⟨rfl, T1⟩
  go_wp2_with fail
  refine (nLen w1 T1.has).mono ?_
  rintro e w2 ⟨rfl, T2⟩
  go_wp2_with fail
  refine (nList w2 T2.has).mono ?_
  rintro e w3 ⟨rfl, T3⟩
  go_wp2_with fail
  refine (nRefs w3 T3.has).mono ?_
  rintro e w4 ⟨rfl, T4⟩
  go_wp2_with fail
  refine (nCopy w4).mono ?_
  rintro e w5 ⟨rfl, rfl⟩
  go_wp2_with fail
  refine (alive15 w4 T4.has).mono ?_
  rintro e w5 ⟨rfl, T5⟩
  go_wp2
  go_ret
  exact ⟨rfl, (((T1.trans T2).trans T3).trans T4).trans T5⟩

set_option maxRecDepth 100000 in
theorem lifted (os : Os) (started : os.Started) (H : Type) (enc : TypeId × Value → H) :
    ReturnsInHanded {} Try.checked os 10 .any (Rows.handNilSpec.pre6 enc Try.prog Try.f10 Rows.handNilRow.domain false) (Rows.handNilSpec.post enc Try.prog Try.f10 false true false false) := by
  refine returnsInHanded_of_change (C := Try.checked) own started (by kernel_rfl) Try.func10
    (ChangeSpec.witness6 (enc := enc) (C := Try.checked) false ⟨#[], #[.int .u64 0, .int .u64 0, .slice none 0 0], []⟩ 8 (by kernel_rfl) (by kernel_rfl) (by kernel_rfl) (by kernel_rfl)) ?_
  intro W base args ds gs before hval0 hW hcnd _
  have hval : ∀ (j : Nat) t v, Try.f10.params[j]? = some t → args[j]? = some v → Value.okWide Try.prog W .any base t v := hval0
  have hW' := hW
  obtain ⟨p, q, hA0, hV, rfl, hfz, hnd⟩ := hW
  have hA : DataW.TrodAll enc Try.prog W 0 (fun _ => true) true Try.f10.params.toList args.toList ds p := hA0
  rw [Try.params10] at hA hval
  obtain ⟨v0, v1, v2, d0, d1, d2, p0, p1, p2, rfl, rfl, rfl, h0, h1, h2⟩ := trodAll_three hA
  obtain ⟨rfl, rfl⟩ := trodVars_none hV
  obtain ⟨a0, rfl, rfl, rfl, w0⟩ := open_int Try.underlying32 (hval 0 32 v0 rfl rfl) h0
  obtain ⟨a1, rfl, rfl, rfl, w1⟩ := open_int Try.underlying31 (hval 1 31 v1 rfl rfl) h1
  obtain ⟨a2, n2, c2, rfl⟩ := okWide_slice Try.underlying30 (hval 2 30 v2 rfl rfl)
  clear hA0 hval0
  simp only [List.append_nil] at hW'
  have hlt2 : ∀ x ∈ p2, x.block < W.heap.size := fun x hx => by simpa using hW'.lt x (by simp [hx])
  have hargs2 : ∀ (W' : World), Below W.heap.size W W' → DataW.Trod enc Try.prog W' 0 (fun b => decide (b < W.heap.size)) true 30 (.slice a2 n2 c2) d2 p2 :=
    fun W' hn => Below.trod laidOut (by kernel_rfl) (of_decide_eq_true (by kernel_rfl)) h2 hn hlt2
  refine (walk a0 a1 a2 n2 c2 W).mono fun e W' ⟨he, hT⟩ => ?_
  subst he
  refine ⟨_, rfl, _, _, _, [], [] ++ ([] ++ (p2 ++ [])), [], hW', ?_, ?_, rfl, hT.below.frame _, fun h => by cases h⟩
  · exact (trodAll_cons_mk (shut_bool Try.underlying4 _) trodAll_mk0)
  · exact trodAll_cons_mk (shut_int Try.underlying32 w0) (trodAll_cons_mk (shut_int Try.underlying31 w1) (trodAll_cons_mk (hargs2 _ hT.below) trodAll_mk0))

theorem over : Rows.handNilRow.holds Try.pinned (OpenSpec.ofChange Rows.handNilSpec) :=
  OpenClaim.holds_of_wide 10 Try.f10 rfl rfl rfl rfl rfl rfl rfl ⟨rfl, rfl, rfl, rfl, rfl⟩ rfl rfl rfl rfl rfl (by kernel_rfl) Try.func10 (by kernel_rfl)
    (of_decide_eq_true (by kernel_rfl)) (by unfold Func.isWrapper; first | (rw [if_pos (by decide +kernel)]; kernel_rfl) | (rw [if_neg (by decide +kernel)]; exact ⟨rfl, rfl⟩))
    (fun os started H enc _ => lifted os started H enc)

theorem proved : Rows.HandNilSaid := over
#print axioms proved
end Go.Proofs.Ytinpkimflcmkgaa.handNil
