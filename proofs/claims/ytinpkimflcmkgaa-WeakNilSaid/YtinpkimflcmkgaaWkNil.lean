/-
  WeakNil holds for every argument: what no table answers.
  Conditions: none.
-/
import Derived.Test.YtinpkimflcmkgaaWk9
import Derived.Test.YtinpkimflcmkgaaRows
import Derived.ProofKit
import Derived.OpenShut
namespace Go.Proofs.Ytinpkimflcmkgaa.weakNil
open Go Go.ChangeShapes Go.WideShapes Go.ChangeAt Go.RowKit

theorem own : ownKnob Try.prog.godebug = none := by kernel_rfl
theorem laidOut : laidOutB Try.prog = true := by kernel_rfl

set_option maxRecDepth 100000 in
theorem nAdd (v : Int) (w : World) : Calls Try.prog 31 #[.pointer none, .int .u64 v] w fun e w' => e = .returned (.tuple #[.int .u64 0, .int .i64 1]) ∧ w = w' := by
  go_enter Try.func31, Try.ntmps31
  go_wp2
  go_ret2
  exact ⟨rfl, rfl⟩

set_option maxRecDepth 100000 in
theorem nFind (v : Int) (w : World) : Calls Try.prog 65 #[.pointer none, .int .u64 v] w fun e w' => e = .returned (.tuple #[.int .i64 0, .int .i64 1]) ∧ w = w' := by
  go_enter Try.func65, Try.ntmps65
  go_wp2
  go_ret2
  exact ⟨rfl, rfl⟩

set_option maxRecDepth 100000 in
theorem nGet (v : Int) (w : World) : Calls Try.prog 36 #[.pointer none, .int .u64 v] w fun e w' => e = .returned (.tuple #[.int .u64 0, .bool false, .int .i64 1]) ∧ w = w' := by
  go_enter Try.func36, Try.ntmps36
  go_wp2_with (go_at_call 65; refine (nFind v _).mono ?_; rintro e w' ⟨rfl, rfl⟩)
  go_ret3
  exact ⟨rfl, rfl⟩

set_option maxRecDepth 100000 in
theorem nDrop (v : Int) (w : World) : Calls Try.prog 32 #[.pointer none, .int .u64 v] w fun e w' => e = .returned (.int .i64 1) ∧ w = w' := by
  go_enter Try.func32, Try.ntmps32
  go_wp2_with (go_at_call 65; refine (nFind v _).mono ?_; rintro e w' ⟨rfl, rfl⟩)
  go_ret
  exact ⟨rfl, rfl⟩

set_option maxRecDepth 100000 in
theorem nCopy (w : World) : Calls Try.prog 45 #[.pointer none] w fun e w' => e = .returned (.pointer none) ∧ w = w' := by
  go_enter Try.func45, Try.ntmps45
  go_wp2
  go_ret
  exact ⟨rfl, rfl⟩

set_option maxRecDepth 100000 in
theorem nEach (w : World) (f : Value) : Calls Try.prog 66 #[.pointer none, f] w fun e w' => e = .returned (.tuple #[]) ∧ w = w' := by
  go_enter Try.func66, Try.ntmps66
  go_wp2
  refine bodyPost_ret (results_none rfl _ _ _) rfl ?_
  exact ⟨rfl, rfl⟩

set_option maxRecDepth 100000 in
theorem nLen {R : List Blk} (w : World) (hH : Has w R) : Calls Try.prog 43 #[.pointer none] w fun e w' => e = .returned (.int .i64 0) ∧ Turn R w R w' := by
  have T := ((Turn.refl hH).alloc (.cells #[.int .i64 0] 3)).tail
  go_enter Try.func43, Try.ntmps43
  go_wp2_with (go_at_call 66; refine (nEach _ _).mono ?_; rintro e w' ⟨rfl, rfl⟩)
  refine bodyPost_ret (v := .int .i64 0) ?_ rfl ?_
  · simp [results, Try.results43, go_sem]
  · exact ⟨rfl, T⟩

set_option maxRecDepth 100000 in
theorem nRefs {R : List Blk} (w : World) (hH : Has w R) : Calls Try.prog 35 #[.pointer none] w fun e w' => e = .returned (.slice none 0 0) ∧ Turn R w R w' := by
  have T := ((Turn.refl hH).alloc (.cells #[.slice none 0 0] 30)).tail
  go_enter Try.func35, Try.ntmps35
  go_wp2_with (go_at_call 66; refine (nEach _ _).mono ?_; rintro e w' ⟨rfl, rfl⟩)
  refine bodyPost_ret (v := .slice none 0 0) ?_ rfl ?_
  · simp [results, Try.results35, go_sem]
  · exact ⟨rfl, T⟩

set_option maxRecDepth 100000 in
theorem nList {R : List Blk} (w : World) (hH : Has w R) : Calls Try.prog 44 #[.pointer none] w fun e w' => e = .returned (.slice none 0 0) ∧ Turn R w R w' := by
  have T := (((Turn.refl hH).alloc (.cells #[.pointer none] 55)).alloc (.cells #[.slice none 0 0] 58)).tail.tail
  go_enter Try.func44, Try.ntmps44
  go_wp2_with (go_at_call 66; refine (nEach _ _).mono ?_; rintro e w' ⟨rfl, rfl⟩)
  refine bodyPost_ret (v := .slice none 0 0) ?_ rfl ?_
  · simp [results, Try.results44, go_sem]
  · exact ⟨rfl, T⟩

set_option maxRecDepth 100000 in
theorem nPut {R : List Blk} (w : World) (a : Option Addr) (n c : Nat) (hH : Has w R) : Calls Try.prog 33 #[.pointer none, .slice a n c] w fun e w' => e = .returned (.tuple #[.int .i64 0, .int .i64 1]) ∧ Turn R w R w' := by
  have T2 := ((((Turn.refl hH).alloc (.cells #[.slice a n c] 30)).alloc (.cells #[.int .i64 0] 3)).alloc (.cells #[.int .i64 1] 26)).tail.tail.tail
  go_enter Try.func33, Try.ntmps33
  go_wp2
  refine bodyPost_ret (v := .tuple #[.int .i64 0, .int .i64 1]) ?_ rfl ?_
  · simp [results, Try.results33, go_sem]
  · exact ⟨rfl, T2⟩

set_option maxRecDepth 100000 in
set_option maxHeartbeats 3200000 in
theorem walk (x v : Int) (a : Option Addr) (n c : Nat) (w : World) : Calls Try.prog 7 #[.int .u64 x, .int .u64 v, .slice a n c] w fun e w' => e = .returned (.bool true) ∧ Turn [] w [] w' := by
  go_enter Try.func7, Try.ntmps7
  go_wp2_with (first
    | (go_at_call 31; refine (nAdd v _).mono ?_; rintro e w' ⟨rfl, rfl⟩)
    | (go_at_call 36; refine (nGet x _).mono ?_; rintro e w' ⟨rfl, rfl⟩)
    | fail)
  refine (nPut w a n c (Has.nil w)).mono ?_
  rintro e w1 ⟨rfl, T1⟩
  go_wp2_with (first | (go_at_call 32; refine (nDrop x _).mono ?_; rintro e w' ⟨rfl, rfl⟩) | fail)
  refine (nLen w1 T1.has).mono ?_
  rintro e w2 ⟨rfl, T2⟩
  go_wp2_with fail
  refine (nList w2 T2.has).mono ?_
  rintro e w3 ⟨rfl, T3⟩
  go_wp2_with fail
  refine (nRefs w3 T3.has).mono ?_
  rintro e w4 ⟨rfl, T4⟩
  go_wp2_with fail
  refine (nCopy w4).mono ?_
  rintro e w5 ⟨rfl, rfl⟩
  go_wp2_with fail
  refine (alive16 w4 T4.has).mono ?_
  rintro e w5 ⟨rfl, T5⟩
  go_wp2
  go_ret
  exact ⟨rfl, (((T1.trans T2).trans T3).trans T4).trans T5⟩

set_option maxRecDepth 100000 in
theorem lifted (os : Os) (started : os.Started) (H : Type) (enc : TypeId × Value → H) :
    ReturnsInHanded {} Try.checked os 7 .any (Rows.weakNilSpec.pre6 enc Try.prog Try.f7 Rows.weakNilRow.domain false) (Rows.weakNilSpec.post enc Try.prog Try.f7 false true false false) := by
  refine returnsInHanded_of_change (C := Try.checked) own started (by kernel_rfl) Try.func7
    (ChangeSpec.witness6 (enc := enc) (C := Try.checked) false ⟨#[], #[.int .u64 0, .int .u64 0, .slice none 0 0], []⟩ 8 (by kernel_rfl) (by kernel_rfl) (by kernel_rfl) (by kernel_rfl)) ?_
  intro W base args ds gs before hval0 hW hcnd _
  have hval : ∀ (j : Nat) t v, Try.f7.params[j]? = some t → args[j]? = some v → Value.okWide Try.prog W .any base t v := hval0
  have hW' := hW
  obtain ⟨p, q, hA0, hV, rfl, hfz, hnd⟩ := hW
  have hA : DataW.TrodAll enc Try.prog W 0 (fun _ => true) true Try.f7.params.toList args.toList ds p := hA0
  rw [Try.params7] at hA hval
  obtain ⟨v0, v1, v2, d0, d1, d2, p0, p1, p2, rfl, rfl, rfl, h0, h1, h2⟩ := trodAll_three hA
  obtain ⟨rfl, rfl⟩ := trodVars_none hV
  obtain ⟨a0, rfl, rfl, rfl, w0⟩ := open_int Try.underlying60 (hval 0 60 v0 rfl rfl) h0
  obtain ⟨a1, rfl, rfl, rfl, w1⟩ := open_int Try.underlying31 (hval 1 31 v1 rfl rfl) h1
  obtain ⟨a2, n2, c2, rfl⟩ := okWide_slice Try.underlying30 (hval 2 30 v2 rfl rfl)
  clear hA0 hval0
  simp only [List.append_nil] at hW'
  have hlt2 : ∀ x ∈ p2, x.block < W.heap.size := fun x hx => by simpa using hW'.lt x (by simp [hx])
  have hargs2 : ∀ (W' : World), Below W.heap.size W W' → DataW.Trod enc Try.prog W' 0 (fun b => decide (b < W.heap.size)) true 30 (.slice a2 n2 c2) d2 p2 :=
    fun W' hn => Below.trod laidOut (by kernel_rfl) (of_decide_eq_true (by kernel_rfl)) h2 hn hlt2
  refine (walk a0 a1 a2 n2 c2 W).mono fun e W' ⟨he, hT⟩ => ?_
  subst he
  refine ⟨_, rfl, _, _, _, [], [] ++ ([] ++ (p2 ++ [])), [], hW', ?_, ?_, rfl, hT.below.frame _, fun h => by cases h⟩
  · exact (trodAll_cons_mk (shut_bool Try.underlying4 _) trodAll_mk0)
  · exact trodAll_cons_mk (shut_int Try.underlying60 w0) (trodAll_cons_mk (shut_int Try.underlying31 w1) (trodAll_cons_mk (hargs2 _ hT.below) trodAll_mk0))

theorem over : Rows.weakNilRow.holds Try.pinned (OpenSpec.ofChange Rows.weakNilSpec) :=
  OpenClaim.holds_of_wide 7 Try.f7 rfl rfl rfl rfl rfl rfl rfl ⟨rfl, rfl, rfl, rfl, rfl⟩ rfl rfl rfl rfl rfl (by kernel_rfl) Try.func7 (by kernel_rfl)
    (of_decide_eq_true (by kernel_rfl)) (by unfold Func.isWrapper; first | (rw [if_pos (by decide +kernel)]; kernel_rfl) | (rw [if_neg (by decide +kernel)]; exact ⟨rfl, rfl⟩))
    (fun os started H enc _ => lifted os started H enc)

theorem proved : Rows.WeakNilSaid := over
#print axioms proved
end Go.Proofs.Ytinpkimflcmkgaa.weakNil
