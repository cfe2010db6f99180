/-
  skerrylaw14.alive: the chapter's example comes out as it should.
  Conditions: none.
-/
import Derived.Test.YtinpkimflcmkgaaSt6
namespace Go.Proofs.Ytinpkimflcmkgaa
open Go Go.RowKit

theorem stackOk_nil (max : Nat) (h : max ≤ 4096) : StackOk [] [] max := ⟨Nat.zero_le _, h, Nat.zero_le _, by simp⟩

theorem new_stack {R : List Blk} {w : World} (max : Nat) (h : max ≤ 4096) (hH : Has w R) :
    ∃ l, StackIs w.heap.size [] [] max l ∧ Turn R w (l ++ R) (w.alloc (.cells #[.slice none 0 0, .slice none 0 0, .int .i64 max] 107)) :=
  ⟨_, StackIs.mk' (n := 0) (m := 0) (stackOk_nil max h) rfl rfl (Row.nil _ _) (Row.nil _ _), (Turn.refl hH).alloc _⟩

set_option maxRecDepth 100000 in
theorem alive14 {R : List Blk} (w : World) (hH : Has w R) : Calls Try.prog 20 #[] w fun e w' => e = .returned (.bool true) ∧ Turn R w R w' := by
  obtain ⟨l0, S0, T0⟩ := new_stack 9 (by omega) hH
  go_enter Try.func20, Try.ntmps20
  go_wp2_with fail
  refine (new_any 9 w (by omega) (by omega)).mono ?_
  rintro e w0 ⟨rfl, hw0⟩
  rw [show w.alloc (.cells #[.slice none 0 0, .slice none 0 0, .int .i64 (9 : Int)] 107) = w.alloc (.cells #[.slice none 0 0, .slice none 0 0, .int .i64 ((9 : Nat) : Int)] 107) from rfl] at hw0
  rw [hw0] at T0
  clear hw0
  generalize w.heap.size = b at *
  go_wp2_with fail
  refine (push_yes _ S0 T0.has 1 (by decide)).mono ?_
  rintro e w1 ⟨rfl, l1, S1, T1⟩
  have U1 := T0.trans T1
  clear T0 T1
  go_wp2_with fail
  refine (enter_yes _ S1 U1.has (by decide)).mono ?_
  rintro e w2 ⟨rfl, l2, S2, T2⟩
  have U2 := U1.trans T2
  clear U1 T2
  go_wp2_with fail
  refine (push_yes _ S2 U2.has 2 (by decide)).mono ?_
  rintro e w3 ⟨rfl, l3, S3, T3⟩
  have U3 := U2.trans T3
  clear U2 T3
  go_wp2_with fail
  refine (push_yes _ S3 U3.has 3 (by decide)).mono ?_
  rintro e w4 ⟨rfl, l4, S4, T4⟩
  have U4 := U3.trans T4
  clear U3 T4
  go_wp2_with fail
  refine (words_any _ S4 U4.has).mono ?_
  rintro e w5 ⟨ao, cap, lr, rfl, hr, T5⟩
  have U5 := (U4.trans T5).perm (l2 := l4 ++ (lr ++ R)) (perm_of fun c => by simp; omega)
  clear U4 T5
  go_wp2_with fail
  refine (quiet_turn (get_yes _ S4 U5.has 1 1 ⟨rfl, by decide⟩ 2 rfl) U5.has).mono ?_
  rintro e w6 ⟨rfl, T6⟩
  have U6 := U5.trans T6
  clear U5 T6
  go_wp2_with fail
  refine (quiet_turn (get_no _ S4 U6.has 2 (by decide)) U6.has).mono ?_
  rintro e w7 ⟨rfl, T7⟩
  have U7 := U6.trans T7
  clear U6 T7
  go_wp2_with fail
  refine (leave_yes _ (fs' := []) (x := 1) S4 U7.has).mono ?_
  rintro e w8 ⟨rfl, l8, S8, T8⟩
  have U8 := U7.trans T8
  clear U7 T8
  go_wp2_with fail
  refine (pop_yes _ S8 U8.has 1 [] rfl (by decide)).mono ?_
  rintro e w9 ⟨rfl, l9, S9, T9⟩
  have U9 := U8.trans T9
  clear U8 T9
  go_wp2_with fail
  refine (quiet_turn (pop_bare _ S9 U9.has rfl) U9.has).mono ?_
  rintro e w10 ⟨rfl, T10⟩
  have U10 := U9.trans T10
  clear U9 T10
  go_wp2_with fail
  refine (leave_none _ S9 U10.has).mono ?_
  rintro e w11 ⟨rfl, rfl⟩
  have U11 := U10.alloc (.cells #[.int .u64 1, .int .u64 2, .int .u64 3] 31)
  have hp := U11.has.perm (l' := lr ++ ((w10.heap.size, Obj.cells #[.int .u64 1, .int .u64 2, .int .u64 3] 31 (0, 0)) :: (l9 ++ R))) (perm_of fun c => by simp only [wt_cons, wt_append]; omega)
  have hs1 := hr.src hp
  have hs2 : Src (w10.alloc (.cells #[.int .u64 1, .int .u64 2, .int .u64 3] 31)) (some ⟨w10.heap.size, 0, none⟩) 3 3 1 (u64s [1, 2, 3]) :=
    ⟨rfl, (by intro h; cases h), fun ad had j u hu => by cases had; exact news_of (heap_alloc_new _ _) j u hu⟩
  clear S0 S1 S2 S3 S4 S8 S9 U10
  go_wp2_with fail
  refine (same_any _ hs1 hs2 (by decide)).mono ?_
  rintro e w12 ⟨rfl, n12, rfl⟩
  go_wp2
  go_ret
  exact ⟨rfl, (U11.drewN _).tail.drop.drop⟩
end Go.Proofs.Ytinpkimflcmkgaa
