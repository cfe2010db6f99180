/-
  skerrylaw14.Does at a Push and at a Set (statements that leave their order open), and at any step.
  Conditions: none beyond what each contract states.
-/
import Derived.Test.YtinpkimflcmkgaaRf5
import Derived.Deep.RegionHeld3
import Derived.Deep.DrawnRows
namespace Go.Proofs.Ytinpkimflcmkgaa
open Go Go.RowKit
attribute [local go_sem ↓] Go.wp_at_zero Go.wp_at_succ

section
variable {bs br : Nat} {J : List Inn} {i : Inn} {max : Nat} {ls lr R : List Blk}

set_option maxRecDepth 100000 in
theorem does_push (w : World) (hS : Sync bs br J i max ls lr) (hH : Has w (ls ++ (lr ++ R))) (k v : Int) :
    Calls Try.prog 38 #[.pointer (some ⟨bs, 0, none⟩), .pointer (some ⟨br, 0, none⟩), .agg #[.int .i64 0, .int .i64 k, .int .u64 v]] w (DoesPost bs br J i max ls lr R w 0) := by
  have T0 := (((Turn.refl hH).alloc (.cells #[.int .i64 0, .int .i64 k, .int .u64 v] 77)).drew).perm (l2 := ls ++ (lr ++ (stepBox w 0 k v :: R))) (perm_of fun c => by simp [stepBox]; omega)
  have hbx : ∀ (l : List Blk) (W : World), Has W l → stepBox w 0 k v ∈ l → W.cell? ⟨w.heap.size, 2, none⟩ = some (.int .u64 v) := fun _ _ hW hm => (box_cells hW hm).c2
  have Hbx := Lib.hid hbx
  clear hbx
  by_cases hlt : (flat (J ++ [i])).length < max
  · have Hlt := Lib.hid hlt
    clear hlt
    go_enter Try.func38, Try.ntmps38
    go_wp2_with fail
    go_region_held3 (fun w' => w'.cell? ⟨w.heap.size, 2, none⟩ = some (.int .u64 v))
      (first | go_keep | exact d2)
      (first
        | (go_at_call 22; refine (push_yes _ hS.st T0.has v Hlt.out).mono ?_; rintro e w1 ⟨rfl, ls1, S1, T1⟩; have V1 := (T0.trans T1).perm (l2 := lr ++ (ls1 ++ (stepBox w 0 k v :: R))) (perm_of fun c => by simp; omega); have d2 := Hbx.out _ _ V1.has (by simp))
        | (go_at_call 70; refine (rPush_yes _ hS.rf V1.has v Hlt.out).mono ?_; rintro e w2 ⟨rfl, j, lr2, hj, S2, T2⟩; have V2 := V1.trans T2; have d2 := Hbx.out _ _ V2.has (by simp)))
    go_wp2
    go_ret
    refine ⟨rfl, J, j, ls1, lr2, ⟨?_, S2⟩, (V2.perm (l2 := [stepBox w 0 k v] ++ (ls1 ++ (lr2 ++ R))) (perm_of fun c => by simp; omega)).drop, .top rfl⟩
    rw [flat_snoc, hj, ← List.append_assoc, ← flat_snoc]
    exact S1
  · have hle := hS.ok.len
    have hfull : (flat (J ++ [i])).length = max := by omega
    have Hfull := Lib.hid hfull
    clear hlt hle hfull
    go_enter Try.func38, Try.ntmps38
    go_wp2_with fail
    go_region_held3 (fun w' => w'.cell? ⟨w.heap.size, 2, none⟩ = some (.int .u64 v))
      (first | go_keep | exact d2)
      (first
        | (go_at_call 22; refine (quiet_turn (push_full _ hS.st T0.has v Hfull.out) T0.has).mono ?_; rintro e w1 ⟨rfl, T1⟩; have V1 := (T0.trans T1).perm (l2 := lr ++ (ls ++ (stepBox w 0 k v :: R))) (perm_of fun c => by simp; omega); have d2 := Hbx.out _ _ V1.has (by simp))
        | (go_at_call 70; refine (rPush_full _ hS.rf V1.has v Hfull.out).mono ?_; rintro e w2 ⟨rfl, T2⟩; have V2 := V1.trans T2; have d2 := Hbx.out _ _ V2.has (by simp)))
    go_wp2
    go_ret
    exact ⟨rfl, J, i, ls, lr, hS, (V2.perm (l2 := [stepBox w 0 k v] ++ (ls ++ (lr ++ R))) (perm_of fun c => by simp; omega)).drop, .top rfl⟩

set_option maxRecDepth 100000 in
theorem does_set (w : World) (hS : Sync bs br J i max ls lr) (hH : Has w (ls ++ (lr ++ R))) (k v : Int) :
    Calls Try.prog 38 #[.pointer (some ⟨bs, 0, none⟩), .pointer (some ⟨br, 0, none⟩), .agg #[.int .i64 4, .int .i64 k, .int .u64 v]] w (DoesPost bs br J i max ls lr R w 4) := by
  have T0 := (((Turn.refl hH).alloc (.cells #[.int .i64 4, .int .i64 k, .int .u64 v] 77)).drew).perm (l2 := ls ++ (lr ++ (stepBox w 4 k v :: R))) (perm_of fun c => by simp [stepBox]; omega)
  have hbx : ∀ (l : List Blk) (W : World), Has W l → stepBox w 4 k v ∈ l → W.cell? ⟨w.heap.size, 1, none⟩ = some (.int .i64 k) ∧ W.cell? ⟨w.heap.size, 2, none⟩ = some (.int .u64 v) := fun _ _ hW hm => ⟨(box_cells hW hm).c1, (box_cells hW hm).c2⟩
  have Hbx := Lib.hid hbx
  clear hbx
  by_cases hk : k < 0 ∨ (i.xs.length : Int) ≤ k
  · have hno := hS.mayAt k hk
    have Hno := Lib.hid hno
    have Hk := Lib.hid hk
    clear hno hk
    go_enter Try.func38, Try.ntmps38
    go_wp2_with fail
    go_region_held3 (fun w' => w'.cell? ⟨w.heap.size, 1, none⟩ = some (.int .i64 k) ∧ w'.cell? ⟨w.heap.size, 2, none⟩ = some (.int .u64 v))
      (first | go_keep | exact d2)
      (first
        | (go_at_call 48; refine (quiet_turn (set_no _ hS.st T0.has k Hno.out v) T0.has).mono ?_; rintro e w1 ⟨rfl, T1⟩; have V1 := (T0.trans T1).perm (l2 := lr ++ (ls ++ (stepBox w 4 k v :: R))) (perm_of fun c => by simp; omega); have d2 := Hbx.out _ _ V1.has (by simp))
        | (go_at_call 73; refine (rSet_no _ hS.rf V1.has k v Hk.out).mono ?_; rintro e w2 ⟨rfl, T2⟩; have V2 := V1.trans T2; have d2 := Hbx.out _ _ V2.has (by simp)))
    go_wp2
    go_ret
    exact ⟨rfl, J, i, ls, lr, hS, (V2.perm (l2 := [stepBox w 4 k v] ++ (ls ++ (lr ++ R))) (perm_of fun c => by simp; omega)).drop, .top rfl⟩
  · obtain ⟨j, q, rfl, hq⟩ : ∃ j q : Nat, k = j ∧ q + 1 + j = i.xs.length := ⟨k.toNat, i.xs.length - 1 - k.toNat, by omega, by omega⟩
    have Hq := Lib.hid hq
    clear hk hq
    go_enter Try.func38, Try.ntmps38
    go_wp2_with fail
    go_region_held3 (fun w' => w'.cell? ⟨w.heap.size, 1, none⟩ = some (.int .i64 j) ∧ w'.cell? ⟨w.heap.size, 2, none⟩ = some (.int .u64 v))
      (first | go_keep | exact d2)
      (first
        | (go_at_call 48; refine (set_yes _ hS.st T0.has j _ (hS.place j q Hq.out) v).mono ?_; rintro e w1 ⟨rfl, ls1, S1, T1⟩; have V1 := (T0.trans T1).perm (l2 := lr ++ (ls1 ++ (stepBox w 4 j v :: R))) (perm_of fun c => by simp; omega); have d2 := Hbx.out _ _ V1.has (by simp))
        | (go_at_call 73; refine (rSet_yes _ hS.rf V1.has j q Hq.out v).mono ?_; rintro e w2 ⟨rfl, i2, lr2, hj, S2, T2⟩; have V2 := V1.trans T2; have d2 := Hbx.out _ _ V2.has (by simp)))
    go_wp2
    go_ret
    refine ⟨rfl, J, i2, ls1, lr2, ⟨?_, S2⟩, (V2.perm (l2 := [stepBox w 4 j v] ++ (ls1 ++ (lr2 ++ R))) (perm_of fun c => by simp; omega)).drop, .top rfl⟩
    rw [flat_snoc, List.set_append_right _ _ (by omega), Nat.add_sub_cancel_left] at S1
    rw [flat_snoc, hj]
    exact S1

/-- Any step. -/
theorem does_any (w : World) (hS : Sync bs br J i max ls lr) (hH : Has w (ls ++ (lr ++ R))) (d k v : Int) :
    Calls Try.prog 38 #[.pointer (some ⟨bs, 0, none⟩), .pointer (some ⟨br, 0, none⟩), .agg #[.int .i64 d, .int .i64 k, .int .u64 v]] w (DoesPost bs br J i max ls lr R w d) := by
  by_cases h : d < 0 ∨ 5 < d
  · exact does_other w hS hH d k v h
  · rcases (show d = 0 ∨ d = 1 ∨ d = 2 ∨ d = 3 ∨ d = 4 ∨ d = 5 from by omega) with rfl | rfl | rfl | rfl | rfl | rfl
    · exact does_push w hS hH k v
    · exact does_pop w hS hH k v
    · exact does_enter w hS hH k v
    · exact does_leave w hS hH k v
    · exact does_set w hS hH k v
    · exact does_get w hS hH k v
end
end Go.Proofs.Ytinpkimflcmkgaa
