/-
  skerrylaw14.Does: a step done by the stack and by the reference's: the same answer, and they stay the same.
  Conditions: none beyond what each contract states.
-/
import Derived.Test.YtinpkimflcmkgaaRf4
namespace Go.Proofs.Ytinpkimflcmkgaa
open Go Go.RowKit

/-- The stack in block bs is the reference's in br: its frames. -/
structure Sync (bs br : Nat) (J : List Inn) (i : Inn) (max : Nat) (ls lr : List Blk) : Prop where
  st : StackIs bs (flat (J ++ [i])) (offs J) max ls
  rf : RefIs br (J ++ [i]) max lr

/-- What becomes of the frames: the top one is another; one more; one fewer, at a Leave alone. -/
inductive Step1 (d : Int) (J : List Inn) (i : Inn) (J' : List Inn) (i' : Inn) : Prop where
  | top (h : J' = J)
  | more (h : J' = J ++ [i]) (hi : i' = nilInn)
  | less (hd : d = 3) (h : J = J' ++ [i'])

def DoesPost (bs br : Nat) (J : List Inn) (i : Inn) (max : Nat) (ls lr R : List Blk) (w : World) (d : Int) (e : Ending) (w' : World) : Prop :=
  e = .returned (.bool true) ∧ ∃ J' i' ls' lr', Sync bs br J' i' max ls' lr' ∧ Turn (ls ++ (lr ++ R)) w (ls' ++ (lr' ++ R)) w' ∧ Step1 d J i J' i'

/-- The box of the step that was handed in. -/
abbrev stepBox (w : World) (d i v : Int) : Blk := (w.heap.size, .cells #[.int .i64 d, .int .i64 i, .int .u64 v] 77)

section
variable {bs br : Nat} {J : List Inn} {i : Inn} {max : Nat} {ls lr R : List Blk}

structure BoxCells (w : World) (b : Nat) (d k v : Int) : Prop where
  c0 : w.cell? ⟨b, 0, none⟩ = some (.int .i64 d)
  c1 : w.cell? ⟨b, 1, none⟩ = some (.int .i64 k)
  c2 : w.cell? ⟨b, 2, none⟩ = some (.int .u64 v)
theorem box_cells {w : World} {b : Nat} {d k v : Int} {l : List Blk} {T : Nat} (h : Has w l) (hm : (b, Obj.cells #[.int .i64 d, .int .i64 k, .int .u64 v] T (0, 0)) ∈ l) : BoxCells w b d k v :=
  ⟨h.cell hm 0, h.cell hm 1, h.cell hm 2⟩

theorem Sync.base (_h : Sync bs br J i max ls lr) : (flat (J ++ [i])).length = baseOf (offs J) + i.xs.length := by rw [offs_base, flat_snoc_length]

set_option maxRecDepth 100000 in
theorem does_pop (w : World) (hS : Sync bs br J i max ls lr) (hH : Has w (ls ++ (lr ++ R))) (k v : Int) :
    Calls Try.prog 38 #[.pointer (some ⟨bs, 0, none⟩), .pointer (some ⟨br, 0, none⟩), .agg #[.int .i64 1, .int .i64 k, .int .u64 v]] w (DoesPost bs br J i max ls lr R w 1) := by
  have T0 := ((Turn.refl hH).alloc (.cells #[.int .i64 1, .int .i64 k, .int .u64 v] 77)).perm (l2 := ls ++ (lr ++ (stepBox w 1 k v :: R))) (perm_of fun c => by simp [stepBox]; omega)
  rcases List.eq_nil_or_concat i.xs with hx | ⟨ys, x, hx⟩
  · have Hx := Lib.hid hx
    clear hx
    go_enter Try.func38, Try.ntmps38
    go_wp2_with fail
    refine (quiet_turn (pop_bare _ hS.st T0.has (by rw [hS.base, Hx.out]; simp)) T0.has).mono ?_
    rintro e w1 ⟨rfl, T1⟩
    have V1 := (T0.trans T1).perm (l2 := lr ++ (ls ++ (stepBox w 1 k v :: R))) (perm_of fun c => by simp; omega)
    go_wp2_with fail
    refine (rPop_bare _ hS.rf V1.has Hx.out).mono ?_
    rintro e w2 ⟨rfl, T2⟩
    go_wp2
    go_ret
    exact ⟨rfl, J, i, ls, lr, hS, ((V1.trans T2).perm (l2 := [stepBox w 1 k v] ++ (ls ++ (lr ++ R))) (perm_of fun c => by simp; omega)).drop, .top rfl⟩
  · rw [List.concat_eq_append] at hx
    have Hx := Lib.hid hx
    clear hx
    have hfl : flat (J ++ [i]) = (flat J ++ ys) ++ [x] := by rw [flat_snoc, Hx.out, List.append_assoc]
    have Hfl := Lib.hid hfl
    clear hfl
    go_enter Try.func38, Try.ntmps38
    go_wp2_with fail
    refine (pop_yes _ hS.st T0.has x (flat J ++ ys) Hfl.out (by rw [offs_base]; simp)).mono ?_
    rintro e w1 ⟨rfl, ls1, S1, T1⟩
    have V1 := (T0.trans T1).perm (l2 := lr ++ (ls1 ++ (stepBox w 1 k v :: R))) (perm_of fun c => by simp; omega)
    go_wp2_with fail
    refine (rPop_yes _ hS.rf V1.has ys x Hx.out).mono ?_
    rintro e w2 ⟨rfl, j, lr2, hj, S2, T2⟩
    go_wp2
    go_ret
    refine ⟨rfl, J, j, ls1, lr2, ⟨?_, S2⟩, ((V1.trans T2).perm (l2 := [stepBox w 1 k v] ++ (ls1 ++ (lr2 ++ R))) (perm_of fun c => by simp; omega)).drop, .top rfl⟩
    rw [flat_snoc, hj]
    exact S1
theorem Sync.ok (h : Sync bs br J i max ls lr) : RefOk (J ++ [i]) max := h.rf.1

set_option maxRecDepth 100000 in
theorem does_enter (w : World) (hS : Sync bs br J i max ls lr) (hH : Has w (ls ++ (lr ++ R))) (k v : Int) :
    Calls Try.prog 38 #[.pointer (some ⟨bs, 0, none⟩), .pointer (some ⟨br, 0, none⟩), .agg #[.int .i64 2, .int .i64 k, .int .u64 v]] w (DoesPost bs br J i max ls lr R w 2) := by
  have T0 := ((Turn.refl hH).alloc (.cells #[.int .i64 2, .int .i64 k, .int .u64 v] 77)).perm (l2 := ls ++ (lr ++ (stepBox w 2 k v :: R))) (perm_of fun c => by simp [stepBox]; omega)
  have hd := hS.ok.deep
  rw [List.length_append, List.length_singleton] at hd
  by_cases hf : J.length = 256
  · have Hf := Lib.hid hf
    clear hf
    go_enter Try.func38, Try.ntmps38
    go_wp2_with fail
    refine (enter_full _ hS.st T0.has (by rw [offs_length, Hf.out])).mono ?_
    rintro e w1 ⟨rfl, rfl⟩
    have V1 := T0.perm (l2 := lr ++ (ls ++ (stepBox w 2 k v :: R))) (perm_of fun c => by simp; omega)
    go_wp2_with fail
    refine (rEnter_full _ hS.rf V1.has (by simp [Hf.out])).mono ?_
    rintro e w2 ⟨rfl, rfl⟩
    go_wp2
    go_ret
    exact ⟨rfl, J, i, ls, lr, hS, (V1.perm (l2 := [stepBox w 2 k v] ++ (ls ++ (lr ++ R))) (perm_of fun c => by simp; omega)).drop, .top rfl⟩
  · have hlt : J.length < 256 := by omega
    clear hf
    go_enter Try.func38, Try.ntmps38
    go_wp2_with fail
    refine (enter_yes _ hS.st T0.has (by rw [offs_length]; exact hlt)).mono ?_
    rintro e w1 ⟨rfl, ls1, S1, T1⟩
    have V1 := (T0.trans T1).perm (l2 := lr ++ (ls1 ++ (stepBox w 2 k v :: R))) (perm_of fun c => by simp; omega)
    go_wp2_with fail
    refine (rEnter_yes _ hS.rf V1.has (by simp; omega)).mono ?_
    rintro e w2 ⟨rfl, lr2, S2, T2⟩
    go_wp2
    go_ret
    refine ⟨rfl, J ++ [i], nilInn, ls1, lr2, ⟨?_, S2⟩, ((V1.trans T2).perm (l2 := [stepBox w 2 k v] ++ (ls1 ++ (lr2 ++ R))) (perm_of fun c => by simp; omega)).drop, .more rfl rfl⟩
    rw [offs_snoc, flat_snoc, show nilInn.xs = [] from rfl, List.append_nil]
    exact S1

set_option maxRecDepth 100000 in
theorem does_leave (w : World) (hS : Sync bs br J i max ls lr) (hH : Has w (ls ++ (lr ++ R))) (k v : Int) :
    Calls Try.prog 38 #[.pointer (some ⟨bs, 0, none⟩), .pointer (some ⟨br, 0, none⟩), .agg #[.int .i64 3, .int .i64 k, .int .u64 v]] w (DoesPost bs br J i max ls lr R w 3) := by
  have T0 := ((Turn.refl hH).alloc (.cells #[.int .i64 3, .int .i64 k, .int .u64 v] 77)).perm (l2 := ls ++ (lr ++ (stepBox w 3 k v :: R))) (perm_of fun c => by simp [stepBox]; omega)
  rcases List.eq_nil_or_concat J with hJ | ⟨K, j, hJ⟩
  · subst hJ
    go_enter Try.func38, Try.ntmps38
    go_wp2_with fail
    refine (leave_none _ hS.st T0.has).mono ?_
    rintro e w1 ⟨rfl, rfl⟩
    have V1 := T0.perm (l2 := lr ++ (ls ++ (stepBox w 3 k v :: R))) (perm_of fun c => by simp; omega)
    go_wp2_with fail
    refine (rLeave_none _ hS.rf V1.has).mono ?_
    rintro e w2 ⟨rfl, rfl⟩
    go_wp2
    go_ret
    exact ⟨rfl, [], i, ls, lr, hS, (V1.perm (l2 := [stepBox w 3 k v] ++ (ls ++ (lr ++ R))) (perm_of fun c => by simp; omega)).drop, .top rfl⟩
  · rw [List.concat_eq_append] at hJ
    have hst := hS.st
    rw [hJ, offs_snoc] at hst
    have hlen : (flat ((K ++ [j]) ++ [i])).length - (flat (K ++ [j])).length = i.xs.length := by rw [flat_snoc_length (K ++ [j]) i]; omega
    have hpos : 0 < J.length := by rw [hJ]; simp
    have HJ := Lib.hid hJ
    have Hlen := Lib.hid hlen
    clear hJ hlen
    go_enter Try.func38, Try.ntmps38
    go_wp2_with fail
    refine (leave_yes _ hst T0.has).mono ?_
    rw [Hlen.out]
    rintro e w1 ⟨rfl, ls1, S1, T1⟩
    have V1 := (T0.trans T1).perm (l2 := lr ++ (ls1 ++ (stepBox w 3 k v :: R))) (perm_of fun c => by simp; omega)
    go_wp2_with fail
    refine (rLeave_yes _ hS.rf V1.has hpos).mono ?_
    rintro e w2 ⟨rfl, lr2, S2, T2⟩
    go_wp2
    go_ret
    rw [HJ.out] at S2
    refine ⟨rfl, K, j, ls1, lr2, ⟨?_, S2⟩, ((V1.trans T2).perm (l2 := [stepBox w 3 k v] ++ (ls1 ++ (lr2 ++ R))) (perm_of fun c => by simp; omega)).drop, .less rfl HJ.out⟩
    rw [flat_snoc (K ++ [j]) i, List.take_left] at S1
    exact S1

set_option maxRecDepth 100000 in
theorem does_other (w : World) (hS : Sync bs br J i max ls lr) (hH : Has w (ls ++ (lr ++ R))) (d k v : Int) (h0 : d < 0 ∨ 5 < d) :
    Calls Try.prog 38 #[.pointer (some ⟨bs, 0, none⟩), .pointer (some ⟨br, 0, none⟩), .agg #[.int .i64 d, .int .i64 k, .int .u64 v]] w (DoesPost bs br J i max ls lr R w d) := by
  have T0 := ((Turn.refl hH).alloc (.cells #[.int .i64 d, .int .i64 k, .int .u64 v] 77)).perm (l2 := ls ++ (lr ++ (stepBox w d k v :: R))) (perm_of fun c => by simp [stepBox]; omega)
  have b0 : (d == 0) = false := by rw [beq_eq_false_iff_ne]; omega
  have b1 : (d == 1) = false := by rw [beq_eq_false_iff_ne]; omega
  have b2 : (d == 2) = false := by rw [beq_eq_false_iff_ne]; omega
  have b3 : (d == 3) = false := by rw [beq_eq_false_iff_ne]; omega
  have b4 : (d == 4) = false := by rw [beq_eq_false_iff_ne]; omega
  have b5 : (d == 5) = false := by rw [beq_eq_false_iff_ne]; omega
  clear h0
  go_enter Try.func38, Try.ntmps38
  go_wp2
  go_ret
  exact ⟨rfl, J, i, ls, lr, hS, (T0.perm (l2 := [stepBox w d k v] ++ (ls ++ (lr ++ R))) (perm_of fun c => by simp; omega)).drop, .top rfl⟩

/-- Where the i-th word from the top lies, in both. -/
theorem Sync.mayAt (h : Sync bs br J i max ls lr) (k : Int) (hk : k < 0 ∨ (i.xs.length : Int) ≤ k) : ¬ MayAt (flat (J ++ [i])) (offs J) k := by
  rintro ⟨h1, h2⟩
  rw [h.base] at h2
  omega
theorem flat_at (J : List Inn) (i : Inn) (q : Nat) (x : Int) (hx : i.xs[q]? = some x) : (flat (J ++ [i]))[(flat J).length + q]? = some x := by
  rw [flat_snoc, List.getElem?_append_right (by omega), Nat.add_sub_cancel_left]
  exact hx
theorem Sync.place (_h : Sync bs br J i max ls lr) (j q : Nat) (hq : q + 1 + j = i.xs.length) : AtPlace (flat (J ++ [i])) (offs J) j ((flat J).length + q) :=
  ⟨by rw [flat_snoc_length]; omega, by rw [offs_base]; omega⟩

set_option maxRecDepth 100000 in
theorem does_get (w : World) (hS : Sync bs br J i max ls lr) (hH : Has w (ls ++ (lr ++ R))) (k v : Int) :
    Calls Try.prog 38 #[.pointer (some ⟨bs, 0, none⟩), .pointer (some ⟨br, 0, none⟩), .agg #[.int .i64 5, .int .i64 k, .int .u64 v]] w (DoesPost bs br J i max ls lr R w 5) := by
  have T0 := ((Turn.refl hH).alloc (.cells #[.int .i64 5, .int .i64 k, .int .u64 v] 77)).perm (l2 := ls ++ (lr ++ (stepBox w 5 k v :: R))) (perm_of fun c => by simp [stepBox]; omega)
  have hbx : ∀ {l : List Blk} {W : World}, Has W l → stepBox w 5 k v ∈ l → BoxCells W w.heap.size 5 k v := fun hW hm => box_cells hW hm
  by_cases hk : k < 0 ∨ (i.xs.length : Int) ≤ k
  · have hno := hS.mayAt k hk
    have Hno := Lib.hid hno
    have Hk := Lib.hid hk
    clear hno hk
    go_enter Try.func38, Try.ntmps38
    go_wp2_with fail
    refine (quiet_turn (get_no _ hS.st T0.has k Hno.out) T0.has).mono ?_
    rintro e w1 ⟨rfl, T1⟩
    have V1 := (T0.trans T1).perm (l2 := lr ++ (ls ++ (stepBox w 5 k v :: R))) (perm_of fun c => by simp; omega)
    obtain ⟨c0, c1, c2⟩ := hbx V1.has (by simp)
    go_wp2_with fail
    refine (rGet_no _ hS.rf V1.has k Hk.out).mono ?_
    rintro e w2 ⟨rfl, T2⟩
    go_wp2
    go_ret
    exact ⟨rfl, J, i, ls, lr, hS, ((V1.trans T2).perm (l2 := [stepBox w 5 k v] ++ (ls ++ (lr ++ R))) (perm_of fun c => by simp; omega)).drop, .top rfl⟩
  · obtain ⟨j, q, rfl, hq⟩ : ∃ j q : Nat, k = j ∧ q + 1 + j = i.xs.length := ⟨k.toNat, i.xs.length - 1 - k.toNat, by omega, by omega⟩
    obtain ⟨x, hx⟩ : ∃ x, i.xs[q]? = some x := ⟨i.xs[q]'(by omega), List.getElem?_eq_getElem _⟩
    have Hq := Lib.hid hq
    have Hx := Lib.hid hx
    clear hk hq hx
    go_enter Try.func38, Try.ntmps38
    go_wp2_with fail
    refine (quiet_turn (get_yes _ hS.st T0.has j _ (hS.place j q Hq.out) x (flat_at J i q x Hx.out)) T0.has).mono ?_
    rintro e w1 ⟨rfl, T1⟩
    have V1 := (T0.trans T1).perm (l2 := lr ++ (ls ++ (stepBox w 5 j v :: R))) (perm_of fun c => by simp; omega)
    obtain ⟨c0, c1, c2⟩ := hbx V1.has (by simp)
    go_wp2_with fail
    refine (rGet_yes _ hS.rf V1.has j q Hq.out x Hx.out).mono ?_
    rintro e w2 ⟨rfl, T2⟩
    go_wp2
    go_ret
    exact ⟨rfl, J, i, ls, lr, hS, ((V1.trans T2).perm (l2 := [stepBox w 5 j v] ++ (ls ++ (lr ++ R))) (perm_of fun c => by simp; omega)).drop, .top rfl⟩
end
end Go.Proofs.Ytinpkimflcmkgaa
