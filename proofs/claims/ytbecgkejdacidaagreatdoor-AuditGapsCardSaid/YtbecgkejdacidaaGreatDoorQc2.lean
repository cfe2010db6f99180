/-
  A part of a proof: texts packed by a program of mine (Bi2, Rfd, Sd1, Sd2, Sd3, Sd4, Sd5, Se1, Se2, Se3, Se4, Sv1, Sw1, Sw2, Sw3, Sy1, Bi3, Bi4, Bi5, Bi6, Bi7, Sy2, Sy3, Sy4).
  Conditions: those that each theorem states.
-/
import Derived.BigRegionIn
import Derived.Deep.QuietTactic
import Derived.BigQuiet
import Derived.StillTailTactics
import Derived.Test.YtbecgkejdacidaaGreatDoorQc1
set_option maxRecDepth 100000
set_option maxHeartbeats 12800000
namespace Go.Proofs.YtbecgkejdacidaaGreatDoor
section
open Go Go.RowKit Go.Shelf Go.IntWalk
attribute [local go_sem] Oper.semAt_some
def sumK (xs : List (Nat × Nat)) : Nat := (xs.map (·.2)).sum
theorem sumK_snoc (xs : List (Nat × Nat)) (x : Nat × Nat) : sumK (xs ++ [x]) = sumK xs + x.2 := by simp [sumK]
def pcNx (i n : Nat) (pre : List (Nat × Nat)) (x : Nat × Nat) : Prop := sumK pre < n ∧ x = (i + sumK pre, pk (i + sumK pre) (n - sumK pre))
def pcArgs (x : Nat × Nat) : Array Value := #[.agg #[.int .i64 (x.1 / 64 : Nat), .int .i64 (x.1 % 64 : Nat), .int .u64 (pmask x.2 (x.1 % 64) : Nat)]]
structure KpBox (Bn Bi : Nat) (A B : World) : Prop where
 n : B.heap[Bn]? = A.heap[Bn]?
 i : B.heap[Bi]? = A.heap[Bi]?
def UpBox (Bn Bi : Nat) (A B : World) : Prop := ∃ v, B = A.setCell ⟨Bn, 0, none⟩ v ∨ B = A.setCell ⟨Bi, 0, none⟩ v
def pcBoxes (Bn Bi : Nat) (n i : Nat) : List Blk := [(Bn, .cells #[.int .i64 n] 3), (Bi, .cells #[.int .i64 i] 3)]
theorem Has.below {w w' : World} {l : List Blk} (h : Has w l) (hB : Below w.heap.size w w') : Has w' l := (Turn.of_below h hB).has
theorem below_grownBy {w w' : World} (hB : Below w.heap.size w w') : w.grownBy w' none := ⟨hB.os, hB.tape, hB.output, hB.size, fun b hb _ => hB.block b hb⟩
theorem Has.kp {Bn Bi n i : Nat} {A B : World} (h : Has A (pcBoxes Bn Bi n i)) (k : KpBox Bn Bi A B) : Has B (pcBoxes Bn Bi n i) := by
 refine ⟨h.nd, fun b o hm => ?_⟩
 have h1 := h.own b o hm
 simp only [pcBoxes, List.mem_cons, List.not_mem_nil, or_false] at hm
 rcases hm with hm | hm
 · cases hm; exact k.n.trans h1
 · cases hm; exact k.i.trans h1
theorem pmask_mul {k b : Nat} (h : k + b ≤ 64) : IntKind.u64.wrap (((2 ^ k - 1 : Nat) : Int) * 2 ^ b) = ((pmask k b : Nat) : Int) := by
 have h1 := pmask_lt h
 unfold pmask at *
 rw [IntKind.wrap_u64]
 have : ((2 ^ k - 1 : Nat) : Int) * 2 ^ b = (((2 ^ k - 1) * 2 ^ b : Nat) : Int) := by push_cast; rfl
 rw [this]
 omega
theorem mask_run {k r : Nat} (hk : k < 64) (h : k + r ≤ 64) : IntKind.u64.wrap (IntKind.u64.wrap (IntKind.u64.wrap (2 ^ k) - 1) * 2 ^ r) = ((pmask k r : Nat) : Int) := by
 have h1 : (2 : Nat) ^ k ≤ 2 ^ 63 := Nat.pow_le_pow_right (by omega) (by omega)
 have h2 : (2 : Nat) ^ 63 = 9223372036854775808 := by decide
 have h3 : 0 < (2 : Nat) ^ k := Nat.two_pow_pos k
 have e1 : IntKind.u64.wrap (2 ^ k) = ((2 ^ k : Nat) : Int) := by
  rw [IntKind.wrap_u64, show (2 : Int) ^ k = ((2 ^ k : Nat) : Int) by push_cast; rfl]
  omega
 have e2 : IntKind.u64.wrap (((2 ^ k : Nat) : Int) - 1) = ((2 ^ k - 1 : Nat) : Int) := by
  rw [IntKind.wrap_u64]
  omega
 rw [e1, e2, pmask_mul h]
theorem pieces_up (n : Nat) (hn : 2 ≤ n) (Bn Bi i0 n0 : Nat) (hsm : i0 + n0 ≤ 65536) (w : World) (hH : Has w (pcBoxes Bn Bi n0 i0)) :
  SeqUp Fence.wide n Tryz.prog 244 #[.pointer (some ⟨Bn, 0, none⟩), .pointer (some ⟨Bi, 0, none⟩)] pcArgs (KpBox Bn Bi) (pcNx i0 n0) (fun xs => sumK xs = n0) (UpBox Bn Bi) w := fun l J Jx W hW hJ hJx hUp hY h0 => by
 have hH0 : Has W (pcBoxes Bn Bi n0 i0) := hH.below hW
 have hf : Fence.wide.fn 244 := trivial
 have hfl : Fence.wide.fn 154 := trivial
 refine callsIn_of_wp Tryz.func244 rfl hf ?_ rfl
 simp only [Tryz.ntmps244, List.size_toArray, List.length_cons, List.length_nil, Nat.reduceAdd, Nat.reduceSub, Array.replicate_succ, Array.replicate_zero, List.push_toArray, List.append_toArray, List.nil_append, List.cons_append]
 have h1 : 1 ≤ n := by omega
 have h2 : 1 ≤ n - 1 := by omega
 have HY := uh hY
 have HJ := uh hJ
 have HUp := uh hUp
 have HH0 := uh hH0
 have hsz := sz_piece
 clear hY hJ hUp hJx hW hH hH0
 gi_wp2_with fail
 gi_loopw [5] (fun _ wr => ∃ pre : List (Nat × Nat), sumK pre ≤ n0 ∧ J pre wr ∧ Has wr (pcBoxes Bn Bi (n0 - sumK pre) (i0 + sumK pre)))
  (fun _ wr => match wr.cell? ⟨Bn, 0, none⟩ with | some (.int _ k) => k.toNat | _ => 0)
 case atStart => exact ⟨[], Nat.zero_le _, h0, HH0.out⟩
 case round =>
  clear HH0 h0
  obtain ⟨pre, hle, hJw, hHw⟩ := hrel
  have cn : wr.cell? ⟨Bn, 0, none⟩ = some (.int .i64 (n0 - sumK pre : Nat)) := hHw.cell (b := Bn) (c := #[.int .i64 (n0 - sumK pre : Nat)]) (e := 3) (f := (0, 0)) (by simp [pcBoxes]) 0
  have ci : wr.cell? ⟨Bi, 0, none⟩ = some (.int .i64 (i0 + sumK pre : Nat)) := hHw.cell (b := Bi) (c := #[.int .i64 (i0 + sumK pre : Nat)]) (e := 3) (f := (0, 0)) (by simp [pcBoxes]) 0
  by_cases hlt : sumK pre < n0
  · obtain ⟨s, hs⟩ : ∃ s, sumK pre = s := ⟨_, rfl⟩
    rw [hs] at hlt hle hHw cn ci
    have hNx : pcNx i0 n0 pre (i0 + s, pk (i0 + s) (n0 - s)) := ⟨by rw [hs]; exact hlt, by rw [hs]⟩
    have HY2 := uh (fun W1 => HY.out pre _ W1 hNx)
    have Hsn := uh (sumK_snoc pre (i0 + s, pk (i0 + s) (n0 - s)))
    rw [hs] at Hsn
    clear hNx HY
    have hpk := pk_le (i0 + s) (n0 - s)
    have hpn := pk_n (i0 + s) (n0 - s)
    have hpp := pk_pos (i := i0 + s) (n := n0 - s) (by omega)
    have Hmin := uh (show min (n0 - s) (64 - (i0 + s) % 64) = pk (i0 + s) (n0 - s) from rfl)
    unfold pcArgs at HY2
    simp only at HY2 Hsn
    have Hat := uh (fun w' => bat w' (i0 + s) (by omega))
    obtain ⟨i1, hi1⟩ : ∃ i1, i0 + s = i1 := ⟨_, rfl⟩
    obtain ⟨m1, hm1⟩ : ∃ m1, n0 - s = m1 := ⟨_, rfl⟩
    rw [hi1] at hHw ci HY2 Hsn hpk hpp Hmin Hat hpn
    rw [hm1] at hHw cn HY2 Hsn hpk hpn hpp Hmin
    have hq : i1 / 64 ≤ 65536 := by omega
    have hb1 : i1 + pk i1 m1 ≤ 65536 := by omega
    have hb2 : m1 ≤ 65536 := by omega
    have hr : i1 % 64 < 64 := by omega
    generalize pk i1 m1 = k at *
    have hpos : (0 : Int) < (m1 : Int) := by omega
    have HHw := uh hHw
    have HJw := uh hJw
    have HT0 := uh (Turn.refl (Has.nil wr))
    generalize i1 / 64 = q at *
    generalize i1 % 64 = r at *
    clear hHw hJw
    have cn9 := cn
    rcases (show m1 = k ∨ (64 - (r : Int) = (k : Int) ∧ ¬ m1 ≤ k) by have := Hmin.out; omega) with hA | ⟨hA, hA2⟩
    · subst hA
      have hmn : decide ((m1 : Int) ≤ 64 - (r : Int)) = true := decide_eq_true (by omega)
      have hmn2 : (m1 : Int) ≤ 64 - (r : Int) := by omega
      clear Hmin
      by_cases hk : m1 < 64
      · have hM : IntKind.u64.wrap (IntKind.u64.wrap (IntKind.u64.wrap (2 ^ m1) - 1) * 2 ^ r) = ((pmask m1 r : Nat) : Int) := mask_run hk (by omega)
        have hk1 : decide ((m1 : Int) < 64) = true := decide_eq_true (by omega)
        have hk2 : decide (m1 < 64) = true := decide_eq_true hk
        gi_wp2_with (first
         | (gi_at_call 154; go_loud (refine (callsIn_wide.2 (Hat.out _)).mono ?_; rintro e w1 ⟨rfl, hB1⟩; have T1 := (HT0.out.call hB1).alloc (.cells #[.int .i64 q, .int .i64 r, .int .u64 (pmask m1 r : Nat)] 343); have HB := uh T1.below; have cn1 := (HHw.out.below (w' := w1.alloc (.cells #[.int .i64 q, .int .i64 r, .int .u64 18446744073709551615] 343)) ((HT0.out.call hB1).alloc _).below).cell (b := Bn) (c := #[.int .i64 m1]) (e := 3) (f := (0, 0)) (by simp [pcBoxes]) 0; obtain ⟨fn, tmps, assign, body, hy, hR⟩ := HY2.out _ (HJ.out pre wr _ none HJw.out (below_grownBy HB.out) (fun r e => by cases e)); have HR := uh hR; clear hR))
         | fail)
        refine HR.out.mono ?_
        rintro e W3 (⟨rfl, hJ3, hk3⟩ | ⟨rfl, hJx3⟩)
        · have HH3 := ((HHw.out.below HB.out).kp hk3)
          have HJ3 := uh hJ3
          have T3 := (Turn.refl HH3)
          have b1 : W3.cell? ⟨Bn, 0, none⟩ = some (.int .i64 m1) := T3.has.cell (b := Bn) (c := #[.int .i64 m1]) (e := 3) (f := (0, 0)) (by simp [pcBoxes]) 0
          have b2 : W3.cell? ⟨Bi, 0, none⟩ = some (.int .i64 i1) := T3.has.cell (b := Bi) (c := #[.int .i64 i1]) (e := 3) (f := (0, 0)) (by simp [pcBoxes]) 0
          have f2 : W3.frozen? ⟨Bi, 0, none⟩ = false := T3.has.free (b := Bi) (c := #[.int .i64 i1]) (e := 3) (by simp [pcBoxes]) 0
          have T3' : Turn (pcBoxes Bn Bi m1 i1) W3 ((Bi, .cells #[.int .i64 i1] 3) :: [(Bn, .cells #[.int .i64 m1] 3)]) W3 := T3.swap
          have T4 := T3'.setCell 0 (.int .i64 ((i1 : Int) + (m1 : Int)))
          have b3 : (W3.setCell ⟨Bi, 0, none⟩ (.int .i64 ((i1 : Int) + (m1 : Int)))).cell? ⟨Bn, 0, none⟩ = some (.int .i64 m1) := T4.cell2 0
          have f3 : (W3.setCell ⟨Bi, 0, none⟩ (.int .i64 ((i1 : Int) + (m1 : Int)))).frozen? ⟨Bn, 0, none⟩ = false := T4.free2 0
          have T5 := T4.swap.setCell 0 (.int .i64 0)
          have HT5 := uh T5.drew
          have HJ5 := uh (HJ.out _ _ ((W3.setCell ⟨Bi, 0, none⟩ (.int .i64 ((i1 : Int) + (m1 : Int)))).setCell ⟨Bn, 0, none⟩ (.int .i64 0)).drew none (HUp.out _ _ _ (HUp.out _ _ _ hJ3 ⟨.int .i64 ((i1 : Int) + (m1 : Int)), .inr rfl⟩) ⟨.int .i64 0, .inl rfl⟩) ⟨rfl, rfl, rfl, Nat.le_refl _, fun _ _ _ => rfl⟩ (fun r e => by cases e))
          have f1 : W3.frozen? ⟨Bn, 0, none⟩ = false := T3.has.free (b := Bn) (c := #[.int .i64 m1]) (e := 3) (by simp [pcBoxes]) 0
          have T6 := (Turn.setCell (T3 : Turn (pcBoxes Bn Bi m1 i1) W3 ((Bn, .cells #[.int .i64 m1] 3) :: [(Bi, .cells #[.int .i64 i1] 3)]) W3) 0 (.int .i64 0)).swap
          have f4 : (W3.setCell ⟨Bn, 0, none⟩ (.int .i64 0)).frozen? ⟨Bi, 0, none⟩ = false := T6.free1 0
          have HT6 := uh ((T6.setCell 0 (.int .i64 ((i1 : Int) + (m1 : Int)))).swap.drew)
          have HJ6 := uh (HJ.out _ _ ((W3.setCell ⟨Bn, 0, none⟩ (.int .i64 0)).setCell ⟨Bi, 0, none⟩ (.int .i64 ((i1 : Int) + (m1 : Int)))).drew none (HUp.out _ _ _ (HUp.out _ _ _ hJ3 ⟨.int .i64 0, .inl rfl⟩) ⟨.int .i64 ((i1 : Int) + (m1 : Int)), .inr rfl⟩) ⟨rfl, rfl, rfl, Nat.le_refl _, fun _ _ _ => rfl⟩ (fun r e => by cases e))
          have E1 : ((i0 + (s + m1) : Nat) : Int) = (i1 : Int) + (m1 : Int) := by omega
          have E2 : ((n0 - (s + m1) : Nat) : Int) = 0 := by omega
          have HE1 := uh E1
          have HE2 := uh E2
          clear E1 E2 T6
          clear HH3 HR hk3 hJ3 HJ3 T3 T3' T4 T5 cn ci cn1 hy HY2 Hat hM
          gi_wp2_with fail
          gi_region
          all_goals (
           gi_wp2_with fail
           go_roundw
           case rel =>
            first
             | (refine ⟨pre ++ [(i1, m1)], by rw [Hsn.out]; omega, HJ5.out, ?_⟩; rw [Hsn.out]; unfold pcBoxes; rw [HE1.out, HE2.out]; exact HT5.out.has)
             | (refine ⟨pre ++ [(i1, m1)], by rw [Hsn.out]; omega, HJ6.out, ?_⟩; rw [Hsn.out]; unfold pcBoxes; rw [HE1.out, HE2.out]; exact HT6.out.has)
           case measure =>
            simp only [cn9]
            first
             | (rw [show (((W3.setCell ⟨Bi, 0, none⟩ (.int .i64 ((i1 : Int) + (m1 : Int)))).setCell ⟨Bn, 0, none⟩ (.int .i64 0)).drew).cell? ⟨Bn, 0, none⟩ = some (.int .i64 0) from HT5.out.cell1 0]; simp only; omega)
             | (rw [show (((W3.setCell ⟨Bn, 0, none⟩ (.int .i64 0)).setCell ⟨Bi, 0, none⟩ (.int .i64 ((i1 : Int) + (m1 : Int)))).drew).cell? ⟨Bn, 0, none⟩ = some (.int .i64 0) from HT6.out.cell1 0]; simp only; omega))
        · clear HR cn ci cn1 hy HY2 Hat hM
          gi_wp2_with fail
          refine bodyPost_ret (results_none rfl _ _ _) rfl ?_
          exact ⟨⟨_, rfl⟩, .inr ⟨_, hJx3⟩⟩
      · have hM : IntKind.u64.wrap (18446744073709551615 * 2 ^ r) = ((pmask m1 r : Nat) : Int) := by
          have h0 : m1 = 64 := by omega
          have h9 : r = 0 := by omega
          rw [h0, h9]
          rfl
        have hk1 : decide ((m1 : Int) < 64) = false := decide_eq_false (by omega)
        have hk2 : decide (m1 < 64) = false := decide_eq_false hk
        gi_wp2_with (first
         | (gi_at_call 154; go_loud (refine (callsIn_wide.2 (Hat.out _)).mono ?_; rintro e w1 ⟨rfl, hB1⟩; have T1 := (HT0.out.call hB1).alloc (.cells #[.int .i64 q, .int .i64 r, .int .u64 (pmask m1 r : Nat)] 343); have HB := uh T1.below; have cn1 := (HHw.out.below (w' := w1.alloc (.cells #[.int .i64 q, .int .i64 r, .int .u64 18446744073709551615] 343)) ((HT0.out.call hB1).alloc _).below).cell (b := Bn) (c := #[.int .i64 m1]) (e := 3) (f := (0, 0)) (by simp [pcBoxes]) 0; obtain ⟨fn, tmps, assign, body, hy, hR⟩ := HY2.out _ (HJ.out pre wr _ none HJw.out (below_grownBy HB.out) (fun r e => by cases e)); have HR := uh hR; clear hR))
         | fail)
        refine HR.out.mono ?_
        rintro e W3 (⟨rfl, hJ3, hk3⟩ | ⟨rfl, hJx3⟩)
        · have HH3 := ((HHw.out.below HB.out).kp hk3)
          have HJ3 := uh hJ3
          have T3 := (Turn.refl HH3)
          have b1 : W3.cell? ⟨Bn, 0, none⟩ = some (.int .i64 m1) := T3.has.cell (b := Bn) (c := #[.int .i64 m1]) (e := 3) (f := (0, 0)) (by simp [pcBoxes]) 0
          have b2 : W3.cell? ⟨Bi, 0, none⟩ = some (.int .i64 i1) := T3.has.cell (b := Bi) (c := #[.int .i64 i1]) (e := 3) (f := (0, 0)) (by simp [pcBoxes]) 0
          have f2 : W3.frozen? ⟨Bi, 0, none⟩ = false := T3.has.free (b := Bi) (c := #[.int .i64 i1]) (e := 3) (by simp [pcBoxes]) 0
          have T3' : Turn (pcBoxes Bn Bi m1 i1) W3 ((Bi, .cells #[.int .i64 i1] 3) :: [(Bn, .cells #[.int .i64 m1] 3)]) W3 := T3.swap
          have T4 := T3'.setCell 0 (.int .i64 ((i1 : Int) + (m1 : Int)))
          have b3 : (W3.setCell ⟨Bi, 0, none⟩ (.int .i64 ((i1 : Int) + (m1 : Int)))).cell? ⟨Bn, 0, none⟩ = some (.int .i64 m1) := T4.cell2 0
          have f3 : (W3.setCell ⟨Bi, 0, none⟩ (.int .i64 ((i1 : Int) + (m1 : Int)))).frozen? ⟨Bn, 0, none⟩ = false := T4.free2 0
          have T5 := T4.swap.setCell 0 (.int .i64 0)
          have HT5 := uh T5.drew
          have HJ5 := uh (HJ.out _ _ ((W3.setCell ⟨Bi, 0, none⟩ (.int .i64 ((i1 : Int) + (m1 : Int)))).setCell ⟨Bn, 0, none⟩ (.int .i64 0)).drew none (HUp.out _ _ _ (HUp.out _ _ _ hJ3 ⟨.int .i64 ((i1 : Int) + (m1 : Int)), .inr rfl⟩) ⟨.int .i64 0, .inl rfl⟩) ⟨rfl, rfl, rfl, Nat.le_refl _, fun _ _ _ => rfl⟩ (fun r e => by cases e))
          have f1 : W3.frozen? ⟨Bn, 0, none⟩ = false := T3.has.free (b := Bn) (c := #[.int .i64 m1]) (e := 3) (by simp [pcBoxes]) 0
          have T6 := (Turn.setCell (T3 : Turn (pcBoxes Bn Bi m1 i1) W3 ((Bn, .cells #[.int .i64 m1] 3) :: [(Bi, .cells #[.int .i64 i1] 3)]) W3) 0 (.int .i64 0)).swap
          have f4 : (W3.setCell ⟨Bn, 0, none⟩ (.int .i64 0)).frozen? ⟨Bi, 0, none⟩ = false := T6.free1 0
          have HT6 := uh ((T6.setCell 0 (.int .i64 ((i1 : Int) + (m1 : Int)))).swap.drew)
          have HJ6 := uh (HJ.out _ _ ((W3.setCell ⟨Bn, 0, none⟩ (.int .i64 0)).setCell ⟨Bi, 0, none⟩ (.int .i64 ((i1 : Int) + (m1 : Int)))).drew none (HUp.out _ _ _ (HUp.out _ _ _ hJ3 ⟨.int .i64 0, .inl rfl⟩) ⟨.int .i64 ((i1 : Int) + (m1 : Int)), .inr rfl⟩) ⟨rfl, rfl, rfl, Nat.le_refl _, fun _ _ _ => rfl⟩ (fun r e => by cases e))
          have E1 : ((i0 + (s + m1) : Nat) : Int) = (i1 : Int) + (m1 : Int) := by omega
          have E2 : ((n0 - (s + m1) : Nat) : Int) = 0 := by omega
          have HE1 := uh E1
          have HE2 := uh E2
          clear E1 E2 T6
          clear HH3 HR hk3 hJ3 HJ3 T3 T3' T4 T5 cn ci cn1 hy HY2 Hat hM
          gi_wp2_with fail
          gi_region
          all_goals (
           gi_wp2_with fail
           go_roundw
           case rel =>
            first
             | (refine ⟨pre ++ [(i1, m1)], by rw [Hsn.out]; omega, HJ5.out, ?_⟩; rw [Hsn.out]; unfold pcBoxes; rw [HE1.out, HE2.out]; exact HT5.out.has)
             | (refine ⟨pre ++ [(i1, m1)], by rw [Hsn.out]; omega, HJ6.out, ?_⟩; rw [Hsn.out]; unfold pcBoxes; rw [HE1.out, HE2.out]; exact HT6.out.has)
           case measure =>
            simp only [cn9]
            first
             | (rw [show (((W3.setCell ⟨Bi, 0, none⟩ (.int .i64 ((i1 : Int) + (m1 : Int)))).setCell ⟨Bn, 0, none⟩ (.int .i64 0)).drew).cell? ⟨Bn, 0, none⟩ = some (.int .i64 0) from HT5.out.cell1 0]; simp only; omega)
             | (rw [show (((W3.setCell ⟨Bn, 0, none⟩ (.int .i64 0)).setCell ⟨Bi, 0, none⟩ (.int .i64 ((i1 : Int) + (m1 : Int)))).drew).cell? ⟨Bn, 0, none⟩ = some (.int .i64 0) from HT6.out.cell1 0]; simp only; omega))
        · clear HR cn ci cn1 hy HY2 Hat hM
          gi_wp2_with fail
          refine bodyPost_ret (results_none rfl _ _ _) rfl ?_
          exact ⟨⟨_, rfl⟩, .inr ⟨_, hJx3⟩⟩
    · have hmn : decide ((m1 : Int) ≤ (k : Int)) = false := decide_eq_false (by omega)
      have hmn2 : ¬ (m1 : Int) ≤ (k : Int) := by omega
      clear Hmin
      by_cases hk : k < 64
      · have hM : IntKind.u64.wrap (IntKind.u64.wrap (IntKind.u64.wrap (2 ^ k) - 1) * 2 ^ r) = ((pmask k r : Nat) : Int) := mask_run hk (by omega)
        have hk1 : decide ((k : Int) < 64) = true := decide_eq_true (by omega)
        have hk2 : decide (k < 64) = true := decide_eq_true hk
        gi_wp2_with (first
         | (gi_at_call 154; go_loud (refine (callsIn_wide.2 (Hat.out _)).mono ?_; rintro e w1 ⟨rfl, hB1⟩; have T1 := (HT0.out.call hB1).alloc (.cells #[.int .i64 q, .int .i64 r, .int .u64 (pmask k r : Nat)] 343); have HB := uh T1.below; have cn1 := (HHw.out.below (w' := w1.alloc (.cells #[.int .i64 q, .int .i64 r, .int .u64 18446744073709551615] 343)) ((HT0.out.call hB1).alloc _).below).cell (b := Bn) (c := #[.int .i64 m1]) (e := 3) (f := (0, 0)) (by simp [pcBoxes]) 0; obtain ⟨fn, tmps, assign, body, hy, hR⟩ := HY2.out _ (HJ.out pre wr _ none HJw.out (below_grownBy HB.out) (fun r e => by cases e)); have HR := uh hR; clear hR))
         | fail)
        refine HR.out.mono ?_
        rintro e W3 (⟨rfl, hJ3, hk3⟩ | ⟨rfl, hJx3⟩)
        · have HH3 := ((HHw.out.below HB.out).kp hk3)
          have HJ3 := uh hJ3
          have T3 := (Turn.refl HH3)
          have b1 : W3.cell? ⟨Bn, 0, none⟩ = some (.int .i64 m1) := T3.has.cell (b := Bn) (c := #[.int .i64 m1]) (e := 3) (f := (0, 0)) (by simp [pcBoxes]) 0
          have b2 : W3.cell? ⟨Bi, 0, none⟩ = some (.int .i64 i1) := T3.has.cell (b := Bi) (c := #[.int .i64 i1]) (e := 3) (f := (0, 0)) (by simp [pcBoxes]) 0
          have f2 : W3.frozen? ⟨Bi, 0, none⟩ = false := T3.has.free (b := Bi) (c := #[.int .i64 i1]) (e := 3) (by simp [pcBoxes]) 0
          have T3' : Turn (pcBoxes Bn Bi m1 i1) W3 ((Bi, .cells #[.int .i64 i1] 3) :: [(Bn, .cells #[.int .i64 m1] 3)]) W3 := T3.swap
          have T4 := T3'.setCell 0 (.int .i64 ((i1 : Int) + (k : Int)))
          have b3 : (W3.setCell ⟨Bi, 0, none⟩ (.int .i64 ((i1 : Int) + (k : Int)))).cell? ⟨Bn, 0, none⟩ = some (.int .i64 m1) := T4.cell2 0
          have f3 : (W3.setCell ⟨Bi, 0, none⟩ (.int .i64 ((i1 : Int) + (k : Int)))).frozen? ⟨Bn, 0, none⟩ = false := T4.free2 0
          have T5 := T4.swap.setCell 0 (.int .i64 ((m1 : Int) - (k : Int)))
          have HT5 := uh T5.drew
          have HJ5 := uh (HJ.out _ _ ((W3.setCell ⟨Bi, 0, none⟩ (.int .i64 ((i1 : Int) + (k : Int)))).setCell ⟨Bn, 0, none⟩ (.int .i64 ((m1 : Int) - (k : Int)))).drew none (HUp.out _ _ _ (HUp.out _ _ _ hJ3 ⟨.int .i64 ((i1 : Int) + (k : Int)), .inr rfl⟩) ⟨.int .i64 ((m1 : Int) - (k : Int)), .inl rfl⟩) ⟨rfl, rfl, rfl, Nat.le_refl _, fun _ _ _ => rfl⟩ (fun r e => by cases e))
          have f1 : W3.frozen? ⟨Bn, 0, none⟩ = false := T3.has.free (b := Bn) (c := #[.int .i64 m1]) (e := 3) (by simp [pcBoxes]) 0
          have T6 := (Turn.setCell (T3 : Turn (pcBoxes Bn Bi m1 i1) W3 ((Bn, .cells #[.int .i64 m1] 3) :: [(Bi, .cells #[.int .i64 i1] 3)]) W3) 0 (.int .i64 ((m1 : Int) - (k : Int)))).swap
          have f4 : (W3.setCell ⟨Bn, 0, none⟩ (.int .i64 ((m1 : Int) - (k : Int)))).frozen? ⟨Bi, 0, none⟩ = false := T6.free1 0
          have HT6 := uh ((T6.setCell 0 (.int .i64 ((i1 : Int) + (k : Int)))).swap.drew)
          have HJ6 := uh (HJ.out _ _ ((W3.setCell ⟨Bn, 0, none⟩ (.int .i64 ((m1 : Int) - (k : Int)))).setCell ⟨Bi, 0, none⟩ (.int .i64 ((i1 : Int) + (k : Int)))).drew none (HUp.out _ _ _ (HUp.out _ _ _ hJ3 ⟨.int .i64 ((m1 : Int) - (k : Int)), .inl rfl⟩) ⟨.int .i64 ((i1 : Int) + (k : Int)), .inr rfl⟩) ⟨rfl, rfl, rfl, Nat.le_refl _, fun _ _ _ => rfl⟩ (fun r e => by cases e))
          have E1 : ((i0 + (s + k) : Nat) : Int) = (i1 : Int) + (k : Int) := by omega
          have E2 : ((n0 - (s + k) : Nat) : Int) = ((m1 : Int) - (k : Int)) := by omega
          have HE1 := uh E1
          have HE2 := uh E2
          clear E1 E2 T6
          clear HH3 HR hk3 hJ3 HJ3 T3 T3' T4 T5 cn ci cn1 hy HY2 Hat hM
          gi_wp2_with fail
          gi_region
          all_goals (
           gi_wp2_with fail
           go_roundw
           case rel =>
            first
             | (refine ⟨pre ++ [(i1, k)], by rw [Hsn.out]; omega, HJ5.out, ?_⟩; rw [Hsn.out]; unfold pcBoxes; rw [HE1.out, HE2.out]; exact HT5.out.has)
             | (refine ⟨pre ++ [(i1, k)], by rw [Hsn.out]; omega, HJ6.out, ?_⟩; rw [Hsn.out]; unfold pcBoxes; rw [HE1.out, HE2.out]; exact HT6.out.has)
           case measure =>
            simp only [cn9]
            first
             | (rw [show (((W3.setCell ⟨Bi, 0, none⟩ (.int .i64 ((i1 : Int) + (k : Int)))).setCell ⟨Bn, 0, none⟩ (.int .i64 ((m1 : Int) - (k : Int)))).drew).cell? ⟨Bn, 0, none⟩ = some (.int .i64 ((m1 : Int) - (k : Int))) from HT5.out.cell1 0]; simp only; omega)
             | (rw [show (((W3.setCell ⟨Bn, 0, none⟩ (.int .i64 ((m1 : Int) - (k : Int)))).setCell ⟨Bi, 0, none⟩ (.int .i64 ((i1 : Int) + (k : Int)))).drew).cell? ⟨Bn, 0, none⟩ = some (.int .i64 ((m1 : Int) - (k : Int))) from HT6.out.cell1 0]; simp only; omega))
        · clear HR cn ci cn1 hy HY2 Hat hM
          gi_wp2_with fail
          refine bodyPost_ret (results_none rfl _ _ _) rfl ?_
          exact ⟨⟨_, rfl⟩, .inr ⟨_, hJx3⟩⟩
      · have hM : IntKind.u64.wrap (18446744073709551615 * 2 ^ r) = ((pmask k r : Nat) : Int) := by
          have h0 : k = 64 := by omega
          have h9 : r = 0 := by omega
          rw [h0, h9]
          rfl
        have hk1 : decide ((k : Int) < 64) = false := decide_eq_false (by omega)
        have hk2 : decide (k < 64) = false := decide_eq_false hk
        gi_wp2_with (first
         | (gi_at_call 154; go_loud (refine (callsIn_wide.2 (Hat.out _)).mono ?_; rintro e w1 ⟨rfl, hB1⟩; have T1 := (HT0.out.call hB1).alloc (.cells #[.int .i64 q, .int .i64 r, .int .u64 (pmask k r : Nat)] 343); have HB := uh T1.below; have cn1 := (HHw.out.below (w' := w1.alloc (.cells #[.int .i64 q, .int .i64 r, .int .u64 18446744073709551615] 343)) ((HT0.out.call hB1).alloc _).below).cell (b := Bn) (c := #[.int .i64 m1]) (e := 3) (f := (0, 0)) (by simp [pcBoxes]) 0; obtain ⟨fn, tmps, assign, body, hy, hR⟩ := HY2.out _ (HJ.out pre wr _ none HJw.out (below_grownBy HB.out) (fun r e => by cases e)); have HR := uh hR; clear hR))
         | fail)
        refine HR.out.mono ?_
        rintro e W3 (⟨rfl, hJ3, hk3⟩ | ⟨rfl, hJx3⟩)
        · have HH3 := ((HHw.out.below HB.out).kp hk3)
          have HJ3 := uh hJ3
          have T3 := (Turn.refl HH3)
          have b1 : W3.cell? ⟨Bn, 0, none⟩ = some (.int .i64 m1) := T3.has.cell (b := Bn) (c := #[.int .i64 m1]) (e := 3) (f := (0, 0)) (by simp [pcBoxes]) 0
          have b2 : W3.cell? ⟨Bi, 0, none⟩ = some (.int .i64 i1) := T3.has.cell (b := Bi) (c := #[.int .i64 i1]) (e := 3) (f := (0, 0)) (by simp [pcBoxes]) 0
          have f2 : W3.frozen? ⟨Bi, 0, none⟩ = false := T3.has.free (b := Bi) (c := #[.int .i64 i1]) (e := 3) (by simp [pcBoxes]) 0
          have T3' : Turn (pcBoxes Bn Bi m1 i1) W3 ((Bi, .cells #[.int .i64 i1] 3) :: [(Bn, .cells #[.int .i64 m1] 3)]) W3 := T3.swap
          have T4 := T3'.setCell 0 (.int .i64 ((i1 : Int) + (k : Int)))
          have b3 : (W3.setCell ⟨Bi, 0, none⟩ (.int .i64 ((i1 : Int) + (k : Int)))).cell? ⟨Bn, 0, none⟩ = some (.int .i64 m1) := T4.cell2 0
          have f3 : (W3.setCell ⟨Bi, 0, none⟩ (.int .i64 ((i1 : Int) + (k : Int)))).frozen? ⟨Bn, 0, none⟩ = false := T4.free2 0
          have T5 := T4.swap.setCell 0 (.int .i64 ((m1 : Int) - (k : Int)))
          have HT5 := uh T5.drew
          have HJ5 := uh (HJ.out _ _ ((W3.setCell ⟨Bi, 0, none⟩ (.int .i64 ((i1 : Int) + (k : Int)))).setCell ⟨Bn, 0, none⟩ (.int .i64 ((m1 : Int) - (k : Int)))).drew none (HUp.out _ _ _ (HUp.out _ _ _ hJ3 ⟨.int .i64 ((i1 : Int) + (k : Int)), .inr rfl⟩) ⟨.int .i64 ((m1 : Int) - (k : Int)), .inl rfl⟩) ⟨rfl, rfl, rfl, Nat.le_refl _, fun _ _ _ => rfl⟩ (fun r e => by cases e))
          have f1 : W3.frozen? ⟨Bn, 0, none⟩ = false := T3.has.free (b := Bn) (c := #[.int .i64 m1]) (e := 3) (by simp [pcBoxes]) 0
          have T6 := (Turn.setCell (T3 : Turn (pcBoxes Bn Bi m1 i1) W3 ((Bn, .cells #[.int .i64 m1] 3) :: [(Bi, .cells #[.int .i64 i1] 3)]) W3) 0 (.int .i64 ((m1 : Int) - (k : Int)))).swap
          have f4 : (W3.setCell ⟨Bn, 0, none⟩ (.int .i64 ((m1 : Int) - (k : Int)))).frozen? ⟨Bi, 0, none⟩ = false := T6.free1 0
          have HT6 := uh ((T6.setCell 0 (.int .i64 ((i1 : Int) + (k : Int)))).swap.drew)
          have HJ6 := uh (HJ.out _ _ ((W3.setCell ⟨Bn, 0, none⟩ (.int .i64 ((m1 : Int) - (k : Int)))).setCell ⟨Bi, 0, none⟩ (.int .i64 ((i1 : Int) + (k : Int)))).drew none (HUp.out _ _ _ (HUp.out _ _ _ hJ3 ⟨.int .i64 ((m1 : Int) - (k : Int)), .inl rfl⟩) ⟨.int .i64 ((i1 : Int) + (k : Int)), .inr rfl⟩) ⟨rfl, rfl, rfl, Nat.le_refl _, fun _ _ _ => rfl⟩ (fun r e => by cases e))
          have E1 : ((i0 + (s + k) : Nat) : Int) = (i1 : Int) + (k : Int) := by omega
          have E2 : ((n0 - (s + k) : Nat) : Int) = ((m1 : Int) - (k : Int)) := by omega
          have HE1 := uh E1
          have HE2 := uh E2
          clear E1 E2 T6
          clear HH3 HR hk3 hJ3 HJ3 T3 T3' T4 T5 cn ci cn1 hy HY2 Hat hM
          gi_wp2_with fail
          gi_region
          all_goals (
           gi_wp2_with fail
           go_roundw
           case rel =>
            first
             | (refine ⟨pre ++ [(i1, k)], by rw [Hsn.out]; omega, HJ5.out, ?_⟩; rw [Hsn.out]; unfold pcBoxes; rw [HE1.out, HE2.out]; exact HT5.out.has)
             | (refine ⟨pre ++ [(i1, k)], by rw [Hsn.out]; omega, HJ6.out, ?_⟩; rw [Hsn.out]; unfold pcBoxes; rw [HE1.out, HE2.out]; exact HT6.out.has)
           case measure =>
            simp only [cn9]
            first
             | (rw [show (((W3.setCell ⟨Bi, 0, none⟩ (.int .i64 ((i1 : Int) + (k : Int)))).setCell ⟨Bn, 0, none⟩ (.int .i64 ((m1 : Int) - (k : Int)))).drew).cell? ⟨Bn, 0, none⟩ = some (.int .i64 ((m1 : Int) - (k : Int))) from HT5.out.cell1 0]; simp only; omega)
             | (rw [show (((W3.setCell ⟨Bn, 0, none⟩ (.int .i64 ((m1 : Int) - (k : Int)))).setCell ⟨Bi, 0, none⟩ (.int .i64 ((i1 : Int) + (k : Int)))).drew).cell? ⟨Bn, 0, none⟩ = some (.int .i64 ((m1 : Int) - (k : Int))) from HT6.out.cell1 0]; simp only; omega))
        · clear HR cn ci cn1 hy HY2 Hat hM
          gi_wp2_with fail
          refine bodyPost_ret (results_none rfl _ _ _) rfl ?_
          exact ⟨⟨_, rfl⟩, .inr ⟨_, hJx3⟩⟩
  · have hz : n0 - sumK pre = 0 := by omega
    have hs : sumK pre = n0 := by omega
    rw [hz] at cn
    have HJw := uh hJw
    clear hJw hHw hz ci
    gi_wp2_with fail
    go_end0
    exact ⟨⟨_, rfl⟩, .inl ⟨pre, hs, HJw.out⟩⟩
end
section
open Go Go.RowKit
theorem Turn.grownB {l L : List Blk} {w W W' : World} {B : Nat} {row : Option Nat} (h : Turn l w L W) (hB : w.heap.size ≤ B) (hL : ∀ x ∈ L, x.2.isCells = true) (hg : W.grownBy W' row) (hr : ∀ r, row = some r → B ≤ r ∧ ∃ o : Obj, W.heap[r]? = some o ∧ o.isCells = false) : Turn l w L W' := by
 have hne : ∀ b o, (b, o) ∈ L → some b ≠ row := fun b o hm he => by
  obtain ⟨-, o', ho', hc⟩ := hr b he.symm
  have h1 := h.has.own b o hm
  rw [h1] at ho'
  cases ho'
  have := hL _ hm
  rw [hc] at this
  cases this
 refine ⟨hg.os.trans h.os, hg.tape.trans h.tape, hg.output.trans h.output, Nat.le_trans h.size hg.size, ⟨h.has.nd, fun b o hm => ?_⟩, h.new, fun b hb hn => ?_⟩
 · rw [hg.block b (lt_of_block (h.has.own b o hm)) (hne b o hm)]
   exact h.has.own b o hm
 · rw [hg.block b (Nat.lt_of_lt_of_le hb h.size) (fun he => by have := (hr b he.symm).1; omega)]
   exact h.same b hb hn
theorem wpListIn_by {F : Fence} {n : Nat} {P : Program} {ops : Array Oper} {Q : Exit → Act → World → Prop} {o : Oper} {rest : List Oper} {a : Act} {w : World} (hF : Follows F n P) (hgd : o.guard = none) (hd : ∀ c, o.op ≠ .defer c)
  (h : o.wp P a w (wpListIn F n P ops Q rest) Q) : wpListIn F n P ops Q (o :: rest) a w := by
 have hw : Region.wanted o (yielded ops a.tmps) = true := by simp [Region.wanted, hgd]
 unfold wpListIn
 rw [if_pos hw]
 exact hF.op o a w _ Q hd h
theorem keepsOthers_setCells {b : Nat} : ∀ (vs : List Value) (o : Nat) (W : World), KeepsOthers W (W.setCells b o vs)
 | [], _, W => KeepsOthers.refl W
 | v :: r, o, W => (KeepsOthers.setCell W ⟨b, o, none⟩ v).trans (keepsOthers_setCells r (o + 1) _)
theorem Turn.keepsOthers {L L' : List Blk} {W W' : World} (h : Turn L W L' W') (hH : Has W L) (hc : ∀ x ∈ L, x.2.isCells = true) : KeepsOthers W W' :=
 ⟨h.size, fun k o hk ho => (h.same k (lt_of_block hk) (fun hm => by
  obtain ⟨o', ho'⟩ := mem_keys.1 hm
  have h1 := hH.own k o' ho'
  rw [hk] at h1
  cases h1
  have := hc _ ho'
  rw [ho] at this
  cases this)).trans hk⟩
theorem Row.cells {e : TypeId} {size : Nat} {ao : Option Addr} {n cap : Nat} {xs : List Value} {l : List Blk} (h : Row e size ao n cap xs l) : ∀ x ∈ l, x.2.isCells = true := by
 rcases h.2.2.2 with ⟨_, _, h1⟩ | ⟨g, cur, _, h1, _⟩
 · rw [h1]; intro x hx; cases hx
 · rw [h1]; intro x hx; rw [List.mem_singleton.1 hx]; rfl
end
section
open Go Go.RowKit Go.IntWalk
def fieldCells : List Value := [.int .i64 0, .int .i64 2, .int .i64 2, .int .i64 12, .int .i64 14, .int .i64 2, .int .i64 16, .int .i64 24, .int .i64 40, .int .i64 24]
abbrev Fields (w : World) : Prop := w.rangeAt 0 0 fieldCells
theorem fields_at {w : World} (h : Fields w) {i : Nat} {v : Value} (hv : fieldCells[i]? = some v) : w.cell? ⟨0, i, none⟩ = some v := by
 have := h i v hv
 rwa [Nat.zero_add] at this
theorem hmost (w : World) (hF : Fields w) (f r : Int) (h : f = 1 ∧ r = 4095 ∨ f = 3 ∧ r = 16777215 ∨ f = 4 ∧ r = 16777215) : Calls Tryz.prog 233 #[.int .i64 f] w fun e w' => e = .returned (.int .i64 r) ∧ w' = w := by
 have c3 := fields_at hF (i := 3) rfl
 have c7 := fields_at hF (i := 7) rfl
 have c9 := fields_at hF (i := 9) rfl
 clear hF
 rcases h with ⟨rfl, rfl⟩ | ⟨rfl, rfl⟩ | ⟨rfl, rfl⟩
 all_goals
  go_enter Tryz.func233, Tryz.ntmps233
  go_wp2
  go_ret
  exact ⟨rfl, rfl⟩
theorem hcheck (w : World) (hF : Fields w) (h : Hd) (hi : HdIn h) : Calls Tryz.prog 189 #[hdVal h] w fun e w' => e = .returned (.int .i64 (if h.may then 0 else 2)) ∧ Below w.heap.size w w' := by
 obtain ⟨a, b, c, d⟩ := h
 obtain ⟨i1, i2, i3, i4⟩ := hi
 simp only at i1 i2 i3 i4
 have T1 := (Turn.refl (Has.nil w)).alloc (.cells #[.int .u8 a, .int .i64 b, .int .i64 c, .int .i64 d] 79)
 have c0 := T1.cell1 0
 have c1 := T1.cell1 1
 have c2 := T1.cell1 2
 have c3 := T1.cell1 3
 have HT1 := uh T1
 have HM := uh (fun n f r hfr => hmost ((w.alloc (.cells #[.int .u8 a, .int .i64 b, .int .i64 c, .int .i64 d] 79)).drewN n) (range_below hF (T1.drewN n).below) f r hfr)
 have HFw := uh hF
 have Hmay : Hid ((Hd.mk a b c d).may ↔ 1 ≤ d ∧ d < 16777216 ∧ c < 16777216 ∧ (a = 1 ∧ 1 ≤ b ∧ b ≤ 4095 ∨ (a = 2 ∨ a = 3) ∧ b = 0 ∧ c = 0)) := uh Iff.rfl
 obtain ⟨r, Hr⟩ : ∃ r : Int, Hid (r = if (Hd.mk a b c d).may then 0 else 2) := ⟨_, uh rfl⟩
 rw [← Hr.out]
 have HF : (¬ (Hd.mk a b c d).may) → r = 2 := fun hn => by rw [Hr.out, if_neg hn]
 have HTr : (Hd.mk a b c d).may → r = 0 := fun hn => by rw [Hr.out, if_pos hn]
 clear T1 Hr hF
 have k3 : decide ((c : Int) < 0) = false := decide_eq_false (by omega)
 by_cases hd1 : d < 1
 · obtain rfl := HF (fun h => by have := Hmay.out.1 h; omega)
   have k1 : decide ((d : Int) < 1) = true := decide_eq_true (by omega)
   clear Hmay HF HTr
   go_enter Tryz.func189, Tryz.ntmps189
   go_wp2_with fail
   go_quiet (first | (go_at_call 233; refine Calls.quiet_of_same (HM.out _ _ _ (.inr (.inr ⟨rfl, rfl⟩)))) | (go_at_call 233; refine Calls.quiet_of_same (HM.out _ _ _ (.inr (.inl ⟨rfl, rfl⟩)))))
   go_wp2
   go_ret
   exact ⟨rfl, (HT1.out.drewN _).below⟩
 have k1 : decide ((d : Int) < 1) = false := decide_eq_false (by omega)
 have n1 : ¬ (d : Int) < 1 := by omega
 by_cases hd2 : 16777215 < d
 · obtain rfl := HF (fun h => by have := Hmay.out.1 h; omega)
   have k2 : decide ((16777215 : Int) < (d : Int)) = true := decide_eq_true (by omega)
   have n2 : (16777215 : Int) < (d : Int) := by omega
   clear Hmay HF HTr
   go_enter Tryz.func189, Tryz.ntmps189
   go_wp2_with fail
   go_quiet (first | (go_at_call 233; refine Calls.quiet_of_same (HM.out _ _ _ (.inr (.inr ⟨rfl, rfl⟩)))) | (go_at_call 233; refine Calls.quiet_of_same (HM.out _ _ _ (.inr (.inl ⟨rfl, rfl⟩)))))
   go_wp2
   go_ret
   exact ⟨rfl, (HT1.out.drewN _).below⟩
 have k2 : decide ((16777215 : Int) < (d : Int)) = false := decide_eq_false (by omega)
 have n2 : ¬ (16777215 : Int) < (d : Int) := by omega
 by_cases hc2 : 16777215 < c
 · obtain rfl := HF (fun h => by have := Hmay.out.1 h; omega)
   have k4 : decide ((16777215 : Int) < (c : Int)) = true := decide_eq_true (by omega)
   have n4 : (16777215 : Int) < (c : Int) := by omega
   clear Hmay HF HTr
   go_enter Tryz.func189, Tryz.ntmps189
   go_wp2_with fail
   go_quiet (first | (go_at_call 233; refine Calls.quiet_of_same (HM.out _ _ _ (.inr (.inr ⟨rfl, rfl⟩)))) | (go_at_call 233; refine Calls.quiet_of_same (HM.out _ _ _ (.inr (.inl ⟨rfl, rfl⟩)))))
   go_wp2
   go_ret
   exact ⟨rfl, (HT1.out.drewN _).below⟩
 have k4 : decide ((16777215 : Int) < (c : Int)) = false := decide_eq_false (by omega)
 have n4 : ¬ (16777215 : Int) < (c : Int) := by omega
 go_enter Tryz.func189, Tryz.ntmps189
 go_wp2_with fail
 go_quiet (first | (go_at_call 233; refine Calls.quiet_of_same (HM.out _ _ _ (.inr (.inr ⟨rfl, rfl⟩)))) | (go_at_call 233; refine Calls.quiet_of_same (HM.out _ _ _ (.inr (.inl ⟨rfl, rfl⟩)))))
 go_wp2_with fail
 refine wp_abs (fun W => Turn [] w [(w.heap.size, .cells #[.int .u8 a, .int .i64 b, .int .i64 c, .int .i64 d] 79)] W) (HT1.out.drewN _) fun W2 T2 => ?_
 clear c0 c1 c2 c3 HT1 HM
 have c0 := T2.cell1 0
 have c1 := T2.cell1 1
 have c2 := T2.cell1 2
 have HM2 := uh (fun n => hmost (W2.drewN n) (range_below HFw.out (T2.drewN n).below) 1 4095 (.inl ⟨rfl, rfl⟩))
 have HT2 := uh T2
 clear T2
 by_cases a1 : a = 1
 · subst a1
   replace c0 : _ = some (Value.int .u8 1) := c0
   by_cases hb1 : b < 1
   · obtain rfl := HF (fun h => by have := Hmay.out.1 h; omega)
     have k5 : decide ((1 : Int) ≤ (b : Int)) = false := decide_eq_false (by omega)
     have n5 : ¬ (1 : Int) ≤ (b : Int) := by omega
     clear Hmay HF HTr
     go_quiet (first | (go_at_call 233; refine Calls.quiet_of_same (HM2.out _)))
     go_wp2
     go_ret
     exact ⟨rfl, (HT2.out.drewN _).below⟩
   have k5 : decide ((1 : Int) ≤ (b : Int)) = true := decide_eq_true (by omega)
   have n5 : (1 : Int) ≤ (b : Int) := by omega
   by_cases hb2 : 4095 < b
   · obtain rfl := HF (fun h => by have := Hmay.out.1 h; omega)
     have k6 : decide ((b : Int) ≤ 4095) = false := decide_eq_false (by omega)
     clear Hmay HF HTr
     go_quiet (first | (go_at_call 233; refine Calls.quiet_of_same (HM2.out _)))
     go_wp2
     go_ret
     exact ⟨rfl, (HT2.out.drewN _).below⟩
   · obtain rfl := HTr (Hmay.out.2 ⟨by omega, by omega, by omega, .inl ⟨rfl, by omega, by omega⟩⟩)
     have k6 : decide ((b : Int) ≤ 4095) = true := decide_eq_true (by omega)
     clear Hmay HF HTr
     go_quiet (first | (go_at_call 233; refine Calls.quiet_of_same (HM2.out _)))
     go_wp2
     go_ret
     exact ⟨rfl, (HT2.out.drewN _).below⟩
 have q1 : ¬ (a : Int) = 1 := by omega
 have p1 : ((a : Int) == 1) = false := by rw [beq_eq_false_iff_ne]; exact q1
 by_cases a23 : a = 2 ∨ a = 3
 · by_cases hb0 : b = 0
   · subst hb0
     by_cases hc0 : c = 0
     · subst hc0
       obtain rfl := HTr (Hmay.out.2 ⟨by omega, by omega, by omega, .inr ⟨a23, rfl, rfl⟩⟩)
       clear Hmay HF HTr
       rcases a23 with rfl | rfl
       · replace c0 : _ = some (Value.int .u8 2) := c0
         go_quiet (first | (go_at_call 233; refine Calls.quiet_of_same (HM2.out _)))
         go_wp2
         go_ret
         exact ⟨rfl, (HT2.out.drewN _).below⟩
       · replace c0 : _ = some (Value.int .u8 3) := c0
         go_quiet (first | (go_at_call 233; refine Calls.quiet_of_same (HM2.out _)))
         go_wp2
         go_ret
         exact ⟨rfl, (HT2.out.drewN _).below⟩
     · obtain rfl := HF (fun h => by have := Hmay.out.1 h; omega)
       have k8 : ((c : Int) == 0) = false := by rw [beq_eq_false_iff_ne]; omega
       have n8 : ¬ (c : Int) = 0 := by omega
       clear Hmay HF HTr
       rcases a23 with rfl | rfl
       · replace c0 : _ = some (Value.int .u8 2) := c0
         go_quiet (first | (go_at_call 233; refine Calls.quiet_of_same (HM2.out _)))
         go_wp2
         go_ret
         exact ⟨rfl, (HT2.out.drewN _).below⟩
       · replace c0 : _ = some (Value.int .u8 3) := c0
         go_quiet (first | (go_at_call 233; refine Calls.quiet_of_same (HM2.out _)))
         go_wp2
         go_ret
         exact ⟨rfl, (HT2.out.drewN _).below⟩
   · obtain rfl := HF (fun h => by have := Hmay.out.1 h; omega)
     have k7 : ((b : Int) == 0) = false := by rw [beq_eq_false_iff_ne]; omega
     have n7 : ¬ (b : Int) = 0 := by omega
     clear Hmay HF HTr
     rcases a23 with rfl | rfl
     · replace c0 : _ = some (Value.int .u8 2) := c0
       go_quiet (first | (go_at_call 233; refine Calls.quiet_of_same (HM2.out _)))
       go_wp2
       go_ret
       exact ⟨rfl, (HT2.out.drewN _).below⟩
     · replace c0 : _ = some (Value.int .u8 3) := c0
       go_quiet (first | (go_at_call 233; refine Calls.quiet_of_same (HM2.out _)))
       go_wp2
       go_ret
       exact ⟨rfl, (HT2.out.drewN _).below⟩
 · obtain rfl := HF (fun h => by have := Hmay.out.1 h; omega)
   have q2 : ¬ (a : Int) = 2 := by omega
   have q3 : ¬ (a : Int) = 3 := by omega
   have p2 : ((a : Int) == 2) = false := by rw [beq_eq_false_iff_ne]; exact q2
   have p3 : ((a : Int) == 3) = false := by rw [beq_eq_false_iff_ne]; exact q3
   clear Hmay HF HTr a1 a23
   go_quiet (first | (go_at_call 233; refine Calls.quiet_of_same (HM2.out _)))
   go_wp2
   go_ret
   exact ⟨rfl, (HT2.out.drewN _).below⟩
theorem and_mod {x n : Nat} (hx : x < 18446744073709551616) (hn : n ≤ 32) : bits .and .u64 (x : Int) (((2 ^ n - 1 : Nat) : Int)) = ((x % 2 ^ n : Nat) : Int) := by
 have hp : 2 ^ n - 1 < 18446744073709551616 := by
  have : 2 ^ n ≤ 2 ^ 32 := Nat.pow_le_pow_right (by omega) hn
  omega
 rw [u64_and_nat x (2 ^ n - 1) hx hp, Nat.and_two_pow_sub_one_eq_mod]
theorem hdecf (w : World) (hF : Fields w) (b : Nat) (v : Nat) (hv : v < 18446744073709551616) (hc : w.cell? ⟨b, 0, none⟩ = some (.int .u64 v)) (f r : Int)
  (h : f = 0 ∧ r = ((v % 4 : Nat) : Int) ∨ f = 1 ∧ r = ((v / 4 % 4096 : Nat) : Int) ∨ f = 2 ∧ r = ((v / 16384 % 4 : Nat) : Int) ∨ f = 3 ∧ r = ((v / 65536 % 16777216 : Nat) : Int) ∨ f = 4 ∧ r = ((v / 1099511627776 : Nat) : Int)) :
  Calls Tryz.prog 232 #[.int .i64 f, .pointer (some ⟨b, 0, none⟩)] w fun e w' => e = .returned (.int .i64 r) ∧ Below w.heap.size w w' := by
 have c0 := fields_at hF (i := 0) rfl
 have c1 := fields_at hF (i := 1) rfl
 have c2 := fields_at hF (i := 2) rfl
 have c3 := fields_at hF (i := 3) rfl
 have c4 := fields_at hF (i := 4) rfl
 have c5 := fields_at hF (i := 5) rfl
 have c6 := fields_at hF (i := 6) rfl
 have c7 := fields_at hF (i := 7) rfl
 have c8 := fields_at hF (i := 8) rfl
 have c9 := fields_at hF (i := 9) rfl
 have hB := uh (Turn.refl (Has.nil w))
 clear hF
 rcases h with ⟨rfl, rfl⟩ | ⟨rfl, rfl⟩ | ⟨rfl, rfl⟩ | ⟨rfl, rfl⟩ | ⟨rfl, rfl⟩
 · have hb : bits .and .u64 ((v : Int)) 3 = ((v % 4 : Nat) : Int) := by
     have h := and_mod (x := v) (n := 2) (by omega) (by omega)
     rw [show (((2 ^ 2 - 1 : Nat) : Int)) = 3 from rfl, show (2 : Nat) ^ 2 = 4 from rfl] at h
     rw [show ((v : Nat) : Int) = (v : Int) by omega] at h
     rw [h]
     first | done | omega
   have hlt : v % 4 < 16777216 := by omega
   generalize v % 4 = x at *
   go_enter Tryz.func232, Tryz.ntmps232
   go_wp2_with fail
   go_quiet (fail)
   go_wp2
   go_ret
   exact ⟨rfl, (hB.out.drewN _).below⟩
 · have hb : bits .and .u64 ((v : Int) / 4) 4095 = ((v / 4 % 4096 : Nat) : Int) := by
     have h := and_mod (x := v / 4) (n := 12) (by omega) (by omega)
     rw [show (((2 ^ 12 - 1 : Nat) : Int)) = 4095 from rfl, show (2 : Nat) ^ 12 = 4096 from rfl] at h
     rw [show ((v / 4 : Nat) : Int) = (v : Int) / 4 by omega] at h
     rw [h]
     first | done | omega
   have hlt : v / 4 % 4096 < 16777216 := by omega
   generalize v / 4 % 4096 = x at *
   go_enter Tryz.func232, Tryz.ntmps232
   go_wp2_with fail
   go_quiet (fail)
   go_wp2
   go_ret
   exact ⟨rfl, (hB.out.drewN _).below⟩
 · have hb : bits .and .u64 ((v : Int) / 16384) 3 = ((v / 16384 % 4 : Nat) : Int) := by
     have h := and_mod (x := v / 16384) (n := 2) (by omega) (by omega)
     rw [show (((2 ^ 2 - 1 : Nat) : Int)) = 3 from rfl, show (2 : Nat) ^ 2 = 4 from rfl] at h
     rw [show ((v / 16384 : Nat) : Int) = (v : Int) / 16384 by omega] at h
     rw [h]
     first | done | omega
   have hlt : v / 16384 % 4 < 16777216 := by omega
   generalize v / 16384 % 4 = x at *
   go_enter Tryz.func232, Tryz.ntmps232
   go_wp2_with fail
   go_quiet (fail)
   go_wp2
   go_ret
   exact ⟨rfl, (hB.out.drewN _).below⟩
 · have hb : bits .and .u64 ((v : Int) / 65536) 16777215 = ((v / 65536 % 16777216 : Nat) : Int) := by
     have h := and_mod (x := v / 65536) (n := 24) (by omega) (by omega)
     rw [show (((2 ^ 24 - 1 : Nat) : Int)) = 16777215 from rfl, show (2 : Nat) ^ 24 = 16777216 from rfl] at h
     rw [show ((v / 65536 : Nat) : Int) = (v : Int) / 65536 by omega] at h
     rw [h]
     first | done | omega
   have hlt : v / 65536 % 16777216 < 16777216 := by omega
   generalize v / 65536 % 16777216 = x at *
   go_enter Tryz.func232, Tryz.ntmps232
   go_wp2_with fail
   go_quiet (fail)
   go_wp2
   go_ret
   exact ⟨rfl, (hB.out.drewN _).below⟩
 · have hb : bits .and .u64 ((v : Int) / 1099511627776) 16777215 = ((v / 1099511627776 : Nat) : Int) := by
     have h := and_mod (x := v / 1099511627776) (n := 24) (by omega) (by omega)
     rw [show (((2 ^ 24 - 1 : Nat) : Int)) = 16777215 from rfl, show (2 : Nat) ^ 24 = 16777216 from rfl] at h
     rw [show ((v / 1099511627776 : Nat) : Int) = (v : Int) / 1099511627776 by omega] at h
     rw [h]
     first | done | omega
   have hlt : v / 1099511627776 < 16777216 := by omega
   generalize v / 1099511627776 = x at *
   go_enter Tryz.func232, Tryz.ntmps232
   go_wp2_with fail
   go_quiet (fail)
   go_wp2
   go_ret
   exact ⟨rfl, (hB.out.drewN _).below⟩
theorem hdec (w : World) (hF : Fields w) (v : Nat) (hv : v < 18446744073709551616) : Calls Tryz.prog 187 #[.int .u64 v] w fun e w' => e = .returned (.tuple #[hdVal (decHd v), .int .i64 (if (decode v).isSome then 0 else 7)]) ∧ Below w.heap.size w w' := by
 have hsz := sz_head
 have hdec : decode v = if (hdOf v).may ∧ gapOf v = 0 then some (hdOf v) else none := rfl
 have HFw := uh hF
 obtain ⟨x1, q1, b1⟩ : ∃ x1 : Nat, v % 4 = x1 ∧ x1 < 4 := ⟨_, rfl, by omega⟩
 obtain ⟨x2, q2, b2⟩ : ∃ x2 : Nat, v / 4 % 4096 = x2 ∧ x2 < 4096 := ⟨_, rfl, by omega⟩
 obtain ⟨x3, q3, b3⟩ : ∃ x3 : Nat, v / 65536 % 16777216 = x3 ∧ x3 < 16777216 := ⟨_, rfl, by omega⟩
 obtain ⟨x4, q4, b4⟩ : ∃ x4 : Nat, v / 1099511627776 = x4 ∧ x4 < 16777216 := ⟨_, rfl, by omega⟩
 obtain ⟨x5, q5, b5⟩ : ∃ x5 : Nat, v / 16384 % 4 = x5 ∧ x5 < 4 := ⟨_, rfl, by omega⟩
 unfold hdOf gapOf at hdec
 rw [q1, q2, q3, q4, q5] at hdec
 have Hck := uh (fun W hF => hcheck W hF ⟨x1, x2, x3, x4⟩ ⟨by simp only; omega, by simp only; omega, by simp only; omega, by simp only; omega⟩)
 obtain ⟨ta, tb, tc, td, er, Hv⟩ : ∃ ta tb tc td er, Hid (decHd v = ⟨ta, tb, tc, td⟩ ∧ (if (decode v).isSome = true then (0 : Int) else 7) = er) := ⟨_, _, _, _, _, uh ⟨rfl, rfl⟩⟩
 rw [Hv.out.1, Hv.out.2]
 have Hsome : ∀ h, decode v = some h → h.tag = ta ∧ h.typ = tb ∧ h.len = tc ∧ h.size = td ∧ er = 0 := fun h hh => by
  have h1 := Hv.out
  unfold decHd at h1
  rw [hh] at h1
  obtain ⟨rfl, rfl⟩ := h1
  exact ⟨rfl, rfl, rfl, rfl, rfl⟩
 have Hnone : decode v = none → ta = 0 ∧ tb = 0 ∧ tc = 0 ∧ td = 0 ∧ er = 7 := fun hh => by
  have h1 := Hv.out
  unfold decHd at h1
  rw [hh] at h1
  obtain ⟨h1, rfl⟩ := h1
  cases h1
  exact ⟨rfl, rfl, rfl, rfl, rfl⟩
 clear Hv hF
 have HC := uh (fun W (T : Turn [] w [(w.heap.size + 1, .cells #[.int .u8 0, .int .i64 0, .int .i64 0, .int .i64 0] 79), (w.heap.size, .cells #[.int .u64 v] 47)] W) => (T.cell2 0 : W.cell? ⟨w.heap.size, 0, none⟩ = some (.int .u64 v)))
 have T0 := ((Turn.refl (Has.nil w)).alloc (.cells #[.int .u64 v] 47)).alloc (.cells #[.int .u8 0, .int .i64 0, .int .i64 0, .int .i64 0] 79)
 rw [World.size_alloc] at T0
 have HT := uh T0
 clear T0
 have hoX := hd_one ⟨x1, x2, x3, x4⟩
 have hoZ := hd0_one
 go_enter Tryz.func187, Tryz.ntmps187
 go_upto_region 3 with (first
  | (go_at_call 232; refine (hdecf _ (range_below HFw.out HT.out.below) w.heap.size v hv (HC.out _ HT.out) _ _ (by first | exact .inl ⟨rfl, rfl⟩ | exact .inr (.inl ⟨rfl, rfl⟩) | exact .inr (.inr (.inl ⟨rfl, rfl⟩)) | exact .inr (.inr (.inr (.inl ⟨rfl, rfl⟩))) | exact .inr (.inr (.inr (.inr ⟨rfl, rfl⟩))))).mono ?_; rintro e wn ⟨rfl, hBn⟩; have HTn := uh (HT.out.call hBn); clear HT hBn; have HT := uh HTn.out; clear HTn; simp only [q1, q2, q3, q4])
  | (show sW 79; refine wpList_store_mid rfl 79 _ _ rfl _ 0 #[.int .u8 x1, .int .i64 x2, .int .i64 x3, .int .i64 x4] rfl rfl (HT.out.alloc (.cells #[.int .u8 0, .int .i64 0, .int .i64 0, .int .i64 0] 79)).there1 hsz hoX ?_; have HT5 := uh ((HT.out.alloc (.cells #[.int .u8 0, .int .i64 0, .int .i64 0, .int .i64 0] 79)).laid [.int .u8 x1, .int .i64 x2, .int .i64 x3, .int .i64 x4] rfl); have hr5 := HT5.out.range1; clear HT)
  | fail)
 go_wp2_with (first
  | (show lW 79; refine wpList_load_mid rfl 79 _ rfl wn.heap.size 0 rfl [.int .u8 x1, .int .i64 x2, .int .i64 x3, .int .i64 x4] _ hr5 Tryz.underlying79 rfl hsz ?_)
  | fail)
 refine (Hck.out _ (range_below HFw.out HT5.out.below)).mono ?_
 rintro e w6 ⟨rfl, hB6⟩
 have HT6 := uh (HT5.out.call hB6)
 clear HT5 hr5 hB6 Hck HC
 by_cases hm : (Hd.mk x1 x2 x3 x4).may
 · simp only [if_pos hm]
   by_cases h5 : x5 = 0
   · rw [if_pos ⟨hm, h5⟩] at hdec
     obtain ⟨rfl, rfl, rfl, rfl, rfl⟩ := Hsome _ hdec
     subst h5
     clear hdec hm Hsome Hnone q1 q2 q3 q4
     go_wp2_with (first
      | (go_at_call 232; refine (hdecf _ (range_below HFw.out HT6.out.below) w.heap.size v hv (HT6.out.cell3 0) _ _ (by first | exact .inr (.inr (.inl ⟨rfl, rfl⟩)))).mono ?_; rintro e wn7 ⟨rfl, hBn7⟩; have HT7 := uh (HT6.out.call hBn7); clear HT6 hBn7; simp only [q5])
      | (show lW 79; refine wpList_load_mid rfl 79 _ rfl wn.heap.size 0 rfl [.int .u8 x1, .int .i64 x2, .int .i64 x3, .int .i64 x4] _ HT7.out.range1 Tryz.underlying79 rfl hsz ?_)
      | (show sW 79; refine wpList_store_mid rfl 79 _ _ rfl _ 0 #[.int .u8 x1, .int .i64 x2, .int .i64 x3, .int .i64 x4] rfl rfl HT7.out.there2 hsz hoX ?_; have HT8 := uh (HT7.out.laid2 [.int .u8 x1, .int .i64 x2, .int .i64 x3, .int .i64 x4] rfl))
      | fail)
     refine bodyPost_ret (res_two Tryz.results187 _ _ _ _ _ rfl HT8.out.range2 Tryz.underlying79 rfl hsz) rfl ⟨rfl, HT8.out.below⟩
   · rw [if_neg (fun h => h5 h.2)] at hdec
     obtain ⟨rfl, rfl, rfl, rfl, rfl⟩ := Hnone hdec
     have h5' : ¬ (x5 : Int) = 0 := by omega
     have h5b : ((x5 : Int) != 0) = true := by rw [bne_iff_ne]; exact h5'
     clear hdec hm Hsome Hnone q1 q2 q3 q4 h5
     go_wp2_with (first
      | (go_at_call 232; refine (hdecf _ (range_below HFw.out HT6.out.below) w.heap.size v hv (HT6.out.cell3 0) _ _ (by first | exact .inr (.inr (.inl ⟨rfl, rfl⟩)))).mono ?_; rintro e wn7 ⟨rfl, hBn7⟩; have HT7 := uh (HT6.out.call hBn7); clear HT6 hBn7; simp only [q5])
      | (show sW 79; refine wpList_store_mid rfl 79 _ _ rfl _ 0 #[.int .u8 0, .int .i64 0, .int .i64 0, .int .i64 0] rfl rfl HT7.out.there2 hsz hoZ ?_; have HT8 := uh (HT7.out.laid2 [.int .u8 0, .int .i64 0, .int .i64 0, .int .i64 0] rfl))
      | fail)
     refine bodyPost_ret (res_two Tryz.results187 _ _ _ _ _ rfl HT8.out.range2 Tryz.underlying79 rfl hsz) rfl ⟨rfl, HT8.out.below⟩
 · simp only [if_neg hm]
   rw [if_neg (fun h => hm h.1)] at hdec
   obtain ⟨rfl, rfl, rfl, rfl, rfl⟩ := Hnone hdec
   clear hdec hm Hsome Hnone q1 q2 q3 q4
   go_wp2_with (first
    | (show sW 79; refine wpList_store_mid rfl 79 _ _ rfl _ 0 #[.int .u8 0, .int .i64 0, .int .i64 0, .int .i64 0] rfl rfl HT6.out.there2 hsz hoZ ?_; have HT8 := uh (HT6.out.laid2 [.int .u8 0, .int .i64 0, .int .i64 0, .int .i64 0] rfl))
    | fail)
   refine bodyPost_ret (res_two Tryz.results187 _ _ _ _ _ rfl HT8.out.range2 Tryz.underlying79 rfl hsz) rfl ⟨rfl, HT8.out.below⟩
theorem or_add {a v k : Nat} (ha : a < 2 ^ k) (hv : v * 2 ^ k + a < 18446744073709551616) : bits .or .u64 (a : Int) ((v * 2 ^ k : Nat) : Int) = ((a + v * 2 ^ k : Nat) : Int) := by
 have h := u64_or_nat a (v * 2 ^ k) (by omega) (by omega)
 rw [h]
 have h2 := Nat.two_pow_add_eq_or_of_lt (i := k) (b := a) ha v
 rw [Nat.or_comm, Nat.mul_comm v, ← h2, Nat.add_comm]
theorem hlay {l L : List Blk} {w0 : World} (w : World) (hF : Fields w) (b a v : Nat) (T : Turn l w0 ((b, .cells #[.int .u64 a] 47) :: L) w) (f : Int) (z : Nat)
  (h : f = 0 ∧ a < 1 ∧ v < 4 ∧ z = a + v * 1 ∨ f = 1 ∧ a < 4 ∧ v < 4096 ∧ z = a + v * 4 ∨ f = 3 ∧ a < 65536 ∧ v < 16777216 ∧ z = a + v * 65536 ∨ f = 4 ∧ a < 1099511627776 ∧ v < 16777216 ∧ z = a + v * 1099511627776) :
  Calls Tryz.prog 205 #[.int .i64 f, .int .i64 v, .pointer (some ⟨b, 0, none⟩)] w fun e w' => (∃ u, e = .returned u) ∧ Turn l w0 ((b, .cells #[.int .u64 z] 47) :: L) w' := by
 have c0 := fields_at hF (i := 0) rfl
 have c2 := fields_at hF (i := 2) rfl
 have c6 := fields_at hF (i := 6) rfl
 have c8 := fields_at hF (i := 8) rfl
 have hc : w.cell? ⟨b, 0, none⟩ = some (.int .u64 a) := T.cell1 0
 have hf : w.frozen? ⟨b, 0, none⟩ = false := T.free1 0
 have hT := uh T
 clear hF T
 rcases h with ⟨rfl, h1, h2, rfl⟩ | ⟨rfl, h1, h2, rfl⟩ | ⟨rfl, h1, h2, rfl⟩ | ⟨rfl, h1, h2, rfl⟩
 · have hb : bits .or .u64 (a : Int) ((v : Int)) = ((a + v * 1 : Nat) : Int) := by
     have h := or_add (a := a) (v := v) (k := 0) (by simp only [Nat.reducePow]; omega) (by simp only [Nat.reducePow]; omega)
     rw [show (2 : Nat) ^ 0 = 1 from rfl] at h
     rw [show ((v * 1 : Nat) : Int) = (v : Int) by omega] at h
     exact h
   have hz : a + v * 1 < 18446744073709551616 := by omega
   rw [show a + v * 1 = a + v * 1 from rfl]
   generalize hzz : a + v * 1 = z at *
   clear hzz
   have Hb := uh hb
   clear hb
   go_enter Tryz.func205, Tryz.ntmps205
   go_wp2_with fail
   go_still_tail 9, (by kernel_rfl)
   change wpList _ _ _ _ _ w.drew
   go_wp2
   go_end0
   refine ⟨⟨_, rfl⟩, ?_⟩
   rw [Hb.out]
   exact (hT.out.setCell 0 (.int .u64 z)).drew
 · have hb : bits .or .u64 (a : Int) ((v : Int) * 4) = ((a + v * 4 : Nat) : Int) := by
     have h := or_add (a := a) (v := v) (k := 2) (by simp only [Nat.reducePow]; omega) (by simp only [Nat.reducePow]; omega)
     rw [show (2 : Nat) ^ 2 = 4 from rfl] at h
     rw [show ((v * 4 : Nat) : Int) = (v : Int) * 4 by omega] at h
     exact h
   have hz : a + v * 4 < 18446744073709551616 := by omega
   rw [show a + v * 4 = a + v * 4 from rfl]
   generalize hzz : a + v * 4 = z at *
   clear hzz
   have Hb := uh hb
   clear hb
   go_enter Tryz.func205, Tryz.ntmps205
   go_wp2_with fail
   go_still_tail 9, (by kernel_rfl)
   change wpList _ _ _ _ _ w.drew
   go_wp2
   go_end0
   refine ⟨⟨_, rfl⟩, ?_⟩
   rw [Hb.out]
   exact (hT.out.setCell 0 (.int .u64 z)).drew
 · have hb : bits .or .u64 (a : Int) ((v : Int) * 65536) = ((a + v * 65536 : Nat) : Int) := by
     have h := or_add (a := a) (v := v) (k := 16) (by simp only [Nat.reducePow]; omega) (by simp only [Nat.reducePow]; omega)
     rw [show (2 : Nat) ^ 16 = 65536 from rfl] at h
     rw [show ((v * 65536 : Nat) : Int) = (v : Int) * 65536 by omega] at h
     exact h
   have hz : a + v * 65536 < 18446744073709551616 := by omega
   rw [show a + v * 65536 = a + v * 65536 from rfl]
   generalize hzz : a + v * 65536 = z at *
   clear hzz
   have Hb := uh hb
   clear hb
   go_enter Tryz.func205, Tryz.ntmps205
   go_wp2_with fail
   go_still_tail 9, (by kernel_rfl)
   change wpList _ _ _ _ _ w.drew
   go_wp2
   go_end0
   refine ⟨⟨_, rfl⟩, ?_⟩
   rw [Hb.out]
   exact (hT.out.setCell 0 (.int .u64 z)).drew
 · have hb : bits .or .u64 (a : Int) ((v : Int) * 1099511627776) = ((a + v * 1099511627776 : Nat) : Int) := by
     have h := or_add (a := a) (v := v) (k := 40) (by simp only [Nat.reducePow]; omega) (by simp only [Nat.reducePow]; omega)
     rw [show (2 : Nat) ^ 40 = 1099511627776 from rfl] at h
     rw [show ((v * 1099511627776 : Nat) : Int) = (v : Int) * 1099511627776 by omega] at h
     exact h
   have hz : a + v * 1099511627776 < 18446744073709551616 := by omega
   rw [show a + v * 1099511627776 = a + v * 1099511627776 from rfl]
   generalize hzz : a + v * 1099511627776 = z at *
   clear hzz
   have Hb := uh hb
   clear hb
   go_enter Tryz.func205, Tryz.ntmps205
   go_wp2_with fail
   go_still_tail 9, (by kernel_rfl)
   change wpList _ _ _ _ _ w.drew
   go_wp2
   go_end0
   refine ⟨⟨_, rfl⟩, ?_⟩
   rw [Hb.out]
   exact (hT.out.setCell 0 (.int .u64 z)).drew
theorem henc (w : World) (hF : Fields w) (h : Hd) (hm : h.may) : Calls Tryz.prog 150 #[hdVal h] w fun e w' => e = .returned (.tuple #[.int .u64 (h.word : Nat), .int .i64 0]) ∧ Below w.heap.size w w' := by
 have hsz := sz_head
 have HFw := uh hF
 have hin : HdIn h := by
  obtain ⟨m1, m2, m3, m4⟩ := hm
  exact ⟨by omega, by omega, by omega, by omega⟩
 have Hck := uh (fun W hF => hcheck W hF h hin)
 rw [if_pos hm] at Hck
 obtain ⟨a, b, c, d⟩ := h
 obtain ⟨m1, m2, m3, m4⟩ := hm
 simp only at m1 m2 m3 m4
 have ha : a < 4 ∧ b < 4096 := by omega
 obtain ⟨z1, q1⟩ : ∃ z, z = 0 + a * 1 := ⟨_, rfl⟩
 obtain ⟨z2, q2⟩ : ∃ z, z = z1 + b * 4 := ⟨_, rfl⟩
 obtain ⟨z3, q3⟩ : ∃ z, z = z2 + c * 65536 := ⟨_, rfl⟩
 obtain ⟨z4, q4⟩ : ∃ z, z = z3 + d * 1099511627776 := ⟨_, rfl⟩
 have hw : (Hd.mk a b c d).word = z4 := by unfold Hd.word; simp only; omega
 rw [hw]
 have P0 := uh (show 0 < 1 ∧ a < 4 ∧ z1 = 0 + a * 1 from ⟨by omega, by omega, q1⟩)
 have P1 := uh (show z1 < 4 ∧ b < 4096 ∧ z2 = z1 + b * 4 from ⟨by omega, by omega, q2⟩)
 have P3 := uh (show z2 < 65536 ∧ c < 16777216 ∧ z3 = z2 + c * 65536 from ⟨by omega, by omega, q3⟩)
 have P4 := uh (show z3 < 1099511627776 ∧ d < 16777216 ∧ z4 = z3 + d * 1099511627776 from ⟨by omega, by omega, q4⟩)
 clear q1 q2 q3 q4 hw m4 hin hF
 have tok0 : True := trivial
 have tok1 : True := trivial
 have tok3 : True := trivial
 have tok4 : True := trivial
 have T0 := (Turn.refl (Has.nil w)).alloc (.cells #[.int .u8 a, .int .i64 b, .int .i64 c, .int .i64 d] 79)
 have hr0 := T0.range1
 have HT0 := uh T0
 clear T0
 go_enter Tryz.func150, Tryz.ntmps150
 go_wp2_with fail
 refine (Hck.out _ (range_below HFw.out HT0.out.below)).mono ?_
 rintro e w1 ⟨rfl, hB1⟩
 have T1 := (HT0.out.call hB1).alloc (.cells #[.int .u64 0] 47)
 have c0 := T1.cell2 0
 have HT : Hid (Turn [] w [(w1.heap.size, .cells #[.int .u64 ((0 : Nat) : Int)] 47), (w.heap.size, .cells #[.int .u8 a, .int .i64 b, .int .i64 c, .int .i64 d] 79)] (w1.alloc (.cells #[.int .u64 0] 47))) := uh T1
 clear T1 hB1 HT0 hr0 Hck
 go_wp2_with (first
  | (go_at_call 205; have tk := tok0; refine (hlay _ (range_below HFw.out HT.out.below) _ _ a HT.out 0 z1 (.inl ⟨rfl, P0.out⟩)).mono ?_; rintro e wn0 ⟨⟨u0, rfl⟩, hTn⟩; have HTn := uh hTn; clear HT hTn tok0 tk; have HT := uh HTn.out; clear HTn; have c0 := HT.out.cell2 0; have c1 := HT.out.cell2 1; have c2 := HT.out.cell2 2; have c3 := HT.out.cell2 3; have cw := HT.out.cell1 0)
  | (go_at_call 205; have tk := tok1; refine (hlay _ (range_below HFw.out HT.out.below) _ _ b HT.out 1 z2 (.inr (.inl ⟨rfl, P1.out⟩))).mono ?_; rintro e wn1 ⟨⟨u1, rfl⟩, hTn⟩; have HTn := uh hTn; clear HT hTn tok1 tk; have HT := uh HTn.out; clear HTn; have c0 := HT.out.cell2 0; have c1 := HT.out.cell2 1; have c2 := HT.out.cell2 2; have c3 := HT.out.cell2 3; have cw := HT.out.cell1 0)
  | (go_at_call 205; have tk := tok3; refine (hlay _ (range_below HFw.out HT.out.below) _ _ c HT.out 3 z3 (.inr (.inr (.inl ⟨rfl, P3.out⟩)))).mono ?_; rintro e wn3 ⟨⟨u3, rfl⟩, hTn⟩; have HTn := uh hTn; clear HT hTn tok3 tk; have HT := uh HTn.out; clear HTn; have c0 := HT.out.cell2 0; have c1 := HT.out.cell2 1; have c2 := HT.out.cell2 2; have c3 := HT.out.cell2 3; have cw := HT.out.cell1 0)
  | (go_at_call 205; have tk := tok4; refine (hlay _ (range_below HFw.out HT.out.below) _ _ d HT.out 4 z4 (.inr (.inr (.inr ⟨rfl, P4.out⟩)))).mono ?_; rintro e wn4 ⟨⟨u4, rfl⟩, hTn⟩; have HTn := uh hTn; clear HT hTn tok4 tk; have HT := uh HTn.out; clear HTn; have c0 := HT.out.cell2 0; have c1 := HT.out.cell2 1; have c2 := HT.out.cell2 2; have c3 := HT.out.cell2 3; have cw := HT.out.cell1 0)
  | fail)
 refine bodyPost_ret (results_tmp2 rfl _ _ _) rfl ?_
 exact ⟨rfl, HT.out.below⟩
structure TabAt (w : World) (t : Nat) (ao : Option Addr) (cap : Nat) (L : List Ty) : Prop where
 c0 : w.cell? ⟨t, 0, none⟩ = some (.slice ao L.length cap)
 src : Src w ao L.length cap 3 (tys L)
theorem TabAt.below {w w' : World} {t : Nat} {ao : Option Addr} {cap : Nat} {L : List Ty} (h : TabAt w t ao cap L) (hk : Below w.heap.size w w') : TabAt w' t ao cap L :=
 ⟨(hk.cell (p := ⟨t, 0, none⟩) (World.block_lt_of_cell? w _ h.c0)).trans h.c0, h.src.below hk⟩
theorem tat (w : World) (L : List Ty) (tb : Nat) (ao : Option Addr) (cap : Nat) (hT : TabAt w tb ao cap L) (hL : L.length ≤ 1000) (id : Int) :
  Calls Tryz.prog 188 #[.pointer (some ⟨tb, 0, none⟩), .int .i64 id] w fun e w' => e = .returned (.tuple #[tyVal (tyAt L id), .bool (getTy L id).isSome]) ∧ Below w.heap.size w w' := by
 have hsz := sz_type
 have T1 := (Turn.refl (Has.nil w)).alloc (.cells #[.int .u8 0, .int .i64 0, .int .u64 0] 49)
 have hth : (w.alloc (.cells #[.int .u8 0, .int .i64 0, .int .u64 0] 49)).there w.heap.size 0 3 := T1.there1
 have hr0 := T1.range1
 have hT1 := hT.below T1.below
 have d0 := hT1.c0
 have hS := hT1.src
 unfold tyAt
 clear hT hT1
 cases hg : getTy L id with
 | none =>
  have hid := getTy_none hg
  have T2 := T1.laid [.int .u8 0, .int .i64 0, .int .u64 0] rfl
  have HT2 := uh T2
  have ho1 := ty_one ⟨0, 0, 0⟩
  clear hg T1 T2 hS
  rcases hid with hid | hid
  · have e1 : decide (id < 1) = true := decide_eq_true hid
    go_enter Tryz.func188, Tryz.ntmps188
    go_wp2_with (first
     | (show lW 49; refine wpList_load_mid rfl 49 _ rfl w.heap.size 0 rfl [.int .u8 0, .int .i64 0, .int .u64 0] _ hr0 Tryz.underlying49 rfl hsz ?_)
     | (show sW 49; refine wpList_store_mid rfl 49 _ _ rfl _ 0 #[.int .u8 0, .int .i64 0, .int .u64 0] rfl rfl hth hsz ho1 ?_)
     | fail)
    refine bodyPost_ret (res_two Tryz.results188 _ _ _ _ _ rfl HT2.out.range1 Tryz.underlying49 rfl hsz) rfl ⟨rfl, HT2.out.below⟩
  · have e1 : decide (id < 1) = false := decide_eq_false (by omega)
    have e2 : decide ((L.length : Int) < id) = true := decide_eq_true hid
    have e3 : ¬ id < 1 := by omega
    go_enter Tryz.func188, Tryz.ntmps188
    go_wp2_with (first
     | (show lW 49; refine wpList_load_mid rfl 49 _ rfl w.heap.size 0 rfl [.int .u8 0, .int .i64 0, .int .u64 0] _ hr0 Tryz.underlying49 rfl hsz ?_)
     | (show sW 49; refine wpList_store_mid rfl 49 _ _ rfl _ 0 #[.int .u8 0, .int .i64 0, .int .u64 0] rfl rfl hth hsz ho1 ?_)
     | fail)
    refine bodyPost_ret (res_two Tryz.results188 _ _ _ _ _ rfl HT2.out.range1 Tryz.underlying49 rfl hsz) rfl ⟨rfl, HT2.out.below⟩
 | some t =>
  obtain ⟨i, rfl, hi, hlt⟩ := getTy_some hg
  have hi1 : i ≤ 1000 := by omega
  obtain ⟨b, off, rfl, -⟩ := hS.form (by rw [tys_length]; omega)
  have hrg := hS.ty hi
  obtain ⟨k, m, mk⟩ := t
  have T2 := T1.laid (tyCells ⟨k, m, mk⟩) rfl
  have HT2 := uh T2
  have ho1 := ty_one ⟨k, m, mk⟩
  have e1 : decide (((i : Int) + 1) < 1) = false := decide_eq_false (by omega)
  have e2 : decide ((L.length : Int) < (i : Int) + 1) = false := decide_eq_false (by omega)
  have e3 : (i : Int) < (L.length : Int) := by omega
  have e4 : ¬ ((L.length : Int) < (i : Int) + 1) := by omega
  clear hg T1 T2 hS hi
  go_enter Tryz.func188, Tryz.ntmps188
  go_wp2_with (first
   | (show lW 49; refine wpList_load_mid rfl 49 _ rfl b (off + i * 3) rfl [.int .u8 k, .int .i64 m, .int .u64 mk] _ hrg Tryz.underlying49 rfl hsz ?_)
   | (show sW 49; refine wpList_store_mid rfl 49 _ _ rfl _ 0 #[.int .u8 k, .int .i64 m, .int .u64 mk] rfl rfl hth hsz ho1 ?_)
   | fail)
  refine bodyPost_ret (res_two Tryz.results188 _ _ _ _ _ rfl HT2.out.range1 Tryz.underlying49 rfl hsz) rfl ⟨rfl, HT2.out.below⟩
theorem tget (w : World) (L : List Ty) (tb : Nat) (ao : Option Addr) (cap : Nat) (hT : TabAt w tb ao cap L) (hL : L.length ≤ 1000) (id : Int) :
  Calls Tryz.prog 127 #[.pointer (some ⟨tb, 0, none⟩), .int .i64 id] w fun e w' => e = .returned (.tuple #[tyVal (tyAt L id), .int .i64 (if (getTy L id).isSome then 0 else 3)]) ∧ Below w.heap.size w w' := by
 have hsz := sz_type
 have T1 := (Turn.refl (Has.nil w)).alloc (.cells #[.int .u8 0, .int .i64 0, .int .u64 0] 49)
 have Hat := uh (tat _ L tb ao cap (hT.below T1.below) hL id)
 have HT1 := uh T1
 have hz : (getTy L id).isSome = false → tyAt L id = ⟨0, 0, 0⟩ := fun h => by
  unfold tyAt
  cases hg : getTy L id with
  | none => rfl
  | some t => rw [hg] at h; cases h
 generalize tyAt L id = t at *
 generalize (getTy L id).isSome = bs at *
 clear T1 hT
 obtain ⟨k, m, mk⟩ := t
 have ho := ty_one ⟨k, m, mk⟩
 cases bs
 · have hzz := hz rfl
   cases hzz
   go_enter Tryz.func127, Tryz.ntmps127
   go_wp2_with fail
   refine Hat.out.mono ?_
   rintro e w1 ⟨rfl, hB1⟩
   have T2 := (HT1.out.call hB1).alloc (.cells #[.int .u8 0, .int .i64 0, .int .u64 0] 49)
   have HT2 := uh (T2.laid [.int .u8 0, .int .i64 0, .int .u64 0] rfl)
   have hthA : (w1.alloc (.cells #[.int .u8 0, .int .i64 0, .int .u64 0] 49)).there w1.heap.size 0 3 := T2.there1
   have HT3 := uh (HT2.out.laid2 [.int .u8 0, .int .i64 0, .int .u64 0] rfl)
   clear T2 hB1 HT1 Hat
   go_wp2_with (first
    | (show sW 49; refine wpList_store_mid rfl 49 _ _ rfl _ 0 #[.int .u8 0, .int .i64 0, .int .u64 0] rfl rfl hthA hsz ho ?_; clear hthA)
    | (show sW 49; refine wpList_store_mid rfl 49 _ _ rfl _ 0 #[.int .u8 0, .int .i64 0, .int .u64 0] rfl rfl HT2.out.there2 hsz ho ?_)
    | fail)
   refine bodyPost_ret (res_two Tryz.results127 _ _ _ _ _ rfl HT3.out.range2 Tryz.underlying49 rfl hsz) rfl ⟨rfl, HT3.out.below⟩
 · clear hz
   go_enter Tryz.func127, Tryz.ntmps127
   go_wp2_with fail
   refine Hat.out.mono ?_
   rintro e w1 ⟨rfl, hB1⟩
   have T2 := (HT1.out.call hB1).alloc (.cells #[.int .u8 0, .int .i64 0, .int .u64 0] 49)
   have HT2 := uh (T2.laid [.int .u8 k, .int .i64 m, .int .u64 mk] rfl)
   have hr2 := HT2.out.range1
   have hthA : (w1.alloc (.cells #[.int .u8 0, .int .i64 0, .int .u64 0] 49)).there w1.heap.size 0 3 := T2.there1
   have HT3 := uh (HT2.out.laid2 [.int .u8 k, .int .i64 m, .int .u64 mk] rfl)
   clear T2 hB1 HT1 Hat
   go_wp2_with (first
    | (show sW 49; refine wpList_store_mid rfl 49 _ _ rfl _ 0 #[.int .u8 k, .int .i64 m, .int .u64 mk] rfl rfl hthA hsz ho ?_; clear hthA)
    | (show lW 49; refine wpList_load_mid rfl 49 _ rfl w1.heap.size 0 rfl [.int .u8 k, .int .i64 m, .int .u64 mk] _ hr2 Tryz.underlying49 rfl hsz ?_)
    | (show sW 49; refine wpList_store_mid rfl 49 _ _ rfl _ 0 #[.int .u8 k, .int .i64 m, .int .u64 mk] rfl rfl HT2.out.there2 hsz ho ?_)
    | fail)
   refine bodyPost_ret (res_two Tryz.results127 _ _ _ _ _ rfl HT3.out.range2 Tryz.underlying49 rfl hsz) rfl ⟨rfl, HT3.out.below⟩
theorem tsize (w : World) (L : List Ty) (hT : ∀ t ∈ L, TyIn t) (hL : L.length ≤ 1000) (tb : Nat) (ao : Option Addr) (cap : Nat) (hS : TabAt w tb ao cap L) (id n : Int) :
  Calls Tryz.prog 148 #[.pointer (some ⟨tb, 0, none⟩), .int .i64 id, .int .i64 n] w fun e w' => e = .returned (.tuple #[.int .i64 (tySize L id n : Nat), .int .i64 (tyErr L id n)]) ∧ Below w.heap.size w w' := by
 have hsz := sz_type
 have Hg := uh (tget w L tb ao cap hS hL id)
 unfold tySize tyErr
 unfold tyAt at Hg
 clear hS
 cases hg : getTy L id with
 | none =>
  rw [hg] at Hg
  go_enter Tryz.func148, Tryz.ntmps148
  go_wp2_with fail
  refine Hg.out.mono ?_
  rintro e w1 ⟨rfl, hB1⟩
  have T1 := (Turn.of_below (Has.nil w) hB1).alloc (.cells #[.int .u8 0, .int .i64 0, .int .u64 0] 49)
  have hth : (w1.alloc (.cells #[.int .u8 0, .int .i64 0, .int .u64 0] 49)).there w1.heap.size 0 3 := T1.there1
  have HT2 := uh (T1.laid [.int .u8 0, .int .i64 0, .int .u64 0] rfl)
  have ho := ty_one ⟨0, 0, 0⟩
  clear T1 hB1 Hg
  go_wp2_with (first
   | (show sW 49; refine wpList_store_mid rfl 49 _ _ rfl _ 0 #[.int .u8 0, .int .i64 0, .int .u64 0] rfl rfl hth hsz ho ?_)
   | fail)
  refine bodyPost_ret (results_tmp2 rfl _ _ _) rfl ?_
  exact ⟨rfl, HT2.out.below⟩
 | some t =>
  rw [hg] at Hg
  obtain ⟨i, rfl, hi, hlt⟩ := getTy_some hg
  have Hsz := uh (fun W => ksize W t (hT t (List.mem_of_getElem? hi)) n)
  obtain ⟨k, m, mk⟩ := t
  obtain ⟨s, Hs⟩ : ∃ s : Nat, Hid ((if (Ty.mk k m mk).err n = 0 then (((Ty.mk k m mk).size n.toNat : Nat) : Int) else 0) = s ∧ (if (Ty.mk k m mk).err n = 0 then (Ty.mk k m mk).size n.toNat else 0) = s) := ⟨_, uh ⟨by split <;> rfl, rfl⟩⟩
  rw [Hs.out.1] at Hsz
  simp only [Hs.out.2]
  clear Hs
  generalize (Ty.mk k m mk).err n = er at *
  clear hg hi hlt hT
  go_enter Tryz.func148, Tryz.ntmps148
  go_wp2_with fail
  refine Hg.out.mono ?_
  rintro e w1 ⟨rfl, hB1⟩
  simp only [Option.getD_some, Option.isSome_some, if_true]
  have T1 := (Turn.of_below (Has.nil w) hB1).alloc (.cells #[.int .u8 0, .int .i64 0, .int .u64 0] 49)
  have hth : (w1.alloc (.cells #[.int .u8 0, .int .i64 0, .int .u64 0] 49)).there w1.heap.size 0 3 := T1.there1
  have T2 := T1.laid (tyCells ⟨k, m, mk⟩) rfl
  have hr2 := T2.range1
  have HT2 := uh T2
  have ho := ty_one ⟨k, m, mk⟩
  clear T1 T2 hB1 Hg
  go_wp2_with (first
   | (show sW 49; refine wpList_store_mid rfl 49 _ _ rfl _ 0 #[.int .u8 k, .int .i64 m, .int .u64 mk] rfl rfl hth hsz ho ?_)
   | (show lW 49; refine wpList_load_mid rfl 49 _ rfl w1.heap.size 0 rfl [.int .u8 k, .int .i64 m, .int .u64 mk] _ hr2 Tryz.underlying49 rfl hsz ?_)
   | (go_at_call 204; refine (Hsz.out _).mono ?_; rintro e w3 ⟨rfl, hB3⟩; have HB3 := uh (HT2.out.call hB3).below; clear hB3)
   | fail)
  refine bodyPost_ret (results_tmp2 rfl _ _ _) rfl ?_
  exact ⟨rfl, HB3.out⟩
theorem hof (w : World) (L : List Ty) (hT : ∀ t ∈ L, TyIn t) (hL : L.length ≤ 1000) (tb : Nat) (ao : Option Addr) (cap : Nat) (hS : TabAt w tb ao cap L) (id n : Int) :
  Calls Tryz.prog 64 #[.pointer (some ⟨tb, 0, none⟩), .int .i64 id, .int .i64 n] w fun e w' => e = .returned (.tuple #[.agg (ofCells L id n).toArray, .int .i64 (tyErr L id n)]) ∧ Below w.heap.size w w' := by
 have hsz := sz_head
 have T1 := (Turn.refl (Has.nil w)).alloc (.cells #[.int .u8 0, .int .i64 0, .int .i64 0, .int .i64 0] 79)
 have Hs := uh (tsize _ L hT hL tb ao cap (hS.below T1.below) id n)
 have HT1 := uh T1
 unfold ofCells
 generalize tySize L id n = s at *
 generalize tyErr L id n = er at *
 clear T1 hS hT
 by_cases he : er = 0
 · subst he
   rw [if_pos rfl]
   go_enter Tryz.func64, Tryz.ntmps64
   go_wp2_with fail
   refine Hs.out.mono ?_
   rintro e w1 ⟨rfl, hB1⟩
   have T2 := HT1.out.call hB1
   have hth : w1.there w.heap.size 0 4 := T2.there1
   have HT3 := uh (T2.laid [.int .u8 1, .int .i64 id, .int .i64 n, .int .i64 s] rfl)
   have ho : (#[.int .u8 1, .int .i64 id, .int .i64 n, .int .i64 s] : Array Value).all (·.oneCell') = true := all_one (cs := [.int .u8 1, .int .i64 id, .int .i64 n, .int .i64 s]) (by simp [Value.oneCell'])
   clear T2 hB1 HT1 Hs
   go_wp2_with (first
    | (show sW 79; refine wpList_store_mid rfl 79 _ _ rfl _ 0 #[.int .u8 1, .int .i64 id, .int .i64 n, .int .i64 s] rfl rfl hth hsz ho ?_)
    | fail)
   refine bodyPost_ret (res_two Tryz.results64 _ _ _ _ _ rfl HT3.out.range1 Tryz.underlying79 rfl hsz) rfl ⟨rfl, HT3.out.below⟩
 · rw [if_neg he]
   go_enter Tryz.func64, Tryz.ntmps64
   go_wp2_with fail
   refine Hs.out.mono ?_
   rintro e w1 ⟨rfl, hB1⟩
   have T2 := HT1.out.call hB1
   have hth : w1.there w.heap.size 0 4 := T2.there1
   have HT3 := uh (T2.laid [.int .u8 0, .int .i64 0, .int .i64 0, .int .i64 0] rfl)
   have ho := hd0_one
   clear T2 hB1 HT1 Hs
   go_wp2_with (first
    | (show sW 79; refine wpList_store_mid rfl 79 _ _ rfl _ 0 #[.int .u8 0, .int .i64 0, .int .i64 0, .int .i64 0] rfl rfl hth hsz ho ?_)
    | fail)
   refine bodyPost_ret (res_two Tryz.results64 _ _ _ _ _ rfl HT3.out.range1 Tryz.underlying79 rfl hsz) rfl ⟨rfl, HT3.out.below⟩
theorem hfits (w : World) (hF : Fields w) (L : List Ty) (hT : ∀ t ∈ L, TyIn t) (hL : L.length ≤ 1000) (tb : Nat) (ao : Option Addr) (cap : Nat) (hS : TabAt w tb ao cap L) (h : Hd) (hi : HdIn h) :
  Calls Tryz.prog 128 #[.pointer (some ⟨tb, 0, none⟩), hdVal h] w fun e w' => e = .returned (.int .i64 (fitErr L h)) ∧ Below w.heap.size w w' := by
 have hsz := sz_head
 have T1 := (Turn.refl (Has.nil w)).alloc (.cells #[.int .u8 h.tag, .int .i64 h.typ, .int .i64 h.len, .int .i64 h.size] 79)
 have hr1 := T1.range1
 have Hck := uh (hcheck _ (range_below hF T1.below) h hi)
 have Hof := uh (fun (w2 : World) (hB : Below (w.alloc (.cells #[.int .u8 h.tag, .int .i64 h.typ, .int .i64 h.len, .int .i64 h.size] 79)).heap.size (w.alloc (.cells #[.int .u8 h.tag, .int .i64 h.typ, .int .i64 h.len, .int .i64 h.size] 79)) w2) => hof w2 L hT hL tb ao cap ((hS.below ((Turn.refl (Has.nil w)).alloc (.cells #[.int .u8 h.tag, .int .i64 h.typ, .int .i64 h.len, .int .i64 h.size] 79)).below).below hB) h.typ h.len)
 have HT1 := uh T1
 clear T1 hS hT hF
 unfold fitErr
 by_cases hm : h.may
 · rw [if_pos hm] at Hck
   rw [if_neg (by simpa using hm)]
   by_cases ht : h.tag = 1
   · rw [if_neg (by simpa using ht)]
     have hld := hd_one ⟨0, 0, 0, 0⟩
     unfold ofCells at Hof
     generalize tyErr L h.typ h.len = er at *
     generalize tySize L h.typ h.len = s at *
     obtain ⟨tg, b, c, d⟩ := h
     simp only at ht
     subst ht
     clear hm hi
     by_cases he : er = 0
     · subst he
       simp only [if_true] at Hof
       have ho : (#[.int .u8 1, .int .i64 b, .int .i64 c, .int .i64 s] : Array Value).all (·.oneCell') = true := all_one (cs := [.int .u8 1, .int .i64 b, .int .i64 c, .int .i64 s]) (by simp [Value.oneCell'])
       have heq := fun w => equalIn_hd w 1 b c s 1 b c d
       by_cases hs : s = d
       · rw [if_pos ⟨rfl, hs⟩]
         have hs2 : ((s : Int) == (d : Int)) = true := by rw [beq_iff_eq]; omega
         subst hs
         go_enter Tryz.func128, Tryz.ntmps128
         go_wp2_with fail
         refine Hck.out.mono ?_
         rintro e w2 ⟨rfl, hB2⟩
         have T2 := HT1.out.call hB2
         have c0 := T2.cell1 0
         have c1 := T2.cell1 1
         have c2 := T2.cell1 2
         have Hof2 := uh (Hof.out w2 hB2)
         have HT2 := uh T2
         clear T2 hB2 HT1 Hck Hof hr1
         go_wp2_with fail
         refine Hof2.out.mono ?_
         rintro e w3 ⟨rfl, hB3⟩
         have T3 := (HT2.out.call hB3).alloc (.cells #[.int .u8 0, .int .i64 0, .int .i64 0, .int .i64 0] 79)
         have hth : (w3.alloc (.cells #[.int .u8 0, .int .i64 0, .int .i64 0, .int .i64 0] 79)).there w3.heap.size 0 4 := T3.there1
         have T4 := T3.laid [.int .u8 1, .int .i64 b, .int .i64 c, .int .i64 s] rfl
         have hr4 := T4.range1
         have hr5 := T4.range2
         have HT4 := uh T4.below
         clear T3 T4 hB3 HT2 Hof2 c0 c1 c2
         go_wp2_with (first
          | (show sW 79; refine wpList_store_mid rfl 79 _ _ rfl _ 0 #[.int .u8 1, .int .i64 b, .int .i64 c, .int .i64 s] rfl rfl hth hsz ho ?_)
          | (show lW 79; refine wpList_load_g 79 _ rfl (by rfl) w3.heap.size 0 rfl [.int .u8 1, .int .i64 b, .int .i64 c, .int .i64 s] _ hr4 Tryz.underlying79 rfl hsz ?_)
          | (show lW 79; refine wpList_load_g 79 _ rfl (by rfl) w.heap.size 0 rfl [.int .u8 1, .int .i64 b, .int .i64 c, .int .i64 s] _ hr5 Tryz.underlying79 rfl hsz ?_)
          | fail)
         go_ret
         exact ⟨rfl, HT4.out⟩
       · rw [if_neg (fun h => hs h.2)]
         have hs2 : ((s : Int) == (d : Int)) = false := by rw [beq_eq_false_iff_ne]; omega
         have hs3 : ¬ (s : Int) = (d : Int) := by omega
         have hs4 : ¬ (s = d) := hs
         simp only [hs2, Bool.and_false, beq_self_eq_true] at heq
         clear hs
         go_enter Tryz.func128, Tryz.ntmps128
         go_wp2_with fail
         refine Hck.out.mono ?_
         rintro e w2 ⟨rfl, hB2⟩
         have T2 := HT1.out.call hB2
         have c0 := T2.cell1 0
         have c1 := T2.cell1 1
         have c2 := T2.cell1 2
         have Hof2 := uh (Hof.out w2 hB2)
         have HT2 := uh T2
         clear T2 hB2 HT1 Hck Hof hr1
         go_wp2_with fail
         refine Hof2.out.mono ?_
         rintro e w3 ⟨rfl, hB3⟩
         have T3 := (HT2.out.call hB3).alloc (.cells #[.int .u8 0, .int .i64 0, .int .i64 0, .int .i64 0] 79)
         have hth : (w3.alloc (.cells #[.int .u8 0, .int .i64 0, .int .i64 0, .int .i64 0] 79)).there w3.heap.size 0 4 := T3.there1
         have T4 := T3.laid [.int .u8 1, .int .i64 b, .int .i64 c, .int .i64 s] rfl
         have hr4 := T4.range1
         have hr5 := T4.range2
         have HT4 := uh T4.below
         clear T3 T4 hB3 HT2 Hof2 c0 c1 c2
         go_wp2_with (first
          | (show sW 79; refine wpList_store_mid rfl 79 _ _ rfl _ 0 #[.int .u8 1, .int .i64 b, .int .i64 c, .int .i64 s] rfl rfl hth hsz ho ?_)
          | (show lW 79; refine wpList_load_g 79 _ rfl (by rfl) w3.heap.size 0 rfl [.int .u8 1, .int .i64 b, .int .i64 c, .int .i64 s] _ hr4 Tryz.underlying79 rfl hsz ?_)
          | (show lW 79; refine wpList_load_g 79 _ rfl (by rfl) w.heap.size 0 rfl [.int .u8 1, .int .i64 b, .int .i64 c, .int .i64 d] _ hr5 Tryz.underlying79 rfl hsz ?_)
          | fail)
         go_ret
         exact ⟨rfl, HT4.out⟩
     · rw [if_neg (fun h => he h.1)]
       simp only [if_neg he] at Hof
       go_enter Tryz.func128, Tryz.ntmps128
       go_wp2_with fail
       refine Hck.out.mono ?_
       rintro e w2 ⟨rfl, hB2⟩
       have T2 := HT1.out.call hB2
       have c0 := T2.cell1 0
       have c1 := T2.cell1 1
       have c2 := T2.cell1 2
       have Hof2 := uh (Hof.out w2 hB2)
       have HT2 := uh T2
       clear T2 hB2 HT1 Hck Hof hr1
       go_wp2_with fail
       refine Hof2.out.mono ?_
       rintro e w3 ⟨rfl, hB3⟩
       have T3 := (HT2.out.call hB3).alloc (.cells #[.int .u8 0, .int .i64 0, .int .i64 0, .int .i64 0] 79)
       have hth : (w3.alloc (.cells #[.int .u8 0, .int .i64 0, .int .i64 0, .int .i64 0] 79)).there w3.heap.size 0 4 := T3.there1
       have HT4 := uh (T3.laid [.int .u8 0, .int .i64 0, .int .i64 0, .int .i64 0] rfl).below
       clear T3 hB3 HT2 Hof2 c0 c1 c2
       go_wp2_with (first
        | (show sW 79; refine wpList_store_mid rfl 79 _ _ rfl _ 0 #[.int .u8 0, .int .i64 0, .int .i64 0, .int .i64 0] rfl rfl hth hsz hld ?_)
        | fail)
       go_ret
       exact ⟨rfl, HT4.out⟩
   · rw [if_pos ht]
     obtain ⟨tg, b, c, d⟩ := h
     have ht2 : ¬ (tg : Int) = 1 := by simp only at ht; omega
     have ht3 : ((tg : Int) != 1) = true := by rw [bne_iff_ne]; exact ht2
     clear hm ht hi
     go_enter Tryz.func128, Tryz.ntmps128
     go_wp2_with fail
     refine Hck.out.mono ?_
     rintro e w2 ⟨rfl, hB2⟩
     have T2 := HT1.out.call hB2
     have c0 := T2.cell1 0
     have HT2 := uh T2.below
     clear T2 hB2 HT1 Hck Hof hr1
     go_wp2
     go_ret
     exact ⟨rfl, HT2.out⟩
 · rw [if_neg hm] at Hck
   rw [if_pos hm]
   obtain ⟨tg, b, c, d⟩ := h
   clear hm hi
   go_enter Tryz.func128, Tryz.ntmps128
   go_wp2_with fail
   refine Hck.out.mono ?_
   rintro e w2 ⟨rfl, hB2⟩
   have HT2 := uh (HT1.out.call hB2).below
   clear hB2 HT1 Hck Hof hr1
   go_wp2
   go_ret
   exact ⟨rfl, HT2.out⟩
theorem gap7 (w : World) (tg n : Nat) (ht : tg = 2 ∨ tg = 3) (h1 : 1 ≤ n) (h2 : n < 16777216) :
  Calls Tryz.prog 265 #[.int .u8 tg, .int .i64 n] w fun e w' => e = .returned (.tuple #[hdVal ⟨tg, 0, 0, n⟩, .int .i64 0]) ∧ Below w.heap.size w w' := by
 have hsz := sz_head
 have hm : (Hd.mk tg 0 0 n).may := ⟨h1, h2, (by decide : (0 : Nat) < 16777216), .inr ⟨ht, rfl, rfl⟩⟩
 have hin : HdIn ⟨tg, 0, 0, n⟩ := ⟨by simp only; omega, Nat.zero_le _, Nat.zero_le _, by simp only; omega⟩
 have T0 := ((Turn.refl (Has.nil w)).alloc (.cells #[.int .u8 0, .int .i64 0, .int .i64 0, .int .i64 0] 79)).alloc (.cells #[.int .u8 0, .int .i64 0, .int .i64 0, .int .i64 0] 79)
 rw [World.size_alloc] at T0
 have hthA : ((w.alloc (.cells #[.int .u8 0, .int .i64 0, .int .i64 0, .int .i64 0] 79)).alloc (.cells #[.int .u8 0, .int .i64 0, .int .i64 0, .int .i64 0] 79)).there (w.heap.size + 1) 0 4 := T0.there1
 have T1 := T0.laid [.int .u8 tg, .int .i64 ((0 : Nat) : Int), .int .i64 ((0 : Nat) : Int), .int .i64 n] rfl
 have hr1 := T1.range1
 have ho : (#[.int .u8 tg, .int .i64 0, .int .i64 0, .int .i64 n] : Array Value).all (·.oneCell') = true := hd_one ⟨tg, 0, 0, n⟩
 have Hck := uh ((fun {W : World} {l : List Blk} (_ : Turn [] w l W) => may7 W ⟨tg, 0, 0, n⟩ hin) T1)
 rw [decide_eq_true hm] at Hck
 have HT1 := uh T1
 have e1 : ((tg : Int) == 1) = false := by rw [beq_eq_false_iff_ne]; omega
 have e2 : ¬ (tg : Int) = 1 := by omega
 clear T0 T1 hm hin ht
 go_enter Tryz.func265, Tryz.ntmps265
 go_wp2_with (first
  | (show sW 79; refine wpList_store_mid rfl 79 _ _ rfl _ 0 #[.int .u8 tg, .int .i64 0, .int .i64 0, .int .i64 n] rfl rfl hthA hsz ho ?_; clear hthA)
  | (show lW 79; refine wpList_load_g 79 _ rfl (by rfl) (w.heap.size + 1) 0 rfl [.int .u8 tg, .int .i64 0, .int .i64 0, .int .i64 n] _ hr1 Tryz.underlying79 rfl hsz ?_; clear hr1)
  | (go_at_call 228; refine Hck.out.mono ?_; rintro e w2 ⟨rfl, hB2⟩; have HT2 := uh (HT1.out.call hB2); clear HT1 hB2; have hthB : w2.there w.heap.size 0 4 := HT2.out.there2; have hr2 := HT2.out.range1; have HT3 := uh (HT2.out.laid2 [.int .u8 tg, .int .i64 ((0 : Nat) : Int), .int .i64 ((0 : Nat) : Int), .int .i64 n] rfl))
  | (show lW 79; refine wpList_load_mid rfl 79 _ rfl (w.heap.size + 1) 0 rfl [.int .u8 tg, .int .i64 0, .int .i64 0, .int .i64 n] _ hr2 Tryz.underlying79 rfl hsz ?_)
  | (show sW 79; refine wpList_store_mid rfl 79 _ _ rfl _ 0 #[.int .u8 tg, .int .i64 0, .int .i64 0, .int .i64 n] rfl rfl hthB hsz ho ?_)
  | fail)
 refine bodyPost_ret (res_two Tryz.results265 _ _ _ _ _ rfl HT3.out.range2 Tryz.underlying79 rfl hsz) rfl ⟨rfl, HT3.out.below⟩
theorem hgap (w : World) (hF : Fields w) (tg n : Nat) (ht : tg = 2 ∨ tg = 3) (h1 : 1 ≤ n) (h2 : n < 16777216) :
  Calls Tryz.prog 153 #[.int .u8 tg, .int .i64 n] w fun e w' => e = .returned (.tuple #[hdVal ⟨tg, 0, 0, n⟩, .int .i64 0]) ∧ Below w.heap.size w w' := by
 have hsz := sz_head
 have hm : (Hd.mk tg 0 0 n).may := ⟨h1, h2, (by decide : (0 : Nat) < 16777216), .inr ⟨ht, rfl, rfl⟩⟩
 have hin : HdIn ⟨tg, 0, 0, n⟩ := ⟨by simp only; omega, Nat.zero_le _, Nat.zero_le _, by simp only; omega⟩
 have T0 := ((Turn.refl (Has.nil w)).alloc (.cells #[.int .u8 0, .int .i64 0, .int .i64 0, .int .i64 0] 79)).alloc (.cells #[.int .u8 0, .int .i64 0, .int .i64 0, .int .i64 0] 79)
 rw [World.size_alloc] at T0
 have hthA : ((w.alloc (.cells #[.int .u8 0, .int .i64 0, .int .i64 0, .int .i64 0] 79)).alloc (.cells #[.int .u8 0, .int .i64 0, .int .i64 0, .int .i64 0] 79)).there (w.heap.size + 1) 0 4 := T0.there1
 have T1 := T0.laid [.int .u8 tg, .int .i64 ((0 : Nat) : Int), .int .i64 ((0 : Nat) : Int), .int .i64 n] rfl
 have hr1 := T1.range1
 have ho : (#[.int .u8 tg, .int .i64 0, .int .i64 0, .int .i64 n] : Array Value).all (·.oneCell') = true := hd_one ⟨tg, 0, 0, n⟩
 have Hck := uh (hcheck _ (range_below hF T1.below) ⟨tg, 0, 0, n⟩ hin)
 rw [if_pos hm] at Hck
 have HT1 := uh T1
 have e1 : ((tg : Int) == 1) = false := by rw [beq_eq_false_iff_ne]; omega
 have e2 : ¬ (tg : Int) = 1 := by omega
 clear T0 T1 hm hin ht
 go_enter Tryz.func153, Tryz.ntmps153
 go_wp2_with (first
  | (show sW 79; refine wpList_store_mid rfl 79 _ _ rfl _ 0 #[.int .u8 tg, .int .i64 0, .int .i64 0, .int .i64 n] rfl rfl hthA hsz ho ?_; clear hthA)
  | (show lW 79; refine wpList_load_g 79 _ rfl (by rfl) (w.heap.size + 1) 0 rfl [.int .u8 tg, .int .i64 0, .int .i64 0, .int .i64 n] _ hr1 Tryz.underlying79 rfl hsz ?_; clear hr1)
  | (go_at_call 189; refine Hck.out.mono ?_; rintro e w2 ⟨rfl, hB2⟩; have HT2 := uh (HT1.out.call hB2); clear HT1 hB2; have hthB : w2.there w.heap.size 0 4 := HT2.out.there2; have hr2 := HT2.out.range1; have HT3 := uh (HT2.out.laid2 [.int .u8 tg, .int .i64 ((0 : Nat) : Int), .int .i64 ((0 : Nat) : Int), .int .i64 n] rfl))
  | (show lW 79; refine wpList_load_mid rfl 79 _ rfl (w.heap.size + 1) 0 rfl [.int .u8 tg, .int .i64 0, .int .i64 0, .int .i64 n] _ hr2 Tryz.underlying79 rfl hsz ?_)
  | (show sW 79; refine wpList_store_mid rfl 79 _ _ rfl _ 0 #[.int .u8 tg, .int .i64 0, .int .i64 0, .int .i64 n] rfl rfl hthB hsz ho ?_)
  | fail)
 refine bodyPost_ret (res_two Tryz.results153 _ _ _ _ _ rfl HT3.out.range2 Tryz.underlying79 rfl hsz) rfl ⟨rfl, HT3.out.below⟩
def I64 (n : Int) : Prop := -9223372036854775808 ≤ n ∧ n ≤ 9223372036854775807
def u64s (W : List Nat) : List Value := W.map fun n => .int .u64 (n : Nat)
theorem u64s_length (W : List Nat) : (u64s W).length = W.length := by simp [u64s]
theorem u64s_get {W : List Nat} {i v : Nat} (h : W[i]? = some v) : (u64s W)[i]? = some (.int .u64 v) := by simp [u64s, h]
theorem u64s_set (W : List Nat) (i v : Nat) : (u64s W).toArray.setIfInBounds i (.int .u64 v) = (u64s (W.set i v)).toArray := by
 rw [List.setIfInBounds_toArray]
 unfold u64s
 rw [List.map_set]
structure ArAt (w : World) (a aw : Nat) (W : List Nat) : Prop where
 c0 : w.cell? ⟨a, 0, none⟩ = some (.slice (some ⟨aw, 0, none⟩) W.length W.length)
 ws : ∀ (i v : Nat), W[i]? = some v → w.cell? ⟨aw, i, none⟩ = some (.int .u64 v)
 few : W.length ≤ 65536
theorem ArAt.below {w w' : World} {a aw : Nat} {W : List Nat} (h : ArAt w a aw W) (hk : Below w.heap.size w w') : ArAt w' a aw W :=
 ⟨(hk.cell (p := ⟨a, 0, none⟩) (World.block_lt_of_cell? w _ h.c0)).trans h.c0, fun i v hv => (hk.cell (p := ⟨aw, i, none⟩) (World.block_lt_of_cell? w _ (h.ws i v hv))).trans (h.ws i v hv), h.few⟩
def arBlks (a aw : Nat) (W : List Nat) (n : Int) : List Blk := [(aw, .cells (u64s W).toArray 47), (a, .cells #[.slice (some ⟨aw, 0, none⟩) W.length W.length, .int .u64 n] 219)]
theorem arBlks_at {w : World} {a aw : Nat} {W : List Nat} {n : Int} {L : List Blk} (h : Has w (arBlks a aw W n ++ L)) (hf : W.length ≤ 65536) : ArAt w a aw W := by
 refine ⟨h.cell (b := a) (c := #[.slice (some ⟨aw, 0, none⟩) W.length W.length, .int .u64 n]) (e := 219) (f := (0, 0)) (by simp [arBlks]) 0, fun i v hv => ?_, hf⟩
 rw [h.cell (b := aw) (c := (u64s W).toArray) (e := 47) (f := (0, 0)) (by simp [arBlks]) i, List.getElem?_toArray]
 exact u64s_get hv
theorem alen (w : World) {a aw : Nat} {W : List Nat} (h : ArAt w a aw W) : Calls Tryz.prog 63 #[.pointer (some ⟨a, 0, none⟩)] w fun e w' => e = .returned (.int .i64 W.length) ∧ w' = w := by
 have c0 := h.c0
 clear h
 go_enter Tryz.func63, Tryz.ntmps63
 go_wp2
 go_ret
 exact ⟨rfl, rfl⟩
theorem grans (w : World) {a aw : Nat} {W : List Nat} (h : ArAt w a aw W) : Calls Tryz.prog 129 #[.pointer (some ⟨a, 0, none⟩)] w fun e w' => e = .returned (.int .i64 (W.length / 2 : Nat)) ∧ w' = w := by
 have hl := uh (alen w h)
 have h2 : ((W.length : Int)).tdiv 2 = ((W.length / 2 : Nat) : Int) := tdiv_nat _ 2
 have h3 := h.few
 clear h
 obtain ⟨z, hz⟩ : ∃ z : Nat, W.length / 2 = z := ⟨_, rfl⟩
 rw [hz] at h2 ⊢
 go_enter Tryz.func129, Tryz.ntmps129
 go_wp2_with (first
  | (go_at_call 63; refine hl.out.mono ?_; rintro e w' ⟨rfl, rfl⟩)
  | fail)
 go_ret
 refine ⟨?_, rfl⟩
 first | rfl | (rw [← h2]; rfl) | (have : ((W.length : Int)) / 2 = (z : Int) := by omega
                                   rw [← this]; rfl)
def within (W : List Nat) (i n : Int) : Prop := 0 ≤ i ∧ 0 ≤ n ∧ i + n ≤ W.length
instance (W : List Nat) (i n : Int) : Decidable (within W i n) := by unfold within; infer_instance
theorem ahas (w : World) {a aw : Nat} {W : List Nat} (h : ArAt w a aw W) (i n : Int) (hi : I64 i) (hn : I64 n) : Calls Tryz.prog 115 #[.pointer (some ⟨a, 0, none⟩), .int .i64 i, .int .i64 n] w fun e w' => e = .returned (.int .i64 (if within W i n then 0 else 2)) ∧ w' = w := by
 have c0 := h.c0
 have hf := h.few
 obtain ⟨hi1, hi2⟩ := hi
 obtain ⟨hn1, hn2⟩ := hn
 clear h
 obtain ⟨r, Hr⟩ : ∃ r : Int, Hid (r = if within W i n then 0 else 2) := ⟨_, uh rfl⟩
 rw [← Hr.out]
 have HF : ¬ within W i n → r = 2 := fun hn => by rw [Hr.out, if_neg hn]
 have HTr : within W i n → r = 0 := fun hn => by rw [Hr.out, if_pos hn]
 clear Hr
 by_cases e1 : 0 ≤ i
 · have k1 : decide ((0 : Int) ≤ i) = true := decide_eq_true e1
   by_cases e2 : 0 ≤ n
   · have k2 : decide ((0 : Int) ≤ n) = true := decide_eq_true e2
     by_cases e3 : i ≤ W.length
     · have k3 : decide (i ≤ (W.length : Int)) = true := decide_eq_true e3
       by_cases e4 : n ≤ W.length - i
       · have k4 : decide (n ≤ (W.length : Int) - i) = true := decide_eq_true e4
         obtain rfl := HTr ⟨e1, e2, by omega⟩
         clear HF HTr
         go_enter Tryz.func115, Tryz.ntmps115
         go_wp2
         go_ret
         exact ⟨rfl, rfl⟩
       · have k4 : decide (n ≤ (W.length : Int) - i) = false := decide_eq_false e4
         obtain rfl := HF (fun h => by have := h.2.2; omega)
         clear HF HTr
         go_enter Tryz.func115, Tryz.ntmps115
         go_wp2
         go_ret
         exact ⟨rfl, rfl⟩
     · have k3 : decide (i ≤ (W.length : Int)) = false := decide_eq_false e3
       obtain rfl := HF (fun h => by have := h.2.2; omega)
       clear HF HTr
       go_enter Tryz.func115, Tryz.ntmps115
       go_wp2
       go_ret
       exact ⟨rfl, rfl⟩
   · have k2 : decide ((0 : Int) ≤ n) = false := decide_eq_false e2
     obtain rfl := HF (fun h => e2 h.2.1)
     clear HF HTr
     go_enter Tryz.func115, Tryz.ntmps115
     go_wp2
     go_ret
     exact ⟨rfl, rfl⟩
 · have k1 : decide ((0 : Int) ≤ i) = false := decide_eq_false e1
   obtain rfl := HF (fun h => e1 h.1)
   clear HF HTr
   go_enter Tryz.func115, Tryz.ntmps115
   go_wp2
   go_ret
   exact ⟨rfl, rfl⟩
theorem aload (w : World) {a aw : Nat} {W : List Nat} (h : ArAt w a aw W) (i v : Nat) (hv : W[i]? = some v) : Calls Tryz.prog 169 #[.pointer (some ⟨a, 0, none⟩), .int .i64 i] w fun e w' => e = .returned (.tuple #[.int .u64 v, .int .i64 0]) ∧ w' = w := by
 have hlt : i < W.length := (List.getElem?_eq_some_iff.1 hv).1
 have hf := h.few
 have c0 := h.c0
 have c1 := h.ws i v hv
 have hh := uh (ahas w h i 1 (by unfold I64; omega) (by unfold I64; omega))
 rw [if_pos ⟨by omega, by omega, by omega⟩] at hh
 have hlt' : (i : Int) < (W.length : Int) := by omega
 clear h hv
 go_enter Tryz.func169, Tryz.ntmps169
 go_wp2_with (first
  | (go_at_call 115; refine hh.out.mono ?_; rintro e w' ⟨rfl, rfl⟩)
  | fail)
 refine bodyPost_ret (results_tmp2 rfl _ _ _) rfl ?_
 exact ⟨rfl, rfl⟩
theorem astore {l L : List Blk} {w0 : World} (w : World) {a aw : Nat} {W : List Nat} {n : Int} (T : Turn l w0 (arBlks a aw W n ++ L) w) (hf : W.length ≤ 65536) (i v : Nat) (hi : i < W.length) :
  Calls Tryz.prog 45 #[.pointer (some ⟨a, 0, none⟩), .int .i64 i, .int .u64 v] w fun e w' => e = .returned (.int .i64 0) ∧ ∃ n' : Int, Turn l w0 (arBlks a aw (W.set i v) n' ++ L) w' := by
 have hA := arBlks_at T.has hf
 have c0 := hA.c0
 have hh := uh (ahas w hA i 1 (by unfold I64; omega) (by unfold I64; omega))
 rw [if_pos ⟨by omega, by omega, by omega⟩] at hh
 have hlt' : (i : Int) < (W.length : Int) := by omega
 have f1 : w.frozen? ⟨aw, i, none⟩ = false := T.has.free (b := aw) (c := (u64s W).toArray) (e := 47) (by simp [arBlks]) i
 obtain ⟨v0, hv0⟩ : ∃ v0, W[i]? = some v0 := ⟨W[i]'hi, List.getElem?_eq_getElem _⟩
 have c1 := hA.ws i v0 hv0
 have T1 : Turn l w0 (arBlks a aw (W.set i v) n ++ L) (w.setCell ⟨aw, i, none⟩ (.int .u64 v)) := by
  have h := Turn.setCell (b := aw) (c := (u64s W).toArray) (e := 47) (f := (0, 0)) T i (.int .u64 v)
  rw [u64s_set] at h
  unfold arBlks
  rw [List.length_set]
  exact h
 have d0 : (w.setCell ⟨aw, i, none⟩ (.int .u64 v)).cell? ⟨a, 0, none⟩ = _ := (arBlks_at T1.has (by rw [List.length_set]; exact hf)).c0
 have d1 : (w.setCell ⟨aw, i, none⟩ (.int .u64 v)).cell? ⟨a, 1, none⟩ = some (.int .u64 n) := T1.has.cell (b := a) (c := #[.slice (some ⟨aw, 0, none⟩) (W.set i v).length (W.set i v).length, .int .u64 n]) (e := 219) (f := (0, 0)) (by simp [arBlks]) 1
 have f2 : (w.setCell ⟨aw, i, none⟩ (.int .u64 v)).frozen? ⟨a, 1, none⟩ = false := T1.has.free (b := a) (c := #[.slice (some ⟨aw, 0, none⟩) (W.set i v).length (W.set i v).length, .int .u64 n]) (e := 219) (by simp [arBlks]) 1
 have HT1 := uh T1
 clear T T1 hA hv0 d0
 go_enter Tryz.func45, Tryz.ntmps45
 go_wp2_with (first
  | (go_at_call 115; refine hh.out.mono ?_; rintro e w' ⟨rfl, rfl⟩)
  | fail)
 go_ret
 refine ⟨rfl, IntKind.u64.wrap (n + 1), ?_⟩
 exact ((HT1.out.perm (l2 := (a, .cells #[.slice (some ⟨aw, 0, none⟩) (W.set i v).length (W.set i v).length, .int .u64 n] 219) :: (aw, .cells (u64s (W.set i v)).toArray 47) :: L) (.swap ..)).setCell 1 (.int .u64 (IntKind.u64.wrap (n + 1)))).swap
theorem Turn.arSet {l L : List Blk} {w0 w : World} {a aw : Nat} {W : List Nat} {n : Int} (T : Turn l w0 (arBlks a aw W n ++ L) w) (i v : Nat) : Turn l w0 (arBlks a aw (W.set i v) n ++ L) (w.setCell ⟨aw, i, none⟩ (.int .u64 v)) := by
 have h := Turn.setCell (b := aw) (c := (u64s W).toArray) (e := 47) (f := (0, 0)) T i (.int .u64 v)
 rw [u64s_set] at h
 unfold arBlks
 rw [List.length_set]
 exact h
theorem Turn.arCnt {l L : List Blk} {w0 w : World} {a aw : Nat} {W : List Nat} {n : Int} (T : Turn l w0 (arBlks a aw W n ++ L) w) (m : Int) : Turn l w0 (arBlks a aw W m ++ L) (w.setCell ⟨a, 1, none⟩ (.int .u64 m)) :=
 ((T.perm (l2 := (a, .cells #[.slice (some ⟨aw, 0, none⟩) W.length W.length, .int .u64 n] 219) :: (aw, .cells (u64s W).toArray 47) :: L) (.swap ..)).setCell 1 (.int .u64 m)).swap
theorem arBlks_free {w : World} {a aw : Nat} {W : List Nat} {n : Int} {L : List Blk} (h : Has w (arBlks a aw W n ++ L)) (i : Nat) : w.frozen? ⟨aw, i, none⟩ = false ∧ w.frozen? ⟨a, i, none⟩ = false ∧ w.cell? ⟨a, 1, none⟩ = some (.int .u64 n) :=
 ⟨h.free (b := aw) (c := (u64s W).toArray) (e := 47) (by simp [arBlks]) i, h.free (b := a) (c := #[.slice (some ⟨aw, 0, none⟩) W.length W.length, .int .u64 n]) (e := 219) (by simp [arBlks]) i,
  h.cell (b := a) (c := #[.slice (some ⟨aw, 0, none⟩) W.length W.length, .int .u64 n]) (e := 219) (f := (0, 0)) (by simp [arBlks]) 1⟩
theorem afill {l L : List Blk} {w0 : World} (w : World) {a aw : Nat} {W : List Nat} {n : Int} (T : Turn l w0 (arBlks a aw W n ++ L) w) (hf : W.length ≤ 65536) (i m : Nat) (hi : i + m ≤ W.length) :
  Calls Tryz.prog 151 #[.pointer (some ⟨a, 0, none⟩), .int .i64 i, .int .i64 m, .int .u64 0] w fun e w' => e = .returned (.int .i64 0) ∧ ∃ n' : Int, Turn l w0 (arBlks a aw (zeros W i m) n' ++ L) w' := by
 have hA := arBlks_at T.has hf
 have hh := uh (ahas w hA i m (by unfold I64; omega) (by unfold I64; omega))
 rw [if_pos ⟨by omega, by omega, by omega⟩] at hh
 have HT := uh T
 clear T hA
 go_enter Tryz.func151, Tryz.ntmps151
 go_wp2_with (first
  | (go_at_call 115; refine hh.out.mono ?_; rintro e w' ⟨rfl, rfl⟩)
  | fail)
 go_loopw [19] (fun v19 wr => ∃ j : Nat, j ≤ m ∧ v19 = .int .i64 j ∧ Turn l w0 (arBlks a aw (zeros W i j) n ++ L) wr) (fun v19 _ => m - (intOf v19).toNat)
 case atStart => exact ⟨0, Nat.zero_le _, rfl, HT.out⟩
 case round =>
  clear hh HT
  obtain ⟨j, hj, rfl, T⟩ := hrel
  have hl : (zeros W i j).length = W.length := zeros_len ..
  have hA := arBlks_at T.has (by rw [hl]; exact hf)
  have c0 := hA.c0
  rw [hl] at c0
  by_cases hlt : j < m
  · have hlt' : (j : Int) < (m : Int) := by omega
    obtain ⟨v0, hv0⟩ : ∃ v0, (zeros W i j)[i + j]? = some v0 := ⟨(zeros W i j)[i + j]'(by omega), List.getElem?_eq_getElem _⟩
    have c1 := hA.ws (i + j) v0 hv0
    have f1 := (arBlks_free T.has (i + j)).1
    have T1 := T.arSet (i + j) 0
    have HT1 := uh T1
    have hb : (i : Int) + (j : Int) < (W.length : Int) := by omega
    have hb2 : ((i : Int) + (j : Int)).toNat = i + j := by omega
    clear T T1 hA hv0 hl
    go_wp2
    go_roundw
    case rel => exact ⟨j + 1, by omega, by go_num, HT1.out⟩
    case measure => simp [intOf]; omega
  · obtain rfl : j = m := by omega
    have c1 := (arBlks_free T.has 1).2.2
    have f1 := (arBlks_free T.has 1).2.1
    have HT1 := uh T
    clear T hA hl
    go_wp2
    go_ret
    exact ⟨rfl, IntKind.u64.wrap (n + (j : Int)), HT1.out.arCnt _⟩
def headAt (W : List Nat) (g : Int) : Option Hd := if 0 ≤ g ∧ g < (W.length / 2 : Nat) then decode (W.getD (2 * g.toNat) 0) else none
def headErr (W : List Nat) (g : Int) : Int := if 0 ≤ g ∧ g < (W.length / 2 : Nat) then (if (decode (W.getD (2 * g.toNat) 0)).isSome then 0 else 7) else 2
theorem headAt_out {W : List Nat} {g : Int} (h : ¬ (0 ≤ g ∧ g < (W.length / 2 : Nat))) : headAt W g = none ∧ headErr W g = 2 := ⟨if_neg h, if_neg h⟩
theorem headAt_in {W : List Nat} {g v : Nat} (h : g < W.length / 2) (hv : W[2 * g]? = some v) : headAt W g = decode v ∧ headErr W g = if (decode v).isSome then 0 else 7 := by
 have hg : W.getD (2 * (g : Int).toNat) 0 = v := by rw [Int.toNat_natCast, List.getD_eq_getElem?_getD, hv]; rfl
 have hc : 0 ≤ (g : Int) ∧ (g : Int) < ((W.length / 2 : Nat) : Int) := ⟨by omega, by exact_mod_cast h⟩
 unfold headAt headErr
 rw [hg, if_pos hc, if_pos hc]
 exact ⟨rfl, rfl⟩
theorem shead (w : World) (hF : Fields w) {a aw : Nat} {W : List Nat} (hA : ArAt w a aw W) (hu : ∀ v ∈ W, v < 18446744073709551616) (g : Int) :
  Calls Tryz.prog 126 #[.pointer (some ⟨a, 0, none⟩), .int .i64 g] w fun e w' => e = .returned (.tuple #[hdVal ((headAt W g).getD hd0), .int .i64 (headErr W g)]) ∧ Below w.heap.size w w' := by
 have hsz := sz_head
 have T0 := (Turn.refl (Has.nil w)).alloc (.cells #[.int .u8 0, .int .i64 0, .int .i64 0, .int .i64 0] 79)
 have hth : (w.alloc (.cells #[.int .u8 0, .int .i64 0, .int .i64 0, .int .i64 0] 79)).there w.heap.size 0 4 := T0.there1
 have HZ := uh (T0.laid [.int .u8 0, .int .i64 0, .int .i64 0, .int .i64 0] rfl)
 have hoZ := hd0_one
 have hA1 := hA.below T0.below
 have Hg := uh (grans _ hA1)
 have hf := hA.few
 by_cases hin : 0 ≤ g ∧ g < (W.length / 2 : Nat)
 · obtain ⟨g, rfl⟩ : ∃ q : Nat, g = q := ⟨g.toNat, by omega⟩
   have hlt : g < W.length / 2 := by omega
   obtain ⟨v, hv⟩ : ∃ v, W[2 * g]? = some v := ⟨W[2 * g]'(by omega), List.getElem?_eq_getElem _⟩
   obtain ⟨e1, e2⟩ := headAt_in hlt hv
   rw [e1, e2]
   have hd : (decode v).getD hd0 = decHd v := rfl
   rw [hd]
   have hvl := hu v (List.mem_of_getElem? hv)
   have Hl := uh (aload _ hA1 (2 * g) v hv)
   rw [show ((2 * g : Nat) : Int) = 2 * (g : Int) by omega] at Hl
   have hg3 : g ≤ 65536 := by omega
   have Hd := uh (hdec _ (range_below hF T0.below) v hvl)
   have k1 : decide ((g : Int) < 0) = false := decide_eq_false (by omega)
   obtain ⟨z, hz⟩ : ∃ z : Nat, W.length / 2 = z := ⟨_, rfl⟩
   rw [hz] at Hg hlt
   have k2 : decide ((z : Int) ≤ (g : Int)) = false := decide_eq_false (by omega)
   have k3 : ¬ (z : Int) ≤ (g : Int) := by omega
   have HT0 := uh T0
   generalize decHd v = hh at *
   obtain ⟨xa, xb, xc, xd⟩ := hh
   have hoX := hd_one ⟨xa, xb, xc, xd⟩
   obtain ⟨er, Her⟩ : ∃ er : Int, Hid ((if (decode v).isSome = true then (0 : Int) else 7) = er) := ⟨_, uh rfl⟩
   rw [Her.out] at Hd
   rw [Her.out]
   clear hin e1 e2 hd hv hA hA1 hF hu T0 HZ hz Her
   go_enter Tryz.func126, Tryz.ntmps126
   go_wp2_with (first
    | (go_at_call 129; refine Hg.out.mono ?_; rintro e w' ⟨rfl, hw⟩; rw [hw]; clear hw w')
    | (go_at_call 169; refine Hl.out.mono ?_; rintro e w' ⟨rfl, hw⟩; rw [hw]; clear hw w')
    | (go_at_call 187; refine Hd.out.mono ?_; rintro e w5 ⟨rfl, hB5⟩; have HT5 := uh (HT0.out.call hB5); clear hB5)
    | (show sW 79; refine wpList_store_mid rfl 79 _ _ rfl _ 0 #[.int .u8 xa, .int .i64 xb, .int .i64 xc, .int .i64 xd] rfl rfl HT5.out.there1 hsz hoX ?_; have HT6 := uh (HT5.out.laid [.int .u8 xa, .int .i64 xb, .int .i64 xc, .int .i64 xd] rfl))
    | fail)
   refine bodyPost_ret (res_two Tryz.results126 _ _ _ _ _ rfl HT6.out.range1 Tryz.underlying79 rfl hsz) rfl ⟨rfl, HT6.out.below⟩
 · obtain ⟨e1, e2⟩ := headAt_out hin
   rw [e1, e2]
   obtain ⟨z, hz⟩ : ∃ z : Nat, W.length / 2 = z := ⟨_, rfl⟩
   rw [hz] at Hg hin
   clear e1 e2 hA hA1 hF hu T0 hz
   by_cases hg : g < 0
   · have k1 : decide (g < 0) = true := decide_eq_true hg
     clear hin
     go_enter Tryz.func126, Tryz.ntmps126
     go_wp2_with (first
      | (show sW 79; refine wpList_store_mid rfl 79 _ _ rfl _ 0 #[.int .u8 0, .int .i64 0, .int .i64 0, .int .i64 0] rfl rfl hth hsz hoZ ?_)
      | fail)
     refine bodyPost_ret (res_two Tryz.results126 _ _ _ _ _ rfl HZ.out.range1 Tryz.underlying79 rfl hsz) rfl ⟨rfl, HZ.out.below⟩
   · have k1 : decide (g < 0) = false := decide_eq_false hg
     have k2 : decide ((z : Int) ≤ g) = true := decide_eq_true (by omega)
     have k3 : (z : Int) ≤ g := by omega
     clear hin
     go_enter Tryz.func126, Tryz.ntmps126
     go_wp2_with (first
      | (go_at_call 129; refine Hg.out.mono ?_; rintro e w' ⟨rfl, hw⟩; rw [hw]; clear hw w')
      | (show sW 79; refine wpList_store_mid rfl 79 _ _ rfl _ 0 #[.int .u8 0, .int .i64 0, .int .i64 0, .int .i64 0] rfl rfl hth hsz hoZ ?_)
      | fail)
     refine bodyPost_ret (res_two Tryz.results126 _ _ _ _ _ rfl HZ.out.range1 Tryz.underlying79 rfl hsz) rfl ⟨rfl, HZ.out.below⟩
theorem head8 (w : World) {W : List Nat} (ao : Option Addr) (cap : Nat) (hS : Src w ao W.length cap 1 (u64s W)) (hf : W.length ≤ 65536) (hu : ∀ v ∈ W, v < 18446744073709551616) (g : Int) :
  Calls Tryz.prog 181 #[.slice ao W.length cap, .int .i64 g] w fun e w' => e = .returned (.tuple #[hdVal ((headAt W g).getD hd0), .int .i64 (headErr W g)]) ∧ Below w.heap.size w w' := by
 have hsz := sz_head
 have T0 := (Turn.refl (Has.nil w)).alloc (.cells #[.int .u8 0, .int .i64 0, .int .i64 0, .int .i64 0] 79)
 have hth : (w.alloc (.cells #[.int .u8 0, .int .i64 0, .int .i64 0, .int .i64 0] 79)).there w.heap.size 0 4 := T0.there1
 have HZ := uh (T0.laid [.int .u8 0, .int .i64 0, .int .i64 0, .int .i64 0] rfl)
 have hoZ := hd0_one
 have h2 : ((W.length : Int)).tdiv 2 = ((W.length / 2 : Nat) : Int) := tdiv_nat _ 2
 have h2' : (W.length : Int) / 2 = ((W.length / 2 : Nat) : Int) := by omega
 by_cases hin : 0 ≤ g ∧ g < (W.length / 2 : Nat)
 · obtain ⟨g, rfl⟩ : ∃ q : Nat, g = q := ⟨g.toNat, by omega⟩
   have hlt : g < W.length / 2 := by omega
   obtain ⟨v, hv⟩ : ∃ v, W[2 * g]? = some v := ⟨W[2 * g]'(by omega), List.getElem?_eq_getElem _⟩
   obtain ⟨e1, e2⟩ := headAt_in hlt hv
   rw [e1, e2]
   have hd : (decode v).getD hd0 = decHd v := rfl
   rw [hd]
   have hvl := hu v (List.mem_of_getElem? hv)
   obtain ⟨b, off, rfl, hc⟩ := hS.form (by rw [u64s_length]; omega)
   have c1 := (T0.below.cell (p := ⟨b, off + 2 * g, none⟩) (World.block_lt_of_cell? w _ (hc _ _ (u64s_get hv)))).trans (hc _ _ (u64s_get hv))
   have Hd := uh (fun W => dec7 W v hvl)
   have k1 : decide ((g : Int) < 0) = false := decide_eq_false (by omega)
   have k5 : (2 * (g : Int)).toNat = 2 * g := by omega
   have k6 : 2 * (g : Int) < (W.length : Int) := by omega
   obtain ⟨z, hz⟩ : ∃ z : Nat, W.length / 2 = z := ⟨_, rfl⟩
   rw [hz] at h2 h2' hlt
   have k2 : decide ((z : Int) ≤ (g : Int)) = false := decide_eq_false (by omega)
   have k3 : ¬ (z : Int) ≤ (g : Int) := by omega
   have HT0 := uh T0
   generalize decHd v = hh at *
   obtain ⟨xa, xb, xc, xd⟩ := hh
   have hoX := hd_one ⟨xa, xb, xc, xd⟩
   obtain ⟨er, Her⟩ : ∃ er : Int, Hid ((if (decode v).isSome = true then (0 : Int) else 7) = er) := ⟨_, uh rfl⟩
   rw [Her.out] at Hd
   rw [Her.out]
   clear hin e1 e2 hd hv hS hu T0 HZ hz Her hc
   go_enter Tryz.func181, Tryz.ntmps181
   go_wp2_with (first
    | (go_at_call 227; refine (Hd.out _).mono ?_; rintro e w5 ⟨rfl, hB5⟩; have HT5 := uh (HT0.out.call hB5); clear hB5)
    | (show sW 79; refine wpList_store_mid rfl 79 _ _ rfl _ 0 #[.int .u8 xa, .int .i64 xb, .int .i64 xc, .int .i64 xd] rfl rfl HT5.out.there1 hsz hoX ?_; have HT6 := uh (HT5.out.laid [.int .u8 xa, .int .i64 xb, .int .i64 xc, .int .i64 xd] rfl))
    | fail)
   refine bodyPost_ret (res_two Tryz.results181 _ _ _ _ _ rfl HT6.out.range1 Tryz.underlying79 rfl hsz) rfl ⟨rfl, HT6.out.below⟩
 · obtain ⟨e1, e2⟩ := headAt_out hin
   rw [e1, e2]
   obtain ⟨z, hz⟩ : ∃ z : Nat, W.length / 2 = z := ⟨_, rfl⟩
   rw [hz] at h2 h2' hin
   clear e1 e2 hS hu T0 hz
   by_cases hg : g < 0
   · have k1 : decide (g < 0) = true := decide_eq_true hg
     clear hin
     go_enter Tryz.func181, Tryz.ntmps181
     go_wp2_with (first
      | (show sW 79; refine wpList_store_mid rfl 79 _ _ rfl _ 0 #[.int .u8 0, .int .i64 0, .int .i64 0, .int .i64 0] rfl rfl hth hsz hoZ ?_)
      | fail)
     refine bodyPost_ret (res_two Tryz.results181 _ _ _ _ _ rfl HZ.out.range1 Tryz.underlying79 rfl hsz) rfl ⟨rfl, HZ.out.below⟩
   · have k1 : decide (g < 0) = false := decide_eq_false hg
     have k2 : decide ((z : Int) ≤ g) = true := decide_eq_true (by omega)
     have k3 : (z : Int) ≤ g := by omega
     clear hin
     go_enter Tryz.func181, Tryz.ntmps181
     go_wp2_with (first
      | (show sW 79; refine wpList_store_mid rfl 79 _ _ rfl _ 0 #[.int .u8 0, .int .i64 0, .int .i64 0, .int .i64 0] rfl rfl hth hsz hoZ ?_)
      | fail)
     refine bodyPost_ret (res_two Tryz.results181 _ _ _ _ _ rfl HZ.out.range1 Tryz.underlying79 rfl hsz) rfl ⟨rfl, HZ.out.below⟩
def objq (L : List Ty) (W : List Nat) (g : Int) : Option Hd := match headAt W g with
 | none => none
 | some h => if h.tag = 1 ∧ fitErr L h = 0 ∧ g.toNat + h.size ≤ W.length / 2 then some h else none
abbrev viewCells (a : Nat) (g : Int) (h : Hd) (t : Ty) : List Value := [.pointer (some ⟨a, 0, none⟩), .int .i64 g, .int .u8 h.tag, .int .i64 h.typ, .int .i64 h.len, .int .i64 h.size, .int .u8 t.kind, .int .i64 t.words, .int .u64 t.mask]
theorem may_in {h : Hd} (hm : h.may) : HdIn h := by
 obtain ⟨m1, m2, m3, m4⟩ := hm
 exact ⟨by omega, by omega, by omega, by omega⟩
theorem headAt_some {W : List Nat} {g : Int} {h : Hd} (hh : headAt W g = some h) : h.may ∧ 0 ≤ g ∧ g < (W.length / 2 : Nat) ∧ headErr W g = 0 := by
 unfold headAt at hh
 split at hh
 · rename_i hc
   refine ⟨(decode_some hh).1, hc.1, hc.2, ?_⟩
   unfold headErr
   rw [if_pos hc, hh]
   rfl
 · cases hh
theorem headAt_none {W : List Nat} {g : Int} (hh : headAt W g = none) : headErr W g ≠ 0 := by
 unfold headAt at hh
 unfold headErr
 split at hh
 · rename_i hc
   rw [if_pos hc, hh]
   decide
 · rename_i hc
   rw [if_neg hc]
   decide
theorem sof (w : World) (hF : Fields w) {a aw : Nat} {W : List Nat} (hA : ArAt w a aw W) (hu : ∀ v ∈ W, v < 18446744073709551616) (L : List Ty) (hTy : ∀ t ∈ L, TyIn t) (hL : L.length ≤ 1000) (tb : Nat) (ao : Option Addr) (cap : Nat) (hT : TabAt w tb ao cap L) (g : Int) :
  Calls Tryz.prog 49 #[.pointer (some ⟨a, 0, none⟩), .pointer (some ⟨tb, 0, none⟩), .int .i64 g] w fun e w' => match objq L W g with
   | some h => ∃ vb, e = .returned (.tuple #[.pointer (some ⟨vb, 0, none⟩), .int .i64 0]) ∧ Turn [] w [(vb, .cells (viewCells a g h (tyAt L h.typ)).toArray 238)] w'
   | none => ∃ er : Int, e = .returned (.tuple #[.pointer none, .int .i64 er]) ∧ er ≠ 0 ∧ Below w.heap.size w w' := by
 have hsz := sz_head
 have hszT := sz_type
 have Hhd := uh (shead w hF hA hu g)
 have Hgr := uh (fun W' (hB : Below w.heap.size w W') => grans W' (hA.below hB))
 have hfew := hA.few
 have hoZ := hd0_one
 cases hh : headAt W g with
 | none =>
  have hne := headAt_none hh
  have hq : objq L W g = none := by unfold objq; rw [hh]
  rw [hq]
  simp only
  rw [hh] at Hhd
  generalize headErr W g = er at *
  clear hF hA hu hT hh hq Hgr hTy
  go_enter Tryz.func49, Tryz.ntmps49
  go_wp2_with fail
  refine Hhd.out.mono ?_
  rintro e w1 ⟨rfl, hB1⟩
  simp only [Option.getD_none]
  have T2 := (Turn.of_below (Has.nil w) hB1).alloc (.cells #[.int .u8 0, .int .i64 0, .int .i64 0, .int .i64 0] 79)
  have hth : (w1.alloc (.cells #[.int .u8 0, .int .i64 0, .int .i64 0, .int .i64 0] 79)).there w1.heap.size 0 4 := T2.there1
  have HT2 := uh (T2.laid [.int .u8 0, .int .i64 0, .int .i64 0, .int .i64 0] rfl)
  clear T2 hB1 Hhd
  go_wp2_with (first
   | (show sW 79; refine wpList_store_mid rfl 79 _ _ rfl _ 0 #[.int .u8 0, .int .i64 0, .int .i64 0, .int .i64 0] rfl rfl hth hsz hoZ ?_)
   | fail)
  refine bodyPost_ret (results_tmp2 rfl _ _ _) rfl ?_
  exact ⟨er, rfl, hne, HT2.out.below⟩
 | some h =>
  obtain ⟨hm, hg0, hg1, he0⟩ := headAt_some hh
  obtain ⟨g, rfl⟩ : ∃ q : Nat, g = q := ⟨g.toNat, by omega⟩
  have hq : objq L W g = if h.tag = 1 ∧ fitErr L h = 0 ∧ g + h.size ≤ W.length / 2 then some h else none := by unfold objq; rw [hh]; simp
  rw [hq]
  rw [hh, he0] at Hhd
  have HFit := uh (fun W' (hB : Below w.heap.size w W') => hfits W' (range_below hF hB) L hTy hL tb ao cap (hT.below hB) h (may_in hm))
  have Hget := uh (fun W' (hB : Below w.heap.size w W') => tget W' L tb ao cap (hT.below hB) hL h.typ)
  have hg3 : g < W.length / 2 := by omega
  obtain ⟨z, hz⟩ : ∃ z : Nat, W.length / 2 = z := ⟨_, rfl⟩
  rw [hz] at hq Hgr hg3 ⊢
  have hz2 : z ≤ 65536 := by omega
  have hty : Hid (tyAt L h.typ = tyAt L h.typ) := uh rfl
  clear hty
  generalize hty : tyAt L h.typ = t at Hget
  generalize (if (getTy L h.typ).isSome = true then (0 : Int) else 3) = e27 at Hget
  generalize hfe : fitErr L h = fe at *
  obtain ⟨xa, xb, xc, xd⟩ := h
  simp only
  have hbd : xa ≤ 3 ∧ xd < 16777216 := by
   obtain ⟨m1, m2, m3, m4⟩ := hm
   simp only at m1 m2 m3 m4
   omega
  obtain ⟨k, m, mk⟩ := t
  refine (show ∀ Qp : Ending → World → Prop, Hid (xa = 1 ∧ fe = 0 ∧ g + xd ≤ z → ∀ vb w', Turn [] w [(vb, .cells (viewCells a g ⟨xa, xb, xc, xd⟩ ⟨k, m, mk⟩).toArray 238)] w' → Qp (.returned (.tuple #[.pointer (some ⟨vb, 0, none⟩), .int .i64 0])) w') →
    Hid (¬ (xa = 1 ∧ fe = 0 ∧ g + xd ≤ z) → ∀ w', Below w.heap.size w w' → Qp (.returned (.tuple #[.pointer none, .int .i64 8])) w') →
    Calls Tryz.prog 49 #[.pointer (some ⟨a, 0, none⟩), .pointer (some ⟨tb, 0, none⟩), .int .i64 g] w Qp from ?_) _
    (uh (fun hc vb w' T => by rw [if_pos hc]; simp only; exact ⟨vb, rfl, by rw [hty]; exact T⟩)) (uh (fun hc w' hB => by rw [if_neg hc]; exact ⟨8, rfl, by decide, hB⟩))
  clear hty hq
  intro Qp HY HN
  have hoX := hd_one ⟨xa, xb, xc, xd⟩
  have hoT := ty_one ⟨k, m, mk⟩
  simp only at hoX hoT
  clear hF hA hu hT hh he0 hm hTy hg0 hg1 hz
  go_enter Tryz.func49, Tryz.ntmps49
  go_wp2_with fail
  refine Hhd.out.mono ?_
  rintro e w1 ⟨rfl, hB1⟩
  simp only [Option.getD_some]
  have T2 := ((Turn.of_below (Has.nil w) hB1).alloc (.cells #[.int .u8 0, .int .i64 0, .int .i64 0, .int .i64 0] 79)).laid [.int .u8 xa, .int .i64 xb, .int .i64 xc, .int .i64 xd] rfl
  have hth : (w1.alloc (.cells #[.int .u8 0, .int .i64 0, .int .i64 0, .int .i64 0] 79)).there w1.heap.size 0 4 := ((Turn.of_below (Has.nil w) hB1).alloc (.cells #[.int .u8 0, .int .i64 0, .int .i64 0, .int .i64 0] 79)).there1
  have c1 := T2.cell1 1
  have HT2 := uh T2
  clear T2 hB1 Hhd
  go_wp2_with (first
   | (show sW 79; refine wpList_store_mid rfl 79 _ _ rfl _ 0 #[.int .u8 xa, .int .i64 xb, .int .i64 xc, .int .i64 xd] rfl rfl hth hsz hoX ?_; clear hth)
   | fail)
  refine (Hget.out _ HT2.out.below).mono ?_
  rintro e w2 ⟨rfl, hB2⟩
  have T3 := (HT2.out.call hB2).alloc (.cells #[.int .u8 0, .int .i64 0, .int .u64 0] 49)
  have hth3 : (w2.alloc (.cells #[.int .u8 0, .int .i64 0, .int .u64 0] 49)).there w2.heap.size 0 3 := T3.there1
  have T4 := T3.laid [.int .u8 k, .int .i64 m, .int .u64 mk] rfl
  have hr10 := T4.range1
  have hr8 := T4.range2
  have HT4 := uh T4
  clear T3 T4 hB2 HT2 Hget c1
  go_upto_region 5 with (first
   | (show sW 49; refine wpList_store_mid rfl 49 _ _ rfl _ 0 #[.int .u8 k, .int .i64 m, .int .u64 mk] rfl rfl hth3 hszT hoT ?_; clear hth3)
   | fail)
  by_cases ht : xa = 1
  · subst ht
    by_cases hf0 : fe = 0
    · subst hf0
      have k1 : IntKind.i64.wrap ((z : Int) - (g : Int)) = (z : Int) - (g : Int) := i64_in _ (by omega)
      by_cases hs : g + xd ≤ z
      · have k2 : decide (((z : Int) - (g : Int)) < (xd : Int)) = false := decide_eq_false (by omega)
        have HY2 := uh (HY.out ⟨rfl, rfl, hs⟩)
        clear HY HN hs
        go_wp2_with fail
        refine wp_abs (fun W => Turn [] w [(w2.heap.size, .cells #[.int .u8 k, .int .i64 m, .int .u64 mk] 49), (w1.heap.size, .cells #[.int .u8 1, .int .i64 xb, .int .i64 xc, .int .i64 xd] 79)] W.drew) HT4.out.drew fun W hS => ?_
        clear HT4 hr8 hr10
        refine wp_region_noPanic ?_
        refine wp_region_listed (S := fun W' => Turn [] w [(w2.heap.size, .cells #[.int .u8 k, .int .i64 m, .int .u64 mk] 49), (w1.heap.size, .cells #[.int .u8 1, .int .i64 xb, .int .i64 xc, .int .i64 xd] 79)] W') 18 [false, false, false, false, false, false, false, false, false, false, false, false, false, false, false, false, false, false] rfl rfl (by kernel_rfl) ?_
        refine tkA 0 28 hS ?_
        refine takeG 1 29 rfl rfl (by rfl) (by kernel_rfl) (by kernel_rfl) (by kernel_rfl) (fun _ _ _ _ h => h) hS (by (intro w' hSw; have hc : w'.cell? ⟨w1.heap.size, 0, none⟩ = some (.int .u8 1) := hSw.cell2 0; clear hSw; go_simp; try rfl)) ?_
        simp only [st1, st2]
        refine tkA 2 30 hS ?_
        refine tkA 3 31 hS ?_
        refine tkA 4 32 hS ?_
        refine tkC 5 33 hS (fun w' hSw => load_mid_run 79 _ rfl w1.heap.size 0 rfl [.int .u8 1, .int .i64 xb, .int .i64 xc, .int .i64 xd] _ hSw.range2 Tryz.underlying79 rfl hsz) ?_
        refine rdyA 6 (fun K hK => ?_)
        go_simp
        refine (HFit.out _ hS.below).mono ?_
        rintro e W3 ⟨rfl, hB3⟩
        have hS3 := hS.call hB3
        refine hK.out _ _ hS3 fun _ => ?_
        clear hK K hS hB3
        simp only [st0, st1, st2]
        refine tkA 7 35 hS3 ?_
        refine tkA 8 36 hS3 ?_
        refine tkA 9 37 hS3 ?_
        refine tkA 10 38 hS3 ?_
        refine takeG 11 39 rfl rfl (by rfl) (by kernel_rfl) (by kernel_rfl) (by kernel_rfl) (fun _ _ _ _ h => h) hS3 (by (intro w' hSw; have hc : w'.cell? ⟨w1.heap.size, 3, none⟩ = some (.int .i64 xd) := hSw.cell2 3; clear hSw; go_simp; try rfl)) ?_
        simp only [st1, st2]
        refine tkA 12 40 hS3 ?_
        refine tkA 14 42 hS3 ?_
        refine rdyA 13 (fun K hK => ?_)
        go_simp
        refine (Hgr.out _ hS3.below).mono ?_
        rintro e W4 ⟨rfl, rfl⟩
        have hS4 := hS3
        refine hK.out _ _ hS4 fun _ => ?_
        clear hK K
        simp only [st0, st1, st2]
        refine tkA 15 43 hS4 ?_
        refine tkA 16 44 hS4 ?_
        refine tkA 17 45 hS4 ?_
        refine wpAnyH_done (by kernel_rfl) ?_ _
        refine NoPanic.normal ?_
        have hr8 := hS4.range2
        have hr10 := hS4.range1
        have HT9 := uh hS4
        clear hS4
        go_wp2_with (first
         | (show lW 79; refine wpList_load_mid rfl 79 _ rfl w1.heap.size 0 rfl [.int .u8 1, .int .i64 xb, .int .i64 xc, .int .i64 xd] _ hr8 Tryz.underlying79 rfl hsz ?_)
         | (show lW 49; refine wpList_load_mid rfl 49 _ rfl w2.heap.size 0 rfl [.int .u8 k, .int .i64 m, .int .u64 mk] _ hr10 Tryz.underlying49 rfl hszT ?_)
         | fail)
        exact HY2.out _ _ ((HT9.out.alloc _).sub (List.Sublist.cons_cons _ (List.nil_sublist _)))
      · have k2 : decide (((z : Int) - (g : Int)) < (xd : Int)) = true := decide_eq_true (by omega)
        have k3 : ((z : Int) - (g : Int)) < (xd : Int) := by omega
        have HN2 := uh (HN.out (fun h => hs h.2.2))
        clear HY HN hs
        go_wp2_with fail
        refine wp_abs (fun W => Turn [] w [(w2.heap.size, .cells #[.int .u8 k, .int .i64 m, .int .u64 mk] 49), (w1.heap.size, .cells #[.int .u8 1, .int .i64 xb, .int .i64 xc, .int .i64 xd] 79)] W.drew) HT4.out.drew fun W hS => ?_
        clear HT4 hr8 hr10
        refine wp_region_noPanic ?_
        refine wp_region_listed (S := fun W' => Turn [] w [(w2.heap.size, .cells #[.int .u8 k, .int .i64 m, .int .u64 mk] 49), (w1.heap.size, .cells #[.int .u8 1, .int .i64 xb, .int .i64 xc, .int .i64 xd] 79)] W') 18 [false, false, false, false, false, false, false, false, false, false, false, false, false, false, false, false, false, false] rfl rfl (by kernel_rfl) ?_
        refine tkA 0 28 hS ?_
        refine takeG 1 29 rfl rfl (by rfl) (by kernel_rfl) (by kernel_rfl) (by kernel_rfl) (fun _ _ _ _ h => h) hS (by (intro w' hSw; have hc : w'.cell? ⟨w1.heap.size, 0, none⟩ = some (.int .u8 1) := hSw.cell2 0; clear hSw; go_simp; try rfl)) ?_
        simp only [st1, st2]
        refine tkA 2 30 hS ?_
        refine tkA 3 31 hS ?_
        refine tkA 4 32 hS ?_
        refine tkC 5 33 hS (fun w' hSw => load_mid_run 79 _ rfl w1.heap.size 0 rfl [.int .u8 1, .int .i64 xb, .int .i64 xc, .int .i64 xd] _ hSw.range2 Tryz.underlying79 rfl hsz) ?_
        refine rdyA 6 (fun K hK => ?_)
        go_simp
        refine (HFit.out _ hS.below).mono ?_
        rintro e W3 ⟨rfl, hB3⟩
        have hS3 := hS.call hB3
        refine hK.out _ _ hS3 fun _ => ?_
        clear hK K hS hB3
        simp only [st0, st1, st2]
        refine tkA 7 35 hS3 ?_
        refine tkA 8 36 hS3 ?_
        refine tkA 9 37 hS3 ?_
        refine tkA 10 38 hS3 ?_
        refine takeG 11 39 rfl rfl (by rfl) (by kernel_rfl) (by kernel_rfl) (by kernel_rfl) (fun _ _ _ _ h => h) hS3 (by (intro w' hSw; have hc : w'.cell? ⟨w1.heap.size, 3, none⟩ = some (.int .i64 xd) := hSw.cell2 3; clear hSw; go_simp; try rfl)) ?_
        simp only [st1, st2]
        refine tkA 12 40 hS3 ?_
        refine tkA 14 42 hS3 ?_
        refine rdyA 13 (fun K hK => ?_)
        go_simp
        refine (Hgr.out _ hS3.below).mono ?_
        rintro e W4 ⟨rfl, rfl⟩
        have hS4 := hS3
        refine hK.out _ _ hS4 fun _ => ?_
        clear hK K
        simp only [st0, st1, st2]
        refine tkA 15 43 hS4 ?_
        refine tkA 16 44 hS4 ?_
        refine tkA 17 45 hS4 ?_
        refine wpAnyH_done (by kernel_rfl) ?_ _
        refine NoPanic.normal ?_
        have HT9 := uh hS4
        clear hS4
        go_wp2
        exact HN2.out _ HT9.out.below
    · have hfe0 : (fe != 0) = true := by rw [bne_iff_ne]; exact hf0
      have HN2 := uh (HN.out (fun h => hf0 h.2.1))
      clear HY HN
      go_wp2_with fail
      refine wp_abs (fun W => Turn [] w [(w2.heap.size, .cells #[.int .u8 k, .int .i64 m, .int .u64 mk] 49), (w1.heap.size, .cells #[.int .u8 1, .int .i64 xb, .int .i64 xc, .int .i64 xd] 79)] W.drew) HT4.out.drew fun W hS => ?_
      clear HT4 hr8 hr10
      refine wp_region_noPanic ?_
      refine wp_region_listed (S := fun W' => Turn [] w [(w2.heap.size, .cells #[.int .u8 k, .int .i64 m, .int .u64 mk] 49), (w1.heap.size, .cells #[.int .u8 1, .int .i64 xb, .int .i64 xc, .int .i64 xd] 79)] W') 18 [false, false, false, false, false, false, false, false, false, false, false, false, false, false, false, false, false, false] rfl rfl (by kernel_rfl) ?_
      refine tkA 0 28 hS ?_
      refine takeG 1 29 rfl rfl (by rfl) (by kernel_rfl) (by kernel_rfl) (by kernel_rfl) (fun _ _ _ _ h => h) hS (by (intro w' hSw; have hc : w'.cell? ⟨w1.heap.size, 0, none⟩ = some (.int .u8 1) := hSw.cell2 0; clear hSw; go_simp; try rfl)) ?_
      simp only [st1, st2]
      refine tkA 2 30 hS ?_
      refine tkA 3 31 hS ?_
      refine tkA 4 32 hS ?_
      refine tkC 5 33 hS (fun w' hSw => load_mid_run 79 _ rfl w1.heap.size 0 rfl [.int .u8 1, .int .i64 xb, .int .i64 xc, .int .i64 xd] _ hSw.range2 Tryz.underlying79 rfl hsz) ?_
      refine rdyA 6 (fun K hK => ?_)
      go_simp
      refine (HFit.out _ hS.below).mono ?_
      rintro e W3 ⟨rfl, hB3⟩
      have hS3 := hS.call hB3
      refine hK.out _ _ hS3 fun _ => ?_
      clear hK K hS hB3
      simp only [st0, st1, st2]
      refine tkA 7 35 hS3 ?_
      refine tkA 8 36 hS3 ?_
      refine tkA 9 37 hS3 ?_
      refine tkS 10 38 hS3 ?_
      refine tkS 11 39 hS3 ?_
      refine tkS 12 40 hS3 ?_
      refine tkS 13 41 hS3 ?_
      refine tkS 14 42 hS3 ?_
      refine tkS 15 43 hS3 ?_
      refine tkS 16 44 hS3 ?_
      refine tkA 17 45 hS3 ?_
      refine wpAnyH_done (by kernel_rfl) ?_ _
      refine NoPanic.normal ?_
      have HT9 := uh hS3
      clear hS3
      go_wp2
      exact HN2.out _ HT9.out.below
  · have ht2 : ¬ (xa : Int) = 1 := by omega
    have ht3 : ((xa : Int) != 1) = true := by rw [bne_iff_ne]; exact ht2
    have HN2 := uh (HN.out (fun h => ht h.1))
    have c0 := HT4.out.cell2 0
    clear HY HN
    go_quiet (fail)
    go_wp2
    exact HN2.out _ (HT4.out.drewN _).below
abbrev VwAt (w : World) (vb a : Nat) (g : Int) (h : Hd) (t : Ty) : Prop := w.rangeAt vb 0 (viewCells a g h t)
theorem VwAt.c {w : World} {vb a : Nat} {g : Int} {h : Hd} {t : Ty} (hv : VwAt w vb a g h t) {i : Nat} {v : Value} (h1 : (viewCells a g h t)[i]? = some v) : w.cell? ⟨vb, i, none⟩ = some v := by
 have := hv i v h1
 rwa [Nat.zero_add] at this
theorem vhead (w : World) {vb a : Nat} {g : Int} {h : Hd} {t : Ty} (hv : VwAt w vb a g h t) : Calls Tryz.prog 195 #[.pointer (some ⟨vb, 0, none⟩)] w fun e w' => e = .returned (hdVal h) ∧ Below w.heap.size w w' := by
 have hsz := sz_head
 obtain ⟨xa, xb, xc, xd⟩ := h
 have T0 := (Turn.refl (Has.nil w)).alloc (.cells #[.int .u8 0, .int .i64 0, .int .i64 0, .int .i64 0] 79)
 have hv1 := range_below hv T0.below
 have hth : (w.alloc (.cells #[.int .u8 0, .int .i64 0, .int .i64 0, .int .i64 0] 79)).there w.heap.size 0 4 := T0.there1
 have HT1 := uh (T0.laid [.int .u8 xa, .int .i64 xb, .int .i64 xc, .int .i64 xd] rfl)
 have hoX := hd_one ⟨xa, xb, xc, xd⟩
 have hr : (w.alloc (.cells #[.int .u8 0, .int .i64 0, .int .i64 0, .int .i64 0] 79)).rangeAt vb 2 [.int .u8 xa, .int .i64 xb, .int .i64 xc, .int .i64 xd] := fun j v hj => by
  have := hv1 (2 + j) v (by rw [show viewCells a g ⟨xa, xb, xc, xd⟩ t = [.pointer (some ⟨a, 0, none⟩), .int .i64 g] ++ ([.int .u8 xa, .int .i64 xb, .int .i64 xc, .int .i64 xd] ++ tyCells t) from rfl, List.getElem?_append_right (by simp), show (2 + j) - ([Value.pointer (some ⟨a, 0, none⟩), Value.int .i64 g] : List Value).length = j by simp, List.getElem?_append_left (List.getElem?_eq_some_iff.1 hj).1, hj])
  rwa [Nat.zero_add] at this
 clear hv hv1 T0
 go_enter Tryz.func195, Tryz.ntmps195
 go_wp2_with (first
  | (show lW 79; refine wpList_load_mid rfl 79 _ rfl vb 2 rfl [.int .u8 xa, .int .i64 xb, .int .i64 xc, .int .i64 xd] _ hr Tryz.underlying79 rfl hsz ?_)
  | (show sW 79; refine wpList_store_mid rfl 79 _ _ rfl _ 0 #[.int .u8 xa, .int .i64 xb, .int .i64 xc, .int .i64 xd] rfl rfl hth hsz hoX ?_)
  | fail)
 refine bodyPost_ret (res_cell Tryz.results195 _ _ _ _ _ rfl HT1.out.range1 Tryz.underlying79 rfl hsz) rfl ⟨rfl, HT1.out.below⟩
theorem vslots (w : World) {vb a : Nat} {g : Int} {h : Hd} {t : Ty} (hv : VwAt w vb a g h t) (ht : TyIn t) (he : t.err h.len = 0) : Calls Tryz.prog 143 #[.pointer (some ⟨vb, 0, none⟩)] w fun e w' => e = .returned (.int .i64 (t.slots h.len : Nat)) ∧ Below w.heap.size w w' := by
 have Hsl := uh (fun W => kslots W t ht h.len)
 rw [he, if_pos rfl, Int.toNat_natCast] at Hsl
 have hszT := sz_type
 have d4 := hv.c (i := 4) rfl
 have d6 := hv.c (i := 6) rfl
 have d7 := hv.c (i := 7) rfl
 have d8 := hv.c (i := 8) rfl
 have HT := uh (Turn.refl (Has.nil w))
 generalize t.slots h.len = sl at *
 obtain ⟨xa, xb, xc, xd⟩ := h
 obtain ⟨k, m, mk⟩ := t
 clear ht he
 go_enter Tryz.func143, Tryz.ntmps143
 go_wp2_with fail
 refine wp_abs (fun W => Below w.heap.size w W.drew ∧ W.drew.rangeAt vb 0 (viewCells a g ⟨xa, xb, xc, xd⟩ ⟨k, m, mk⟩)) ⟨HT.out.drew.below, hv⟩ fun W hW => ?_
 obtain ⟨hBW, hS⟩ := hW
 have HBW := uh hBW
 clear hBW hv HT d4 d6 d7 d8
 refine wp_region_noPanic ?_
 refine wp_region_listed (S := fun W' => W'.rangeAt vb 0 (viewCells a g ⟨xa, xb, xc, xd⟩ ⟨k, m, mk⟩)) 15 [false, false, false, false, false, false, false, false, false, false, false, false, false, false, false] rfl rfl (by kernel_rfl) ?_
 refine tkA 0 8 hS ?_
 refine tkA 1 9 hS ?_
 refine tkA 2 10 hS ?_
 refine tkC 3 11 hS (fun w' hSw => load_mid_run 49 _ rfl vb 6 rfl [.int .u8 k, .int .i64 m, .int .u64 mk] _ (fun j v hj => by have := hSw (6 + j) v (by rw [show viewCells a g ⟨xa, xb, xc, xd⟩ ⟨k, m, mk⟩ = [.pointer (some ⟨a, 0, none⟩), .int .i64 g, .int .u8 xa, .int .i64 xb, .int .i64 xc, .int .i64 xd] ++ [.int .u8 k, .int .i64 m, .int .u64 mk] from rfl, List.getElem?_append_right (by simp), show (6 + j) - ([Value.pointer (some ⟨a, 0, none⟩), .int .i64 g, .int .u8 xa, .int .i64 xb, .int .i64 xc, .int .i64 xd] : List Value).length = j by simp]; exact hj); rwa [Nat.zero_add] at this) Tryz.underlying49 rfl hszT) ?_
 refine tkA 4 12 hS ?_
 refine tkA 5 13 hS ?_
 refine tkA 6 14 hS ?_
 refine tkA 7 15 hS ?_
 refine takeG 8 16 rfl rfl (by rfl) (by kernel_rfl) (by kernel_rfl) (by kernel_rfl) (fun _ _ _ _ h => h) hS (by (intro w' hSw; have hc : w'.cell? ⟨vb, 4, none⟩ = some (.int .i64 xc) := hSw 4 _ rfl; clear hSw; go_simp; try rfl)) ?_
 simp only [st1, st2]
 refine rdyA 9 (fun K hK => ?_)
 go_simp
 refine (Hsl.out _).mono ?_
 rintro e W3 ⟨rfl, hB3⟩
 have hS3 := range_below hS hB3
 have HB3 := uh (HBW.out.trans (hB3.mono HBW.out.size))
 refine hK.out _ _ hS3 fun _ => ?_
 clear hK K hS hB3
 simp only [st0, st1, st2]
 refine tkA 10 7 hS3 ?_
 refine tkA 11 18 hS3 ?_
 refine tkA 12 19 hS3 ?_
 refine tkA 13 3 hS3 ?_
 refine tkA 14 4 hS3 ?_
 refine wpAnyH_done (by kernel_rfl) ?_ _
 refine NoPanic.normal ?_
 clear hS3
 go_wp2
 go_ret
 exact ⟨rfl, HB3.out⟩
theorem vword (w : World) {vb a g : Nat} {h : Hd} {t : Ty} (hv : VwAt w vb a g h t) (ht : TyIn t) (he : t.err h.len = 0) (hg : g ≤ 65536) (s : Nat) (hs : s < t.slots h.len) : Calls Tryz.prog 130 #[.pointer (some ⟨vb, 0, none⟩), .int .i64 s] w fun e w' => e = .returned (.tuple #[.int .i64 (2 * g + 1 + s : Nat), .int .i64 0]) ∧ Below w.heap.size w w' := by
 have Hsl := uh (vslots w hv ht he)
 have Hd1 := uh (fun w2 (hB : Below w.heap.size w w2) => VwAt.c (range_below hv hB) (i := 1) rfl)
 obtain ⟨hm, h0, hn, -⟩ := err_ok.1 he
 have hsm := slots_most hm (n := h.len) (by omega)
 have HT := uh (Turn.refl (Has.nil w))
 generalize t.slots h.len = sl at *
 have k1 : decide ((s : Int) < 0) = false := decide_eq_false (by omega)
 have k2 : decide ((sl : Int) ≤ (s : Int)) = false := decide_eq_false (by omega)
 have k3 : ¬ (sl : Int) ≤ (s : Int) := by omega
 clear hv ht he hm h0 hn
 go_enter Tryz.func130, Tryz.ntmps130
 go_wp2_with (first
  | (go_at_call 143; refine Hsl.out.mono ?_; rintro e w2 ⟨rfl, hB2⟩; have HT2 := uh (HT.out.call hB2); have d1 := Hd1.out w2 hB2; clear hB2)
  | fail)
 refine bodyPost_ret (results_tmp2 rfl _ _ _) rfl ?_
 refine ⟨?_, HT2.out.below⟩
 rw [show ((2 * g + 1 + s : Nat) : Int) = 2 * (g : Int) + 1 + (s : Int) by omega]
 rfl
theorem vload (w : World) {vb a aw g : Nat} {W : List Nat} {h : Hd} {t : Ty} (hA : ArAt w a aw W) (hv : VwAt w vb a g h t) (ht : TyIn t) (he : t.err h.len = 0) (hg : g ≤ 65536) (s v : Nat) (hs : s < t.slots h.len) (hw : W[2 * g + 1 + s]? = some v) :
  Calls Tryz.prog 103 #[.pointer (some ⟨vb, 0, none⟩), .int .i64 s] w fun e w' => e = .returned (.tuple #[.int .u64 v, .int .i64 0]) ∧ Below w.heap.size w w' := by
 have Hwd := uh (vword w hv ht he hg s hs)
 have Hd0 := uh (fun w2 (hB : Below w.heap.size w w2) => VwAt.c (range_below hv hB) (i := 0) rfl)
 have Hl := uh (fun w2 (hB : Below w.heap.size w w2) => aload w2 (hA.below hB) (2 * g + 1 + s) v hw)
 generalize 2 * g + 1 + s = q at *
 clear hA hv ht he hw hs
 go_enter Tryz.func103, Tryz.ntmps103
 go_wp2_with (first
  | (go_at_call 130; refine Hwd.out.mono ?_; rintro e w2 ⟨rfl, hB2⟩; have d0 := Hd0.out w2 hB2; have Hl2 := uh (Hl.out w2 hB2); have HB := uh hB2; clear hB2)
  | (go_at_call 169; refine Hl2.out.mono ?_; rintro e w3 ⟨rfl, hw3⟩; rw [hw3]; clear hw3 w3)
  | fail)
 refine bodyPost_ret (results_tmp2 rfl _ _ _) rfl ?_
 exact ⟨rfl, HB.out⟩
theorem vstore {l L : List Blk} {w0 : World} (w : World) {vb a aw g : Nat} {W : List Nat} {n : Int} {h : Hd} {t : Ty} (T : Turn l w0 (arBlks a aw W n ++ L) w) (hf : W.length ≤ 65536) (hv : VwAt w vb a g h t) (ht : TyIn t) (he : t.err h.len = 0) (hg : g ≤ 65536) (s v : Nat) (hs : s < t.slots h.len) (hw : 2 * g + 1 + s < W.length) :
  Calls Tryz.prog 50 #[.pointer (some ⟨vb, 0, none⟩), .int .i64 s, .int .u64 v] w fun e w' => e = .returned (.int .i64 0) ∧ ∃ n' : Int, Turn l w0 (arBlks a aw (W.set (2 * g + 1 + s) v) n' ++ L) w' := by
 have Hwd := uh (vword w hv ht he hg s hs)
 have Hd0 := uh (fun w2 (hB : Below w.heap.size w w2) => VwAt.c (range_below hv hB) (i := 0) rfl)
 have Hst := uh (fun w2 (hB : Below w.heap.size w w2) => astore w2 (T.call hB) hf (2 * g + 1 + s) v hw)
 generalize 2 * g + 1 + s = q at *
 clear T hv ht he hw hs
 go_enter Tryz.func50, Tryz.ntmps50
 go_wp2_with (first
  | (go_at_call 130; refine Hwd.out.mono ?_; rintro e w2 ⟨rfl, hB2⟩; have d0 := Hd0.out w2 hB2; have Hs2 := uh (Hst.out w2 hB2); clear hB2)
  | (go_at_call 45; refine Hs2.out.mono ?_; rintro e w3 ⟨rfl, n', hT'⟩; have HT' := uh hT'; clear hT')
  | fail)
 go_ret
 exact ⟨rfl, n', HT'.out⟩
theorem addr8 (w : World) (g : Nat) (hg : g ≤ 65536) : Calls Tryz.prog 30 #[.int .i64 g] w fun e w' => e = .returned (.int .u64 (1048576 + 2 * g : Nat)) ∧ w' = w := by
 have k1 : ¬ (g : Int) < 0 := by omega
 obtain ⟨z, Hz⟩ : ∃ z : Nat, Hid (((z : Nat) : Int) = 1048576 + 2 * (g : Int) ∧ z = 1048576 + 2 * g) := ⟨_, uh ⟨by omega, rfl⟩⟩
 rw [← Hz.out.2]
 go_enter Tryz.func30, Tryz.ntmps30
 go_wp2
 go_ret
 refine ⟨?_, rfl⟩
 rw [Hz.out.1]
 rfl
theorem saddr (w : World) (g : Nat) (hg : g ≤ 65536) : Calls Tryz.prog 51 #[.int .i64 g] w fun e w' => e = .returned (.int .u64 (1048576 + 2 * g : Nat)) ∧ w' = w := by
 have k1 : ¬ (g : Int) < 0 := by omega
 obtain ⟨z, Hz⟩ : ∃ z : Nat, Hid (((z : Nat) : Int) = 1048576 + 2 * (g : Int) ∧ z = 1048576 + 2 * g) := ⟨_, uh ⟨by omega, rfl⟩⟩
 rw [← Hz.out.2]
 go_enter Tryz.func51, Tryz.ntmps51
 go_wp2
 go_ret
 refine ⟨?_, rfl⟩
 rw [Hz.out.1]
 rfl
theorem gap9 (w : World) (n : Nat) (h1 : 1 ≤ n) (h2 : n < 16777216) : Calls Tryz.prog 235 #[.int .i64 n] w fun e w' => e = .returned (.int .u64 ((gapHd n).word : Nat)) ∧ Below w.heap.size w w' := by
 have hsz := sz_head
 have hm := gapHd_may h1 h2
 obtain ⟨tg, htg, ht⟩ : ∃ tg : Nat, (if n = 1 then 2 else 3) = tg ∧ (tg = 2 ∨ tg = 3) := ⟨_, rfl, by split <;> simp⟩
 have hgh : gapHd n = ⟨tg, 0, 0, n⟩ := by unfold gapHd; rw [htg]
 rw [hgh] at hm ⊢
 have Hg := uh (fun W => gap7 W tg n ht h1 h2)
 have He := uh (fun W => enc7 W ⟨tg, 0, 0, n⟩ (may_in hm))
 rw [if_pos hm, if_pos hm] at He
 generalize (Hd.mk tg 0 0 n).word = z at *
 have ho : (#[.int .u8 tg, .int .i64 0, .int .i64 0, .int .i64 n] : Array Value).all (·.oneCell') = true := hd_one ⟨tg, 0, 0, n⟩
 have hn := Has.nil w
 have HX := uh (fun w1 (hB1 : Below w.heap.size w w1) => ((Turn.of_below hn hB1).alloc (.cells #[.int .u8 0, .int .i64 0, .int .i64 0, .int .i64 0] 79)).laid [.int .u8 tg, .int .i64 ((0 : Nat) : Int), .int .i64 ((0 : Nat) : Int), .int .i64 n] rfl)
 have HthX := uh (fun w1 (hB1 : Below w.heap.size w w1) => (((Turn.of_below hn hB1).alloc (.cells #[.int .u8 0, .int .i64 0, .int .i64 0, .int .i64 0] 79)).there1 : (w1.alloc (.cells #[.int .u8 0, .int .i64 0, .int .i64 0, .int .i64 0] 79)).there w1.heap.size 0 4))
 clear hm hgh hn
 have arms : True := trivial
 by_cases hn1 : n = 1
 · subst hn1
   rw [if_pos rfl] at htg
   subst htg
   go_enter Tryz.func235, Tryz.ntmps235
   go_wp2_with (first
    | (go_at_call 265; refine (Hg.out _).mono ?_; rintro e w1 ⟨rfl, hB1⟩; have hth := HthX.out w1 hB1; have HT := uh (HX.out w1 hB1); have hr := HT.out.range1; clear hB1)
    | (show sW 79; refine wpList_store_mid rfl 79 _ _ rfl _ 0 #[.int .u8 2, .int .i64 0, .int .i64 0, .int .i64 1] rfl rfl hth hsz ho ?_)
    | (show lW 79; refine wpList_load_mid rfl 79 _ rfl w1.heap.size 0 rfl [.int .u8 2, .int .i64 0, .int .i64 0, .int .i64 1] _ hr Tryz.underlying79 rfl hsz ?_)
    | (go_at_call 237; refine (He.out _).mono ?_; rintro e w2 ⟨rfl, hB2⟩; have HT2 := uh (HT.out.call hB2); clear hB2)
    | fail)
   go_ret
   exact ⟨rfl, HT2.out.below⟩
 · rw [if_neg hn1] at htg
   subst htg
   have k1 : ¬ (n : Int) = 1 := by omega
   go_enter Tryz.func235, Tryz.ntmps235
   go_wp2_with (first
    | (go_at_call 265; refine (Hg.out _).mono ?_; rintro e w1 ⟨rfl, hB1⟩; have hth := HthX.out w1 hB1; have HT := uh (HX.out w1 hB1); have hr := HT.out.range1; clear hB1)
    | (show sW 79; refine wpList_store_mid rfl 79 _ _ rfl _ 0 #[.int .u8 3, .int .i64 0, .int .i64 0, .int .i64 n] rfl rfl hth hsz ho ?_)
    | (show lW 79; refine wpList_load_mid rfl 79 _ rfl w1.heap.size 0 rfl [.int .u8 3, .int .i64 0, .int .i64 0, .int .i64 n] _ hr Tryz.underlying79 rfl hsz ?_)
    | (go_at_call 237; refine (He.out _).mono ?_; rintro e w2 ⟨rfl, hB2⟩; have HT2 := uh (HT.out.call hB2); clear hB2)
    | fail)
   go_ret
   exact ⟨rfl, HT2.out.below⟩
abbrev spBlk (s a tb bb : Nat) : Blk := (s, .cells #[.pointer (some ⟨a, 0, none⟩), .pointer (some ⟨tb, 0, none⟩), .pointer (some ⟨bb, 0, none⟩)] 146)
theorem sgap {l L : List Blk} {w0 : World} (w : World) (hF : Fields w) {s a aw tb bb : Nat} {W : List Nat} {c : Int} (T : Turn l w0 (arBlks a aw W c ++ L) w) (hs : spBlk s a tb bb ∈ L) (hf : W.length ≤ 65536) (g n : Nat) (hg : g + n ≤ W.length / 2) :
  Calls Tryz.prog 68 #[.pointer (some ⟨s, 0, none⟩), .int .i64 g, .int .i64 n] w fun e w' => (∃ u, e = .returned u) ∧ ∃ c' : Int, Turn l w0 (arBlks a aw (lay W g n) c' ++ L) w' := by
 have hsz := sz_head
 by_cases h0 : n = 0
 · subst h0
   have hl : lay W g 0 = W := by unfold lay; rw [if_pos rfl]
   rw [hl]
   have HT := uh T
   clear T hl
   go_enter Tryz.func68, Tryz.ntmps68
   go_wp2
   refine bodyPost_ret (results_none rfl _ _ _) rfl ?_
   exact ⟨⟨_, rfl⟩, c, HT.out⟩
 have h1 : 1 ≤ n := by omega
 have h2 : n < 16777216 := by omega
 have hl : lay W g n = W.set (2 * g) (gapHd n).word := by unfold lay; rw [if_neg h0]
 rw [hl]
 have hm := gapHd_may h1 h2
 obtain ⟨tg, htg, ht⟩ : ∃ tg : Nat, (if n = 1 then 2 else 3) = tg ∧ (tg = 2 ∨ tg = 3) := ⟨_, rfl, by split <;> simp⟩
 have hgh : gapHd n = ⟨tg, 0, 0, n⟩ := by unfold gapHd; rw [htg]
 rw [hgh] at hm ⊢
 have Hg := uh (fun W' (hB : Below w.heap.size w W') => hgap W' (range_below hF hB) tg n ht h1 h2)
 have He := uh (fun W' (hB : Below w.heap.size w W') => henc W' (range_below hF hB) ⟨tg, 0, 0, n⟩ hm)
 generalize (Hd.mk tg 0 0 n).word = z at *
 have ho : (#[.int .u8 tg, .int .i64 0, .int .i64 0, .int .i64 n] : Array Value).all (·.oneCell') = true := hd_one ⟨tg, 0, 0, n⟩
 have hn := uh (Has.nil w)
 have Hcs := uh (fun W' (hB : Below w.heap.size w W') => ((T.call hB).has.cell (b := s) (c := #[.pointer (some ⟨a, 0, none⟩), .pointer (some ⟨tb, 0, none⟩), .pointer (some ⟨bb, 0, none⟩)]) (e := 146) (f := (0, 0)) (List.mem_append.2 (.inr hs)) 0 : W'.cell? ⟨s, 0, none⟩ = some (.pointer (some ⟨a, 0, none⟩))))
 have Hst := uh (fun W' (hB : Below w.heap.size w W') => astore W' (T.call hB) hf (2 * g) z (by omega))
 rw [show ((2 * g : Nat) : Int) = 2 * (g : Int) by omega] at Hst
 have hgb : g ≤ 65536 := by omega
 clear hm hgh hF T hs hl hg
 by_cases hn1 : n = 1
 · subst hn1
   rw [if_pos rfl] at htg
   subst htg
   go_enter Tryz.func68, Tryz.ntmps68
   go_wp2_with (first
    | (go_at_call 153; refine (Hg.out _ (Below.refl _ _)).mono ?_; rintro e w1 ⟨rfl, hB1⟩; have hth : (w1.alloc (.cells #[.int .u8 0, .int .i64 0, .int .i64 0, .int .i64 0] 79)).there w1.heap.size 0 4 := ((Turn.of_below hn.out hB1).alloc (.cells #[.int .u8 0, .int .i64 0, .int .i64 0, .int .i64 0] 79)).there1; have HT := uh (((Turn.of_below hn.out hB1).alloc (.cells #[.int .u8 0, .int .i64 0, .int .i64 0, .int .i64 0] 79)).laid [.int .u8 ((2 : Nat) : Int), .int .i64 ((0 : Nat) : Int), .int .i64 ((0 : Nat) : Int), .int .i64 ((1 : Nat) : Int)] rfl).below; have hr := (((Turn.of_below hn.out hB1).alloc (.cells #[.int .u8 0, .int .i64 0, .int .i64 0, .int .i64 0] 79)).laid [.int .u8 ((2 : Nat) : Int), .int .i64 ((0 : Nat) : Int), .int .i64 ((0 : Nat) : Int), .int .i64 ((1 : Nat) : Int)] rfl).range1; clear hB1)
    | (show sW 79; refine wpList_store_mid rfl 79 _ _ rfl _ 0 #[.int .u8 2, .int .i64 0, .int .i64 0, .int .i64 1] rfl rfl hth hsz ho ?_)
    | (show lW 79; refine wpList_load_mid rfl 79 _ rfl w1.heap.size 0 rfl [.int .u8 2, .int .i64 0, .int .i64 0, .int .i64 1] _ hr Tryz.underlying79 rfl hsz ?_)
    | (go_at_call 150; refine (He.out _ HT.out).mono ?_; rintro e w2 ⟨rfl, hB2⟩; have HB2 := uh (HT.out.trans (hB2.mono HT.out.size)); clear hB2; have cs := Hcs.out w2 HB2.out)
    | (go_at_call 45; refine (Hst.out w2 HB2.out).mono ?_; rintro e w3 ⟨rfl, n', hT'⟩; have HT' := uh hT'; clear hT')
    | fail)
   go_end0
   exact ⟨⟨_, rfl⟩, n', HT'.out⟩
 · rw [if_neg hn1] at htg
   subst htg
   have k1 : ¬ (n : Int) = 1 := by omega
   have k2 : ¬ (n : Int) < 1 := by omega
   go_enter Tryz.func68, Tryz.ntmps68
   go_wp2_with (first
    | (go_at_call 153; refine (Hg.out _ (Below.refl _ _)).mono ?_; rintro e w1 ⟨rfl, hB1⟩; have hth : (w1.alloc (.cells #[.int .u8 0, .int .i64 0, .int .i64 0, .int .i64 0] 79)).there w1.heap.size 0 4 := ((Turn.of_below hn.out hB1).alloc (.cells #[.int .u8 0, .int .i64 0, .int .i64 0, .int .i64 0] 79)).there1; have HT := uh (((Turn.of_below hn.out hB1).alloc (.cells #[.int .u8 0, .int .i64 0, .int .i64 0, .int .i64 0] 79)).laid [.int .u8 ((3 : Nat) : Int), .int .i64 ((0 : Nat) : Int), .int .i64 ((0 : Nat) : Int), .int .i64 ((n : Nat) : Int)] rfl).below; have hr := (((Turn.of_below hn.out hB1).alloc (.cells #[.int .u8 0, .int .i64 0, .int .i64 0, .int .i64 0] 79)).laid [.int .u8 ((3 : Nat) : Int), .int .i64 ((0 : Nat) : Int), .int .i64 ((0 : Nat) : Int), .int .i64 ((n : Nat) : Int)] rfl).range1; clear hB1)
    | (show sW 79; refine wpList_store_mid rfl 79 _ _ rfl _ 0 #[.int .u8 3, .int .i64 0, .int .i64 0, .int .i64 n] rfl rfl hth hsz ho ?_)
    | (show lW 79; refine wpList_load_mid rfl 79 _ rfl w1.heap.size 0 rfl [.int .u8 3, .int .i64 0, .int .i64 0, .int .i64 n] _ hr Tryz.underlying79 rfl hsz ?_)
    | (go_at_call 150; refine (He.out _ HT.out).mono ?_; rintro e w2 ⟨rfl, hB2⟩; have HB2 := uh (HT.out.trans (hB2.mono HT.out.size)); clear hB2; have cs := Hcs.out w2 HB2.out)
    | (go_at_call 45; refine (Hst.out w2 HB2.out).mono ?_; rintro e w3 ⟨rfl, n', hT'⟩; have HT' := uh hT'; clear hT')
    | fail)
   go_end0
   exact ⟨⟨_, rfl⟩, n', HT'.out⟩
theorem smake {l L : List Blk} {w0 : World} (w : World) (hF : Fields w) {a aw tb : Nat} {W : List Nat} {c : Int} (T : Turn l w0 (arBlks a aw W c ++ L) w) (hf : W.length ≤ 65536) (Ls : List Ty) (hTy : ∀ t ∈ Ls, TyIn t) (hL : Ls.length ≤ 1000) (ao : Option Addr) (cap : Nat) (hT : TabAt w tb ao cap Ls)
  (g id n sz : Nat) (he : tyErr Ls id n = 0) (hs : tySize Ls id n = sz) (hm : (Hd.mk 1 id n sz).may) (hg : g + sz ≤ W.length / 2) :
  Calls Tryz.prog 66 #[.pointer (some ⟨a, 0, none⟩), .pointer (some ⟨tb, 0, none⟩), .int .i64 g, .int .i64 id, .int .i64 n] w fun e w' => e = .returned (.int .i64 0) ∧ ∃ c' : Int, Turn l w0 (arBlks a aw (mk W g ⟨1, id, n, sz⟩) c' ++ L) w' := by
 have hsz := sz_head
 have Hof := uh (hof w Ls hTy hL tb ao cap hT id n)
 unfold ofCells at Hof
 rw [he, if_pos rfl, hs] at Hof
 have He := uh (fun W' (hB : Below w.heap.size w W') => henc W' (range_below hF hB) ⟨1, id, n, sz⟩ hm)
 have hA := arBlks_at T.has hf
 have Hgr := uh (fun W' (hB : Below w.heap.size w W') => grans W' (hA.below hB))
 have Hfl := uh (fun W' (hB : Below w.heap.size w W') => afill W' (T.call hB) hf (2 * g) (2 * sz) (by omega))
 have Hst := uh (fun W' c' (T' : Turn l w0 (arBlks a aw (zeros W (2 * g) (2 * sz)) c' ++ L) W') => astore W' T' (by rw [zeros_len]; exact hf) (2 * g) (Hd.mk 1 id n sz).word (by rw [zeros_len]; have h9 : 1 ≤ sz := hm.1; omega))
 rw [show ((2 * g : Nat) : Int) = 2 * (g : Int) by omega, show ((2 * sz : Nat) : Int) = 2 * (sz : Int) by omega] at Hfl
 rw [show ((2 * g : Nat) : Int) = 2 * (g : Int) by omega] at Hst
 have hbg : g ≤ 65536 ∧ sz ≤ 65536 := by omega
 obtain ⟨hbg1, hbs1⟩ := hbg
 obtain ⟨z, hz⟩ : ∃ z : Nat, W.length / 2 = z := ⟨_, rfl⟩
 rw [hz] at Hgr hg
 have hzb : z ≤ 65536 := by omega
 have hn := uh (Has.nil w)
 have ho : (#[.int .u8 1, .int .i64 id, .int .i64 n, .int .i64 sz] : Array Value).all (·.oneCell') = true := hd_one ⟨1, id, n, sz⟩
 have hmk : mk W g ⟨1, id, n, sz⟩ = (zeros W (2 * g) (2 * sz)).set (2 * g) (Hd.mk 1 id n sz).word := rfl
 rw [hmk]
 generalize (Hd.mk 1 id n sz).word = wd at *
 clear hmk hF T hT he hs hm hA hz hTy
 have k1 : decide ((g : Int) < 0) = false := decide_eq_false (by omega)
 have k2 : decide ((z : Int) < (g : Int)) = false := decide_eq_false (by omega)
 have k2' : ¬ ((z : Int) < (g : Int)) := by omega
 have k2n : decide (z < g) = false := decide_eq_false (by omega)
 have k3 : IntKind.i64.wrap ((z : Int) - (g : Int)) = (z : Int) - (g : Int) := i64_in _ (by omega)
 have k4 : decide (((z : Int) - (g : Int)) < (sz : Int)) = false := decide_eq_false (by omega)
 have k4' : ¬ ((z : Int) - (g : Int)) < (sz : Int) := by omega
 go_enter Tryz.func66, Tryz.ntmps66
 go_upto_region 6 with (first
  | (go_at_call 64; refine Hof.out.mono ?_; rintro e w1 ⟨rfl, hB1⟩; have hth : (w1.alloc (.cells #[.int .u8 0, .int .i64 0, .int .i64 0, .int .i64 0] 79)).there w1.heap.size 0 4 := ((Turn.of_below hn.out hB1).alloc (.cells #[.int .u8 0, .int .i64 0, .int .i64 0, .int .i64 0] 79)).there1; have HT := uh (((Turn.of_below hn.out hB1).alloc (.cells #[.int .u8 0, .int .i64 0, .int .i64 0, .int .i64 0] 79)).laid [.int .u8 1, .int .i64 id, .int .i64 n, .int .i64 sz] rfl); clear hB1)
  | (show sW 79; refine wpList_store_mid rfl 79 _ _ rfl _ 0 #[.int .u8 1, .int .i64 id, .int .i64 n, .int .i64 sz] rfl rfl hth hsz ho ?_; clear hth)
  | fail)
 refine wp_abs (fun W1 => Turn [] w [(w1.heap.size, .cells #[.int .u8 1, .int .i64 id, .int .i64 n, .int .i64 sz] 79)] W1) HT.out fun W1 T1 => ?_
 have c3 := T1.cell1 3
 have Hg2 := uh (fun n => Hgr.out (W1.drewN n) (T1.drewN n).below)
 have HT1 := uh T1
 clear T1 HT
 go_quiet (first | (go_at_call 129; refine Calls.quiet_of_same (Hg2.out _)))
 have Hr := uh (fun n => (HT1.out.drewN n).range1)
 have HB0 := uh (fun n => (HT1.out.drewN n).below)
 clear Hgr Hg2 HT1 c3
 go_wp2_with (first
  | (show lW 79; refine wpList_load_mid rfl 79 _ rfl w1.heap.size 0 rfl [.int .u8 1, .int .i64 id, .int .i64 n, .int .i64 sz] _ (Hr.out _) Tryz.underlying79 rfl hsz ?_)
  | (go_at_call 150; refine (He.out _ (HB0.out _)).mono ?_; rintro e w2 ⟨rfl, hB2⟩; have HB2 := uh ((HB0.out _).trans (hB2.mono (HB0.out _).size)); have c3 := (range_below (Hr.out _) hB2) 3 _ rfl; rw [Nat.zero_add] at c3; clear hB2)
  | (go_at_call 151; refine (Hfl.out _ HB2.out).mono ?_; rintro e w3 ⟨rfl, c3', hT3⟩; have HT3 := uh hT3; clear hT3)
  | (go_at_call 45; refine (Hst.out _ _ HT3.out).mono ?_; rintro e w4 ⟨rfl, c4', hT4⟩; have HT4 := uh hT4; clear hT4)
  | fail)
 go_ret
 exact ⟨rfl, c4', HT4.out⟩
theorem el_u64 : Elem Tryz.prog 61 47 1 8 (.int .u64 0) := Elem.of Tryz.underlying61 (by kernel_rfl) rfl
theorem u64s_one (W : List Nat) : ∀ u ∈ u64s W, u.oneCell' = true := by
 intro u hu
 obtain ⟨x, -, rfl⟩ := List.mem_map.1 hu
 rfl
theorem u64s_setl (W : List Nat) (i v : Nat) : (u64s W).set i (.int .u64 v) = u64s (W.set i v) := by unfold u64s; rw [List.map_set]
def RefIs (rb : Nat) (lao : Option Addr) (ln lcap : Nat) (W : List Nat) (l : List Blk) : Prop :=
 ∃ ao cap lr, Row 47 1 ao W.length cap (u64s W) lr ∧ l = (rb, .cells #[.slice ao W.length cap, .slice lao ln lcap] 109) :: lr
theorem lay9 {l0 l R : List Blk} {w0 : World} (w : World) {rb : Nat} {lao : Option Addr} {ln lcap : Nat} {W : List Nat} (hI : RefIs rb lao ln lcap W l) (T : Turn l0 w0 (l ++ R) w) (hf : W.length ≤ 65536) (g n : Nat) (hg : g + n ≤ W.length / 2) :
  Calls Tryz.prog 191 #[.pointer (some ⟨rb, 0, none⟩), .int .i64 g, .int .i64 n] w fun e w' => (∃ u, e = .returned u) ∧ ∃ l', RefIs rb lao ln lcap (lay W g n) l' ∧ Turn l0 w0 (l' ++ R) w' := by
 by_cases h0 : n = 0
 · subst h0
   have hl : lay W g 0 = W := by unfold lay; rw [if_pos rfl]
   rw [hl]
   have HT := uh T
   have HI := uh hI
   clear T hI hl
   go_enter Tryz.func191, Tryz.ntmps191
   go_wp2
   refine bodyPost_ret (results_none rfl _ _ _) rfl ?_
   exact ⟨⟨_, rfl⟩, l, HI.out, HT.out⟩
 obtain ⟨ao, cap, lr, hrow, rfl⟩ := hI
 have h1 : 1 ≤ n := by omega
 have h2 : n < 16777216 := by omega
 have hl : lay W g n = W.set (2 * g) (gapHd n).word := by unfold lay; rw [if_neg h0]
 rw [hl]
 have Hg := uh (fun W' => gap9 W' n h1 h2)
 generalize (gapHd n).word = z at *
 have T1 := T.perm (l2 := lr ++ ((rb, .cells #[.slice ao W.length cap, .slice lao ln lcap] 109) :: R)) po
 have hsrc := hrow.src T1.has
 have c0 : w.cell? ⟨rb, 0, none⟩ = some (.slice ao W.length cap) := T.has.cell (b := rb) (c := #[.slice ao W.length cap, .slice lao ln lcap]) (e := 109) (f := (0, 0)) (by simp) 0
 have hnil := Row.nil 47 1
 have h63 : 0 + W.length ≤ maxLen := by unfold maxLen; omega
 have hby : (0 + W.length) * 8 ≤ 140737488355328 := by omega
 have hone := u64s_one W
 have HT := uh T
 have hk : ¬ (n : Int) < 1 := by omega
 have hgl : 2 * g < W.length := by omega
 have hgi : 2 * (g : Int) < (W.length : Int) := by omega
 have hgn : (2 * (g : Int)).toNat = 2 * g := by omega
 have hgb : g ≤ 65536 := by omega
 clear T T1 hl hrow
 go_enter Tryz.func191, Tryz.ntmps191
 go_wp2_with (first
  | (at_builtin; refine wpList_append_src rfl _ _ rfl el_u64 rfl rfl hnil (R := (rb, .cells #[.slice ao W.length cap, .slice lao ln lcap] 109) :: lr ++ R) HT.out.has hsrc hone h63 hby ?_; intro ao' cap' lr' w1 hr1 hT1; have Hr1 := uh hr1; have HT1 := uh (HT.out.trans hT1); clear hr1 hT1 hsrc)
  | fail)
 have hr1 : Row 47 1 ao' W.length cap' (u64s W) lr' := by have h := Hr1.out; rwa [Nat.zero_add, List.nil_append] at h
 obtain ⟨gb, cur, rfl, rfl, -, -⟩ := hr1.some_of (by omega)
 have hr2 := hr1.set (2 * g) (.int .u64 z)
 rw [u64s_setl] at hr2
 refine (Hg.out w1).mono ?_
 rintro e w2 ⟨rfl, hB2⟩
 have T2 := HT1.out.call hB2
 have T2' : Turn l0 w0 ((gb, .cells cur 47) :: (rb, .cells #[.slice ao W.length cap, .slice lao ln lcap] 109) :: (lr ++ R)) w2 := T2.perm po
 have hv : (u64s W)[2 * g]? = some (.int .u64 (W[2 * g])) := u64s_get (List.getElem?_eq_getElem hgl)
 have c1 : w2.cell? ⟨gb, 2 * g, none⟩ = some (.int .u64 (W[2 * g])) := (hr1.cell (R := (rb, .cells #[.slice ao W.length cap, .slice lao ln lcap] 109) :: (lr ++ R)) T2'.has (2 * g) (by rw [Nat.mul_one]; exact hgl)).trans hv
 have f1 : w2.frozen? ⟨gb, 2 * g, none⟩ = false := T2'.free1 (2 * g)
 have T3 := T2'.setCell (2 * g) (.int .u64 z)
 have c3 := T3.cell2 0
 have f3 := T3.free2 0
 have c30 : (w2.setCell ⟨gb, 2 * g, none⟩ (.int .u64 z)).cell? ⟨rb, 0, none⟩ = some (.slice ao W.length cap) := c3
 have T4 := (T3.swap.setCell 0 (.slice (some ⟨gb, 0, none⟩) W.length cap'))
 have HT4 := uh T4
 have Hr2 := uh hr2
 clear T2 T2' T3 T4 hB2 HT1 Hr1 hr1 hr2 hv c3
 go_wp2
 go_end0
 refine ⟨⟨_, rfl⟩, (rb, .cells #[.slice (some ⟨gb, 0, none⟩) (W.set (2 * g) z).length cap', .slice lao ln lcap] 109) :: [(gb, .cells (cur.setIfInBounds (2 * g) (.int .u64 z)) 47)], ⟨some ⟨gb, 0, none⟩, cap', [(gb, .cells (cur.setIfInBounds (2 * g) (.int .u64 z)) 47)], ?_, rfl⟩, (HT4.out.perm (l2 := lr ++ ((rb, .cells #[.slice (some ⟨gb, 0, none⟩) (W.set (2 * g) z).length cap', .slice lao ln lcap] 109) :: (gb, .cells (cur.setIfInBounds (2 * g) (.int .u64 z)) 47) :: R)) ?_).drop⟩
 · have h := Hr2.out
   rw [List.length_set]
   exact h
 · rw [List.length_set]
   exact perm_of fun c => by simp; omega
end
section
open Go Go.RowKit Go.Shelf Go.IntWalk
attribute [local go_sem] Oper.semAt_some
def BitIs (bb : Nat) (B : List Nat) (n : Nat) (l : List Blk) : Prop :=
 ∃ bo cap lr, Row 47 1 bo B.length cap (u64s B) lr ∧ l = (bb, .cells #[.slice bo B.length cap, .int .i64 n] 270) :: lr
theorem BitIs.cells {bb : Nat} {B : List Nat} {n : Nat} {l : List Blk} (h : BitIs bb B n l) : ∀ x ∈ l, x.2.isCells = true := by
 obtain ⟨bo, cap, lr, hr, rfl⟩ := h
 intro x hx
 rcases List.mem_cons.1 hx with rfl | hx
 · rfl
 · exact hr.cells x hx
theorem BitIs.cell {bb : Nat} {B : List Nat} {n : Nat} {l R : List Blk} {w : World} (h : BitIs bb B n l) (hH : Has w (l ++ R)) : w.cell? ⟨bb, 1, none⟩ = some (.int .i64 n) := by
 obtain ⟨bo, cap, lr, hr, rfl⟩ := h
 exact hH.cell (b := bb) (c := #[.slice bo B.length cap, .int .i64 n]) (e := 270) (f := (0, 0)) (by simp) 1
theorem bin (w : World) (bb n0 i k : Nat) (c1 : w.cell? ⟨bb, 1, none⟩ = some (.int .i64 n0)) (h : i + k ≤ n0) (h0 : n0 ≤ 65536) :
  Calls Tryz.prog 206 #[.pointer (some ⟨bb, 0, none⟩), .int .i64 i, .int .i64 k] w fun e w' => e = .returned (.int .i64 0) ∧ w' = w := by
 have k1 : decide ((i : Int) ≤ (n0 : Int)) = true := decide_eq_true (by omega)
 have k2 : decide ((k : Int) ≤ (n0 : Int) - (i : Int)) = true := decide_eq_true (by omega)
 have k3 : decide (i ≤ n0) = true := decide_eq_true (by omega)
 go_enter Tryz.func206, Tryz.ntmps206
 go_wp2_with fail
 go_ret
 exact ⟨rfl, rfl⟩
attribute [local go_sem] Oper.semAt_some
def pcBlks (s bb : Nat) (vi vn : Value) : List Blk := [(s + 1 + 1, .cells #[vn] 3), (s + 1, .cells #[vi] 3), (s, .cells #[.pointer (some ⟨bb, 0, none⟩)] 144)]
theorem pcBlks_cells (s bb : Nat) (vi vn : Value) : ∀ x ∈ pcBlks s bb vi vn, x.2.isCells = true := by
 intro x hx
 simp only [pcBlks, List.mem_cons, List.not_mem_nil, or_false] at hx
 rcases hx with rfl | rfl | rfl <;> rfl
theorem pc_up {l X : List Blk} {w A B : World} {s bb : Nat} {vi vn : Value} (hT : Turn l w (pcBlks s bb vi vn ++ X) A) (hu : UpBox (s + 1 + 1) (s + 1) A B) : ∃ vi vn, Turn l w (pcBlks s bb vi vn ++ X) B := by
 obtain ⟨v, rfl | rfl⟩ := hu
 · exact ⟨vi, v, Turn.setCell (c := #[vn]) hT 0 v⟩
 · exact ⟨v, vn, (Turn.setCell (c := #[vi]) hT.swap 0 v).swap⟩
theorem pc_marks {A B : World} {D Bn Bi : Nat} (r : Loop) (hu : UpBox Bn Bi A B) (hm : Marks D r A) : Marks D r B := by
 obtain ⟨v, rfl | rfl⟩ := hu
 · exact hm.keeps ((KeepsOthers.setCell _ _ _).from _)
 · exact hm.keeps ((KeepsOthers.setCell _ _ _).from _)
theorem pc_kp {l X Y X' Y' : List Blk} {w W' A : World} {s bb : Nat} {vi vn : Value} (h : Turn l w (X ++ (pcBlks s bb vi vn ++ Y)) A) (h' : Turn l w (X' ++ (pcBlks s bb vi vn ++ Y')) W') : KpBox (s + 1 + 1) (s + 1) A W' :=
 have m1 : (s + 1 + 1, Obj.cells #[vn] 3 (0, 0)) ∈ pcBlks s bb vi vn := by simp [pcBlks]
 have m2 : (s + 1, Obj.cells #[vi] 3 (0, 0)) ∈ pcBlks s bb vi vn := by simp [pcBlks]
 ⟨(h'.has.own _ _ (List.mem_append_right _ (List.mem_append_left _ m1))).trans (h.has.own _ _ (List.mem_append_right _ (List.mem_append_left _ m1))).symm,
  (h'.has.own _ _ (List.mem_append_right _ (List.mem_append_left _ m2))).trans (h.has.own _ _ (List.mem_append_right _ (List.mem_append_left _ m2))).symm⟩
def setAct (s nb bb i k : Nat) (x : Nat × Nat) : Act :=
 { tmps := #[.pointer (some ⟨bb, 0, none⟩), .int .i64 i, .int .i64 k, .pointer (some ⟨s, 0, none⟩), undef, undef, .int .i64 0, .int .i64 0, .pointer (some ⟨nb, 0, none⟩), .pointer (some ⟨bb, 0, none⟩), .int .i64 i, .int .i64 k, .int .i64 0, .int .i64 0, .bool false, undef, .int .i64 i, .int .i64 k,
   .func (.func 244) #[] #[.pointer (some ⟨s + 1 + 1, 0, none⟩), .pointer (some ⟨s + 1, 0, none⟩)], .agg #[.int .i64 (x.1 / 64 : Nat), .int .i64 (x.1 % 64 : Nat), .int .u64 (pmask x.2 (x.1 % 64) : Nat)], undef, undef, undef, undef, undef, undef, undef, undef, undef, undef, undef, undef, undef], defers := [] }
def pcCells (x : Nat × Nat) : Obj := .cells #[.int .i64 (x.1 / 64 : Nat), .int .i64 (x.1 % 64 : Nat), .int .u64 (pmask x.2 (x.1 % 64) : Nat)] 343
theorem bsetrun_in (n : Nat) (hn : 4 ≤ n) (bb n0 i k : Nat) (B : List Nat) (l : List Blk) (hI : BitIs bb B n0 l) (hB : u64ok B) (hL : (n0 + 63) / 64 ≤ B.length) (h : i + k ≤ n0) (h0 : n0 ≤ 65536) (w : World) (hH : Has w l) :
  CallsIn Fence.wide n Tryz.prog 152 #[.pointer (some ⟨bb, 0, none⟩), .int .i64 i, .int .i64 k] w fun e W' => e = .returned (.int .i64 0) ∧ ∃ B' l', SetIn B B' i k ∧ BitIs bb B' n0 l' ∧ Turn l w l' W' := by
 have h1 : 1 ≤ n := by omega
 have h2 : 1 ≤ n - 1 - 1 := by omega
 have h3 : Fence.wide.fn 152 := trivial
 have h5 : Fence.wide.fn 206 := trivial
 have h6 : Fence.wide.fn 207 := trivial
 have h7 : Fence.wide.fn 244 := trivial
 have hro : Fence.wide.round = none := rfl
 have T1 := (Turn.refl hH).alloc (.cells #[.pointer (some ⟨bb, 0, none⟩)] 144)
 have c1 : (w.alloc (.cells #[.pointer (some ⟨bb, 0, none⟩)] 144)).cell? ⟨bb, 1, none⟩ = some (.int .i64 n0) := hI.cell (R := [(w.heap.size, .cells #[.pointer (some ⟨bb, 0, none⟩)] 144)]) (T1.has.perm po)
 have T3 := (T1.alloc (.cells #[.int .i64 i] 3)).alloc (.cells #[.int .i64 k] 3)
 simp only [World.size_alloc] at T3
 have hT0 : Turn l w (pcBlks w.heap.size bb (.int .i64 i) (.int .i64 k) ++ l) (((w.alloc (.cells #[.pointer (some ⟨bb, 0, none⟩)] 144)).alloc (.cells #[.int .i64 i] 3)).alloc (.cells #[.int .i64 k] 3)) := T3
 have hsz0 : (((w.alloc (.cells #[.pointer (some ⟨bb, 0, none⟩)] 144)).alloc (.cells #[.int .i64 i] 3)).alloc (.cells #[.int .i64 k] 3)).heap.size = w.heap.size + 3 := by simp
 clear T1 T3
 refine callsIn_of_wp_marks Tryz.func152 rfl h3 ?_ hro
 simp only [Tryz.ntmps152, List.size_toArray, List.length_cons, List.length_nil, Nat.reduceAdd, Nat.reduceSub, Array.replicate_succ, Array.replicate_zero, List.push_toArray, List.append_toArray, List.nil_append, List.cons_append]
 gi_wp2_with (first
  | (gi_at_call 206; refine (callsIn_wide.2 (bin _ bb n0 i k c1 h h0)).mono ?_; rintro e w' ⟨rfl, hw⟩; rw [hw]; clear hw w')
  | (gi_at_call 207; refine (pieces_in (n - 1) _ _ _).mono ?_; rintro e w' ⟨rfl, hw⟩; rw [hw]; clear hw w')
  | fail)
 generalize (((w.alloc (.cells #[.pointer (some ⟨bb, 0, none⟩)] 144)).alloc (.cells #[.int .i64 i] 3)).alloc (.cells #[.int .i64 k] 3)) = W0 at *
 clear c1
 have hbx : Has W0 (pcBoxes (w.heap.size + 1 + 1) (w.heap.size + 1) k i) := hT0.has.sub (by
  show List.Sublist (pcBoxes (w.heap.size + 1 + 1) (w.heap.size + 1) k i) (pcBlks w.heap.size bb (.int .i64 i) (.int .i64 k) ++ l)
  exact ((List.Sublist.refl [_, _]).append (List.nil_sublist _)))
 refine wpIn_rangeFunc_up hro h1 (gf := 244) (lb := #[.pointer (some ⟨w.heap.size + 1 + 1, 0, none⟩), .pointer (some ⟨w.heap.size + 1, 0, none⟩)]) rfl h7 (enters_of Tryz.func244 (by kernel_rfl) rfl)
  (pieces_up (n - 1) (by omega) (w.heap.size + 1 + 1) (w.heap.size + 1) i k (by omega) W0 hbx) (fun A B r hu hm => pc_marks r hu hm) (fun h k => ⟨k.n.trans h.n, k.i.trans h.i⟩)
  (fun W l o o' hl' hwl hc hw => ⟨World.putObj_heap_other (by omega), World.putObj_heap_other (by omega)⟩) (Below.refl _ _) (fun _ => rfl)
  (fun pre W => ∃ B' l' vi vn, SetIn B B' i (sumK pre) ∧ BitIs bb B' n0 l' ∧ Turn l w (pcBlks w.heap.size bb vi vn ++ l') W)
  (fun _ _ _ => False)
  (fun x a' pre W => ∃ nb B' l' vi vn, a' = setAct w.heap.size nb bb i k x ∧ SetIn B B' i (sumK pre) ∧ BitIs bb B' n0 l' ∧ Turn l w ((nb, pcCells x) :: (pcBlks w.heap.size bb vi vn ++ l')) W)
  (fun s A D row ⟨B', l', vi, vn, e1, e2, hT⟩ hg hr => ⟨B', l', vi, vn, e1, e2, hT.grownB (by omega) (fun x hx => (List.mem_append.1 hx).elim (pcBlks_cells _ _ _ _ x) (e2.cells x)) hg hr⟩)
  (fun c s A D row hf => hf.elim)
  (fun x a' s A D row ⟨nb, B', l', vi, vn, e0, e1, e2, hT⟩ hg hr => ⟨nb, B', l', vi, vn, e0, e1, e2, hT.grownB (by omega) (by
    intro y hy
    rcases List.mem_cons.1 hy with rfl | hy
    · rfl
    · exact (List.mem_append.1 hy).elim (pcBlks_cells _ _ _ _ y) (e2.cells y)) hg hr⟩)
  ⟨B, l, .int .i64 i, .int .i64 k, SetIn.refl hB i, hI, hT0⟩
  (fun pre A D ⟨B', l', vi, vn, e1, e2, hT⟩ hu => by
    obtain ⟨vi', vn', hT'⟩ := pc_up hT hu
    exact ⟨B', l', vi', vn', e1, e2, hT'⟩) ?assign ?body ?done ?stop
 case assign =>
  rintro l1 pre x W hnx ⟨B', l', vi, vn, e1, e2, hT⟩
  have HT1 := uh (hT.alloc (pcCells x))
  have HT := uh hT
  have HE := uh (⟨e1, e2⟩ : SetIn B B' i (sumK pre) ∧ BitIs bb B' n0 l')
  clear hnx hT e1 e2 hT0 hbx
  obtain ⟨x1, x2⟩ := x
  unfold pcArgs
  gi_wp2_with fail
  exact ⟨(KeepsOthers.alloc _ _).from _, pc_kp (X := []) (X' := [_]) HT.out HT1.out, W.heap.size, B', l', vi, vn, rfl, HE.out.1, HE.out.2, HT1.out⟩
 case body =>
  rintro l1 pre x a' W hnx ⟨nb, B', l', vi, vn, rfl, e1, e2, hT⟩
  obtain ⟨hlt, rfl⟩ := hnx
  have hpk := pk_le (i + sumK pre) (k - sumK pre)
  have hpn := pk_n (i + sumK pre) (k - sumK pre)
  have hq : (i + sumK pre) / 64 < B'.length := by rw [e1.1]; omega
  have HE1 := uh (e1.step (k := pk (i + sumK pre) (k - sumK pre)) hpk (by rw [← e1.1]; exact hq))
  have hsn : sumK (pre ++ [(i + sumK pre, pk (i + sumK pre) (k - sumK pre))]) = sumK pre + pk (i + sumK pre) (k - sumK pre) := sumK_snoc ..
  have hub := getD_u64 e1.2.1 ((i + sumK pre) / 64)
  have hmb := pmask_lt hpk
  have horx := or_lt hub hmb
  have hcs : ∀ x ∈ (nb, pcCells (i + sumK pre, pk (i + sumK pre) (k - sumK pre))) :: (pcBlks w.heap.size bb vi vn ++ l'), x.2.isCells = true := by
   intro y hy
   rcases List.mem_cons.1 hy with rfl | hy
   · rfl
   · exact (List.mem_append.1 hy).elim (pcBlks_cells _ _ _ _ y) (e2.cells y)
  obtain ⟨bo, cap, lr, hrow, rfl⟩ := e2
  obtain ⟨gb, cur, rfl, rfl, -, -⟩ := hrow.some_of (by omega)
  have hr2 := hrow.set ((i + sumK pre) / 64) (.int .u64 (B'.getD ((i + sumK pre) / 64) 0 ||| pmask (pk (i + sumK pre) (k - sumK pre)) ((i + sumK pre) % 64) : Nat))
  rw [u64s_setl] at hr2
  have hgd : B'.getD ((i + sumK pre) / 64) 0 = B'[(i + sumK pre) / 64] := by rw [List.getD_eq_getElem?_getD, List.getElem?_eq_getElem hq]; rfl
  have hv : (u64s B')[(i + sumK pre) / 64]? = some (.int .u64 (B'.getD ((i + sumK pre) / 64) 0 : Nat)) := by rw [hgd]; exact u64s_get (List.getElem?_eq_getElem hq)
  have hor : bits .or .u64 ((B'.getD ((i + sumK pre) / 64) 0 : Nat) : Int) ((pmask (pk (i + sumK pre) (k - sumK pre)) ((i + sumK pre) % 64) : Nat) : Int) = ((B'.getD ((i + sumK pre) / 64) 0 ||| pmask (pk (i + sumK pre) (k - sumK pre)) ((i + sumK pre) % 64) : Nat) : Int) := bits_or_u64_nat _ _ hub hmb
  have T2 := hT.perm (l2 := (gb, .cells cur 47) :: ((nb, pcCells (i + sumK pre, pk (i + sumK pre) (k - sumK pre))) :: (pcBlks w.heap.size bb vi vn ++ [(bb, .cells #[.slice (some ⟨gb, 0, none⟩) B'.length cap, .int .i64 n0] 270)]))) (perm_of fun c => by simp [pcBlks]; omega)
  have cg : W.cell? ⟨gb, (i + sumK pre) / 64, none⟩ = some (.int .u64 (B'.getD ((i + sumK pre) / 64) 0 : Nat)) := (hrow.cell (R := (nb, pcCells (i + sumK pre, pk (i + sumK pre) (k - sumK pre))) :: (pcBlks w.heap.size bb vi vn ++ [(bb, .cells #[.slice (some ⟨gb, 0, none⟩) B'.length cap, .int .i64 n0] 270)])) T2.has ((i + sumK pre) / 64) (by rw [Nat.mul_one]; exact hq)).trans hv
  have fg : W.frozen? ⟨gb, (i + sumK pre) / 64, none⟩ = false := T2.free1 _
  have cn0 : W.cell? ⟨nb, 0, none⟩ = some (.int .i64 ((i + sumK pre) / 64 : Nat)) := hT.cell1 0
  have cn2 : W.cell? ⟨nb, 2, none⟩ = some (.int .u64 (pmask (pk (i + sumK pre) (k - sumK pre)) ((i + sumK pre) % 64) : Nat)) := hT.cell1 2
  have cs0 : W.cell? ⟨w.heap.size, 0, none⟩ = some (.pointer (some ⟨bb, 0, none⟩)) := hT.has.cell (b := w.heap.size) (c := #[.pointer (some ⟨bb, 0, none⟩)]) (e := 144) (f := (0, 0)) (by simp [pcBlks]) 0
  have cb0 : W.cell? ⟨bb, 0, none⟩ = some (.slice (some ⟨gb, 0, none⟩) B'.length cap) := hT.has.cell (b := bb) (c := #[.slice (some ⟨gb, 0, none⟩) B'.length cap, .int .i64 n0]) (e := 270) (f := (0, 0)) (by simp [pcBlks]) 0
  have T5 := (T2.setCell ((i + sumK pre) / 64) (.int .u64 (B'.getD ((i + sumK pre) / 64) 0 ||| pmask (pk (i + sumK pre) (k - sumK pre)) ((i + sumK pre) % 64) : Nat))).perm (l2 := (nb, pcCells (i + sumK pre, pk (i + sumK pre) (k - sumK pre))) :: (pcBlks w.heap.size bb vi vn ++ [(bb, .cells #[.slice (some ⟨gb, 0, none⟩) B'.length cap, .int .i64 n0] 270), (gb, .cells (cur.setIfInBounds ((i + sumK pre) / 64) (.int .u64 (B'.getD ((i + sumK pre) / 64) 0 ||| pmask (pk (i + sumK pre) (k - sumK pre)) ((i + sumK pre) % 64) : Nat))) 47)])) (perm_of fun c => by simp [pcBlks]; omega)
  have HT5 := uh T5
  have HT := uh hT
  have Hr2 := uh hr2
  have Hsn := uh hsn
  have hqi : (((i + sumK pre) / 64 : Nat) : Int) < (B'.length : Int) := by omega
  clear hT T2 T5 hr2 hsn hrow hv e1 hbx hT0 hgd hpn hpk
  unfold orAt at HE1
  unfold setAct
  simp only
  generalize hmk : pmask (pk (i + sumK pre) (k - sumK pre)) ((i + sumK pre) % 64) = mk at *
  generalize hq1 : (i + sumK pre) / 64 = q at *
  generalize hq2 : B'.getD q 0 = bv at *
  generalize hq3 : (i + sumK pre) % 64 = r at *
  gi_wp2_with fail
  refine wpIn_region_still_tail (follows_round _ _ _) 13 (by kernel_rfl) (by kernel_rfl) (by kernel_rfl) ?_
  simp only [List.take_succ_cons, List.take_zero, List.drop_succ_cons, List.drop_zero]
  iterate 13 still_step
  refine wpStill_nil ?_
  gi_wp2_with fail
  have HT6 := HT5.out.drew
  refine ⟨⟨(KeepsOthers.setCell W _ _).size, fun k o _ hk ho => (KeepsOthers.setCell W _ _).same k o hk ho⟩, pc_kp (X := [_]) (X' := [_]) HT.out HT6, B'.set q (.lor bv mk), _, vi, vn, by rw [Hsn.out]; exact HE1.out, ⟨some ⟨gb, 0, none⟩, cap, _, by rw [List.length_set]; exact Hr2.out, by rw [List.length_set]⟩, HT6.tail⟩
 case done =>
  rintro D xs W hD hS ⟨B', l', vi, vn, e1, e2, hT⟩ hK
  rw [hS] at e1
  have T5 := hT.grownB (B := W0.heap.size) (by omega) (fun x hx => (List.mem_append.1 hx).elim (pcBlks_cells _ _ _ _ x) (e2.cells x)) (grownBy_putObj' W D (.deferred none)) (fun r e => by cases e; exact ⟨hD, _, hK, rfl⟩)
  have HT5 := uh T5.drop
  have HE := uh (⟨e1, e2⟩ : SetIn B B' i k ∧ BitIs bb B' n0 l')
  clear hT T5 e1 e2 hT0 hbx hS
  gi_wp2_with fail
  refine ⟨by simp, .inl ⟨_, _, rfl, run_takeDeferred hK, ?_⟩⟩
  refine ⟨.int .i64 0, ?_, rfl, B', l', HE.out.1, HE.out.2, HT5.out⟩
  simp [results, Tryz.results152, go_sem]
 case stop => exact fun D c pre W _ hf _ => hf.elim
attribute [local go_sem] Oper.semAt_some
def clrAct (s nb bb i k : Nat) (x : Nat × Nat) : Act :=
 { tmps := #[.pointer (some ⟨bb, 0, none⟩), .int .i64 i, .int .i64 k, .pointer (some ⟨s, 0, none⟩), undef, undef, .int .i64 0, .int .i64 0, .pointer (some ⟨nb, 0, none⟩), undef, .pointer (some ⟨bb, 0, none⟩), .int .i64 i, .int .i64 k, .int .i64 0, .int .i64 0, .bool false, undef, .int .i64 i, .int .i64 k,
   .func (.func 244) #[] #[.pointer (some ⟨s + 1 + 1, 0, none⟩), .pointer (some ⟨s + 1, 0, none⟩)], .agg #[.int .i64 (x.1 / 64 : Nat), .int .i64 (x.1 % 64 : Nat), .int .u64 (pmask x.2 (x.1 % 64) : Nat)], undef, undef, undef, undef, undef, undef, undef, undef, undef, undef, undef, undef, undef, undef], defers := [] }
theorem bclrrun_in (n : Nat) (hn : 4 ≤ n) (bb n0 i k : Nat) (B : List Nat) (l : List Blk) (hI : BitIs bb B n0 l) (hB : u64ok B) (hL : (n0 + 63) / 64 ≤ B.length) (h : i + k ≤ n0) (h0 : n0 ≤ 65536) (w : World) (hH : Has w l) :
  CallsIn Fence.wide n Tryz.prog 155 #[.pointer (some ⟨bb, 0, none⟩), .int .i64 i, .int .i64 k] w fun e W' => e = .returned (.int .i64 0) ∧ ∃ B' l', ClrIn B B' i k ∧ BitIs bb B' n0 l' ∧ Turn l w l' W' := by
 have h1 : 1 ≤ n := by omega
 have h2 : 1 ≤ n - 1 - 1 := by omega
 have h3 : Fence.wide.fn 155 := trivial
 have h5 : Fence.wide.fn 206 := trivial
 have h6 : Fence.wide.fn 207 := trivial
 have h7 : Fence.wide.fn 244 := trivial
 have hro : Fence.wide.round = none := rfl
 have T1 := (Turn.refl hH).alloc (.cells #[.pointer (some ⟨bb, 0, none⟩)] 144)
 have c1 : (w.alloc (.cells #[.pointer (some ⟨bb, 0, none⟩)] 144)).cell? ⟨bb, 1, none⟩ = some (.int .i64 n0) := hI.cell (R := [(w.heap.size, .cells #[.pointer (some ⟨bb, 0, none⟩)] 144)]) (T1.has.perm po)
 have T3 := (T1.alloc (.cells #[.int .i64 i] 3)).alloc (.cells #[.int .i64 k] 3)
 simp only [World.size_alloc] at T3
 have hT0 : Turn l w (pcBlks w.heap.size bb (.int .i64 i) (.int .i64 k) ++ l) (((w.alloc (.cells #[.pointer (some ⟨bb, 0, none⟩)] 144)).alloc (.cells #[.int .i64 i] 3)).alloc (.cells #[.int .i64 k] 3)) := T3
 have hsz0 : (((w.alloc (.cells #[.pointer (some ⟨bb, 0, none⟩)] 144)).alloc (.cells #[.int .i64 i] 3)).alloc (.cells #[.int .i64 k] 3)).heap.size = w.heap.size + 3 := by simp
 clear T1 T3
 refine callsIn_of_wp_marks Tryz.func155 rfl h3 ?_ hro
 simp only [Tryz.ntmps155, List.size_toArray, List.length_cons, List.length_nil, Nat.reduceAdd, Nat.reduceSub, Array.replicate_succ, Array.replicate_zero, List.push_toArray, List.append_toArray, List.nil_append, List.cons_append]
 gi_wp2_with (first
  | (gi_at_call 206; refine (callsIn_wide.2 (bin _ bb n0 i k c1 h h0)).mono ?_; rintro e w' ⟨rfl, hw⟩; rw [hw]; clear hw w')
  | (gi_at_call 207; refine (pieces_in (n - 1) _ _ _).mono ?_; rintro e w' ⟨rfl, hw⟩; rw [hw]; clear hw w')
  | fail)
 generalize (((w.alloc (.cells #[.pointer (some ⟨bb, 0, none⟩)] 144)).alloc (.cells #[.int .i64 i] 3)).alloc (.cells #[.int .i64 k] 3)) = W0 at *
 clear c1
 have hbx : Has W0 (pcBoxes (w.heap.size + 1 + 1) (w.heap.size + 1) k i) := hT0.has.sub (by
  show List.Sublist (pcBoxes (w.heap.size + 1 + 1) (w.heap.size + 1) k i) (pcBlks w.heap.size bb (.int .i64 i) (.int .i64 k) ++ l)
  exact ((List.Sublist.refl [_, _]).append (List.nil_sublist _)))
 refine wpIn_rangeFunc_up hro h1 (gf := 244) (lb := #[.pointer (some ⟨w.heap.size + 1 + 1, 0, none⟩), .pointer (some ⟨w.heap.size + 1, 0, none⟩)]) rfl h7 (enters_of Tryz.func244 (by kernel_rfl) rfl)
  (pieces_up (n - 1) (by omega) (w.heap.size + 1 + 1) (w.heap.size + 1) i k (by omega) W0 hbx) (fun A B r hu hm => pc_marks r hu hm) (fun h k => ⟨k.n.trans h.n, k.i.trans h.i⟩)
  (fun W l o o' hl' hwl hc hw => ⟨World.putObj_heap_other (by omega), World.putObj_heap_other (by omega)⟩) (Below.refl _ _) (fun _ => rfl)
  (fun pre W => ∃ B' l' vi vn, ClrIn B B' i (sumK pre) ∧ BitIs bb B' n0 l' ∧ Turn l w (pcBlks w.heap.size bb vi vn ++ l') W)
  (fun _ _ _ => False)
  (fun x a' pre W => ∃ nb B' l' vi vn, a' = clrAct w.heap.size nb bb i k x ∧ ClrIn B B' i (sumK pre) ∧ BitIs bb B' n0 l' ∧ Turn l w ((nb, pcCells x) :: (pcBlks w.heap.size bb vi vn ++ l')) W)
  (fun s A D row ⟨B', l', vi, vn, e1, e2, hT⟩ hg hr => ⟨B', l', vi, vn, e1, e2, hT.grownB (by omega) (fun x hx => (List.mem_append.1 hx).elim (pcBlks_cells _ _ _ _ x) (e2.cells x)) hg hr⟩)
  (fun c s A D row hf => hf.elim)
  (fun x a' s A D row ⟨nb, B', l', vi, vn, e0, e1, e2, hT⟩ hg hr => ⟨nb, B', l', vi, vn, e0, e1, e2, hT.grownB (by omega) (by
    intro y hy
    rcases List.mem_cons.1 hy with rfl | hy
    · rfl
    · exact (List.mem_append.1 hy).elim (pcBlks_cells _ _ _ _ y) (e2.cells y)) hg hr⟩)
  ⟨B, l, .int .i64 i, .int .i64 k, ClrIn.refl hB i, hI, hT0⟩
  (fun pre A D ⟨B', l', vi, vn, e1, e2, hT⟩ hu => by
    obtain ⟨vi', vn', hT'⟩ := pc_up hT hu
    exact ⟨B', l', vi', vn', e1, e2, hT'⟩) ?assign ?body ?done ?stop
 case assign =>
  rintro l1 pre x W hnx ⟨B', l', vi, vn, e1, e2, hT⟩
  have HT1 := uh (hT.alloc (pcCells x))
  have HT := uh hT
  have HE := uh (⟨e1, e2⟩ : ClrIn B B' i (sumK pre) ∧ BitIs bb B' n0 l')
  clear hnx hT e1 e2 hT0 hbx
  obtain ⟨x1, x2⟩ := x
  unfold pcArgs
  gi_wp2_with fail
  exact ⟨(KeepsOthers.alloc _ _).from _, pc_kp (X := []) (X' := [_]) HT.out HT1.out, W.heap.size, B', l', vi, vn, rfl, HE.out.1, HE.out.2, HT1.out⟩
 case body =>
  rintro l1 pre x a' W hnx ⟨nb, B', l', vi, vn, rfl, e1, e2, hT⟩
  obtain ⟨hlt, rfl⟩ := hnx
  have hpk := pk_le (i + sumK pre) (k - sumK pre)
  have hpn := pk_n (i + sumK pre) (k - sumK pre)
  have hq : (i + sumK pre) / 64 < B'.length := by rw [e1.1]; omega
  have HE1 := uh (e1.step (k := pk (i + sumK pre) (k - sumK pre)) hpk (by rw [← e1.1]; exact hq))
  have hsn : sumK (pre ++ [(i + sumK pre, pk (i + sumK pre) (k - sumK pre))]) = sumK pre + pk (i + sumK pre) (k - sumK pre) := sumK_snoc ..
  have hub := getD_u64 e1.2.1 ((i + sumK pre) / 64)
  have hmb := pmask_lt hpk
  have horx := clr_lt (B'.getD ((i + sumK pre) / 64) 0) (pmask (pk (i + sumK pre) (k - sumK pre)) ((i + sumK pre) % 64))
  have hcs : ∀ x ∈ (nb, pcCells (i + sumK pre, pk (i + sumK pre) (k - sumK pre))) :: (pcBlks w.heap.size bb vi vn ++ l'), x.2.isCells = true := by
   intro y hy
   rcases List.mem_cons.1 hy with rfl | hy
   · rfl
   · exact (List.mem_append.1 hy).elim (pcBlks_cells _ _ _ _ y) (e2.cells y)
  obtain ⟨bo, cap, lr, hrow, rfl⟩ := e2
  obtain ⟨gb, cur, rfl, rfl, -, -⟩ := hrow.some_of (by omega)
  have hr2 := hrow.set ((i + sumK pre) / 64) (.int .u64 (clr (B'.getD ((i + sumK pre) / 64) 0) (pmask (pk (i + sumK pre) (k - sumK pre)) ((i + sumK pre) % 64)) : Nat))
  rw [u64s_setl] at hr2
  have hgd : B'.getD ((i + sumK pre) / 64) 0 = B'[(i + sumK pre) / 64] := by rw [List.getD_eq_getElem?_getD, List.getElem?_eq_getElem hq]; rfl
  have hv : (u64s B')[(i + sumK pre) / 64]? = some (.int .u64 (B'.getD ((i + sumK pre) / 64) 0 : Nat)) := by rw [hgd]; exact u64s_get (List.getElem?_eq_getElem hq)
  have hor : bits .andNot .u64 ((B'.getD ((i + sumK pre) / 64) 0 : Nat) : Int) ((pmask (pk (i + sumK pre) (k - sumK pre)) ((i + sumK pre) % 64) : Nat) : Int) = ((clr (B'.getD ((i + sumK pre) / 64) 0) (pmask (pk (i + sumK pre) (k - sumK pre)) ((i + sumK pre) % 64)) : Nat) : Int) := andNot_bits
  have T2 := hT.perm (l2 := (gb, .cells cur 47) :: ((nb, pcCells (i + sumK pre, pk (i + sumK pre) (k - sumK pre))) :: (pcBlks w.heap.size bb vi vn ++ [(bb, .cells #[.slice (some ⟨gb, 0, none⟩) B'.length cap, .int .i64 n0] 270)]))) (perm_of fun c => by simp [pcBlks]; omega)
  have cg : W.cell? ⟨gb, (i + sumK pre) / 64, none⟩ = some (.int .u64 (B'.getD ((i + sumK pre) / 64) 0 : Nat)) := (hrow.cell (R := (nb, pcCells (i + sumK pre, pk (i + sumK pre) (k - sumK pre))) :: (pcBlks w.heap.size bb vi vn ++ [(bb, .cells #[.slice (some ⟨gb, 0, none⟩) B'.length cap, .int .i64 n0] 270)])) T2.has ((i + sumK pre) / 64) (by rw [Nat.mul_one]; exact hq)).trans hv
  have fg : W.frozen? ⟨gb, (i + sumK pre) / 64, none⟩ = false := T2.free1 _
  have cn0 : W.cell? ⟨nb, 0, none⟩ = some (.int .i64 ((i + sumK pre) / 64 : Nat)) := hT.cell1 0
  have cn2 : W.cell? ⟨nb, 2, none⟩ = some (.int .u64 (pmask (pk (i + sumK pre) (k - sumK pre)) ((i + sumK pre) % 64) : Nat)) := hT.cell1 2
  have cs0 : W.cell? ⟨w.heap.size, 0, none⟩ = some (.pointer (some ⟨bb, 0, none⟩)) := hT.has.cell (b := w.heap.size) (c := #[.pointer (some ⟨bb, 0, none⟩)]) (e := 144) (f := (0, 0)) (by simp [pcBlks]) 0
  have cb0 : W.cell? ⟨bb, 0, none⟩ = some (.slice (some ⟨gb, 0, none⟩) B'.length cap) := hT.has.cell (b := bb) (c := #[.slice (some ⟨gb, 0, none⟩) B'.length cap, .int .i64 n0]) (e := 270) (f := (0, 0)) (by simp [pcBlks]) 0
  have T5 := (T2.setCell ((i + sumK pre) / 64) (.int .u64 (clr (B'.getD ((i + sumK pre) / 64) 0) (pmask (pk (i + sumK pre) (k - sumK pre)) ((i + sumK pre) % 64)) : Nat))).perm (l2 := (nb, pcCells (i + sumK pre, pk (i + sumK pre) (k - sumK pre))) :: (pcBlks w.heap.size bb vi vn ++ [(bb, .cells #[.slice (some ⟨gb, 0, none⟩) B'.length cap, .int .i64 n0] 270), (gb, .cells (cur.setIfInBounds ((i + sumK pre) / 64) (.int .u64 (clr (B'.getD ((i + sumK pre) / 64) 0) (pmask (pk (i + sumK pre) (k - sumK pre)) ((i + sumK pre) % 64)) : Nat))) 47)])) (perm_of fun c => by simp [pcBlks]; omega)
  have HT5 := uh T5
  have HT := uh hT
  have Hr2 := uh hr2
  have Hsn := uh hsn
  have hqi : (((i + sumK pre) / 64 : Nat) : Int) < (B'.length : Int) := by omega
  clear hT T2 T5 hr2 hsn hrow hv e1 hbx hT0 hgd hpn hpk
  unfold clrAt at HE1
  unfold clrAct
  simp only
  generalize hmk : pmask (pk (i + sumK pre) (k - sumK pre)) ((i + sumK pre) % 64) = mk at *
  generalize hq1 : (i + sumK pre) / 64 = q at *
  generalize hq2 : B'.getD q 0 = bv at *
  generalize hq3 : (i + sumK pre) % 64 = r at *
  gi_wp2_with fail
  refine wpIn_region_still_tail (follows_round _ _ _) 12 (by kernel_rfl) (by kernel_rfl) (by kernel_rfl) ?_
  simp only [List.take_succ_cons, List.take_zero, List.drop_succ_cons, List.drop_zero]
  iterate 12 still_step
  refine wpStill_nil ?_
  gi_wp2_with fail
  have HT6 := HT5.out.drew
  refine ⟨⟨(KeepsOthers.setCell W _ _).size, fun k o _ hk ho => (KeepsOthers.setCell W _ _).same k o hk ho⟩, pc_kp (X := [_]) (X' := [_]) HT.out HT6, B'.set q (clr bv mk), _, vi, vn, by rw [Hsn.out]; exact HE1.out, ⟨some ⟨gb, 0, none⟩, cap, _, by rw [List.length_set]; exact Hr2.out, by rw [List.length_set]⟩, HT6.tail⟩
 case done =>
  rintro D xs W hD hS ⟨B', l', vi, vn, e1, e2, hT⟩ hK
  rw [hS] at e1
  have T5 := hT.grownB (B := W0.heap.size) (by omega) (fun x hx => (List.mem_append.1 hx).elim (pcBlks_cells _ _ _ _ x) (e2.cells x)) (grownBy_putObj' W D (.deferred none)) (fun r e => by cases e; exact ⟨hD, _, hK, rfl⟩)
  have HT5 := uh T5.drop
  have HE := uh (⟨e1, e2⟩ : ClrIn B B' i k ∧ BitIs bb B' n0 l')
  clear hT T5 e1 e2 hT0 hbx hS
  gi_wp2_with fail
  refine ⟨by simp, .inl ⟨_, _, rfl, run_takeDeferred hK, ?_⟩⟩
  refine ⟨.int .i64 0, ?_, rfl, B', l', HE.out.1, HE.out.2, HT5.out⟩
  simp [results, Tryz.results155, go_sem]
 case stop => exact fun D c pre W _ hf _ => hf.elim
theorem bset {l0 : List Blk} {w0 : World} (w : World) (bb n0 i : Nat) (B : List Nat) (l R : List Blk) (hI : BitIs bb B n0 l) (hB : u64ok B) (hL : (n0 + 63) / 64 ≤ B.length) (h : i < n0) (h0 : n0 ≤ 65536) (T : Turn l0 w0 (l ++ R) w) :
  Calls Tryz.prog 67 #[.pointer (some ⟨bb, 0, none⟩), .int .i64 i] w fun e w' => e = .returned (.int .i64 0) ∧ ∃ B' l', SetIn B B' i 1 ∧ BitIs bb B' n0 l' ∧ Turn l0 w0 (l' ++ R) w' := by
 have H := uh ((callsIn_wide (n := 4)).1 (bsetrun_in 4 (by omega) bb n0 i 1 B l hI hB hL (by omega) h0 w (T.has.sub (List.sublist_append_left l R))))
 have HT := uh T
 clear T
 go_enter Tryz.func67, Tryz.ntmps67
 go_wp2_with fail
 refine H.out.mono ?_
 rintro e w1 ⟨rfl, B', l', h1, h2, T1⟩
 have HX := uh (⟨h1, h2, HT.out.trans (T1.more HT.out.has)⟩ : SetIn B B' i 1 ∧ BitIs bb B' n0 l' ∧ Turn l0 w0 (l' ++ R) w1)
 clear h1 h2 T1 HT H
 go_wp2_with fail
 go_ret
 exact ⟨rfl, B', l', HX.out⟩
theorem bclear {l0 : List Blk} {w0 : World} (w : World) (bb n0 i : Nat) (B : List Nat) (l R : List Blk) (hI : BitIs bb B n0 l) (hB : u64ok B) (hL : (n0 + 63) / 64 ≤ B.length) (h : i < n0) (h0 : n0 ≤ 65536) (T : Turn l0 w0 (l ++ R) w) :
  Calls Tryz.prog 72 #[.pointer (some ⟨bb, 0, none⟩), .int .i64 i] w fun e w' => e = .returned (.int .i64 0) ∧ ∃ B' l', ClrIn B B' i 1 ∧ BitIs bb B' n0 l' ∧ Turn l0 w0 (l' ++ R) w' := by
 have H := uh ((callsIn_wide (n := 4)).1 (bclrrun_in 4 (by omega) bb n0 i 1 B l hI hB hL (by omega) h0 w (T.has.sub (List.sublist_append_left l R))))
 have HT := uh T
 clear T
 go_enter Tryz.func72, Tryz.ntmps72
 go_wp2_with fail
 refine H.out.mono ?_
 rintro e w1 ⟨rfl, B', l', h1, h2, T1⟩
 have HX := uh (⟨h1, h2, HT.out.trans (T1.more HT.out.has)⟩ : ClrIn B B' i 1 ∧ BitIs bb B' n0 l' ∧ Turn l0 w0 (l' ++ R) w1)
 clear h1 h2 T1 HT H
 go_wp2_with fail
 go_ret
 exact ⟨rfl, B', l', HX.out⟩
theorem bclrrun {l0 : List Blk} {w0 : World} (w : World) (bb n0 : Nat) (B : List Nat) (l R : List Blk) (hI : BitIs bb B n0 l) (hB : u64ok B) (hL : (n0 + 63) / 64 ≤ B.length) (h0 : n0 ≤ 65536) (T : Turn l0 w0 (l ++ R) w) :
  Calls Tryz.prog 155 #[.pointer (some ⟨bb, 0, none⟩), .int .i64 (0 : Nat), .int .i64 n0] w fun e w' => e = .returned (.int .i64 0) ∧ ∃ B' l', ClrIn B B' 0 n0 ∧ BitIs bb B' n0 l' ∧ Turn l0 w0 (l' ++ R) w' :=
 ((callsIn_wide (n := 4)).1 (bclrrun_in 4 (by omega) bb n0 0 n0 B l hI hB hL (by omega) h0 w (T.has.sub (List.sublist_append_left l R)))).mono fun e w1 ⟨he, B', l', h1, h2, T1⟩ => ⟨he, B', l', h1, h2, T.trans (T1.more T.has)⟩
structure BitAt (w : World) (bb : Nat) (B : List Nat) (n : Nat) (bo : Option Addr) (cap : Nat) : Prop where
 c0 : w.cell? ⟨bb, 0, none⟩ = some (.slice bo B.length cap)
 c1 : w.cell? ⟨bb, 1, none⟩ = some (.int .i64 n)
 src : Src w bo B.length cap 1 (u64s B)
theorem BitAt.below {w w' : World} {bb : Nat} {B : List Nat} {n cap : Nat} {bo : Option Addr} (h : BitAt w bb B n bo cap) (hk : Below w.heap.size w w') : BitAt w' bb B n bo cap :=
 ⟨(hk.cell (p := ⟨bb, 0, none⟩) (World.block_lt_of_cell? w _ h.c0)).trans h.c0, (hk.cell (p := ⟨bb, 1, none⟩) (World.block_lt_of_cell? w _ h.c1)).trans h.c1, h.src.below hk⟩
theorem BitIs.at_ {bb : Nat} {B : List Nat} {n : Nat} {l R : List Blk} {w : World} (h : BitIs bb B n l) (hH : Has w (l ++ R)) : ∃ bo cap, BitAt w bb B n bo cap := by
 obtain ⟨bo, cap, lr, hr, rfl⟩ := h
 exact ⟨bo, cap, hH.cell (b := bb) (c := #[.slice bo B.length cap, .int .i64 n]) (e := 270) (f := (0, 0)) (by simp) 0, hH.cell (b := bb) (c := #[.slice bo B.length cap, .int .i64 n]) (e := 270) (f := (0, 0)) (by simp) 1, hr.src (R := (bb, .cells #[.slice bo B.length cap, .int .i64 n] 270) :: R) (hH.perm po)⟩
theorem bhas_out (w : World) (bb n0 : Nat) (B : List Nat) (bo : Option Addr) (cap : Nat) (hA : BitAt w bb B n0 bo cap) (g : Int) (h : g < 0 ∨ (n0 : Int) ≤ g) :
  Calls Tryz.prog 71 #[.pointer (some ⟨bb, 0, none⟩), .int .i64 g] w fun e w' => e = .returned (.bool false) ∧ Below w.heap.size w w' := by
 have c1 := hA.c1
 have HB := uh (Below.refl w.heap.size w)
 clear hA
 by_cases hg : g < 0
 · have k1 : decide (g < 0) = true := decide_eq_true hg
   clear h
   go_enter Tryz.func71, Tryz.ntmps71
   go_wp2_with fail
   go_ret
   exact ⟨rfl, HB.out⟩
 · have k1 : decide (g < 0) = false := decide_eq_false hg
   have k2 : decide ((n0 : Int) ≤ g) = true := decide_eq_true (h.resolve_left hg)
   clear h
   go_enter Tryz.func71, Tryz.ntmps71
   go_wp2_with fail
   go_ret
   exact ⟨rfl, HB.out⟩
theorem bhas (w : World) (bb n0 : Nat) (B : List Nat) (bo : Option Addr) (cap : Nat) (hA : BitAt w bb B n0 bo cap) (hB : u64ok B) (hL : (n0 + 63) / 64 ≤ B.length) (g : Nat) (h : g < n0) (h0 : n0 ≤ 65536) :
  Calls Tryz.prog 71 #[.pointer (some ⟨bb, 0, none⟩), .int .i64 g] w fun e w' => e = .returned (.bool (bitAt B g)) ∧ Below w.heap.size w w' := by
 have c1 := hA.c1
 have k1 : decide ((g : Int) < 0) = false := decide_eq_false (by omega)
 have k2 : decide ((n0 : Int) ≤ (g : Int)) = false := decide_eq_false (by omega)
 have k3 : decide (n0 ≤ g) = false := decide_eq_false (by omega)
 have Hat := uh (bat w g (by omega))
 have HA := uh hA
 have hq : g / 64 < B.length := by omega
 have hgd : B.getD (g / 64) 0 = B[g / 64] := by rw [List.getD_eq_getElem?_getD, List.getElem?_eq_getElem hq]; rfl
 have hv : (u64s B)[g / 64]? = some (.int .u64 (B.getD (g / 64) 0 : Nat)) := by rw [hgd]; exact u64s_get (List.getElem?_eq_getElem hq)
 have hub := getD_u64 hB (g / 64)
 have hbit := has_bits (b := g % 64) hub
 have hres : bitAt B g = (B.getD (g / 64) 0).testBit (g % 64) := rfl
 rw [hres]
 obtain ⟨gb, off, rfl, hcell⟩ := hA.src.form (by rw [u64s_length]; omega)
 have hcg := hcell _ _ hv
 have hqi : ((g / 64 : Nat) : Int) < (B.length : Int) := by omega
 have hr : g % 64 < 64 := by omega
 have hq6 : g / 64 ≤ 65536 := by omega
 clear hA hcell hv hgd hres h hB
 generalize B.getD (g / 64) 0 = bv at *
 generalize g / 64 = q at *
 generalize g % 64 = r at *
 go_enter Tryz.func71, Tryz.ntmps71
 go_wp2_with fail
 refine Hat.out.mono ?_
 rintro e w1 ⟨rfl, hB1⟩
 have T1 := ((Turn.refl (Has.nil w)).call hB1).alloc (.cells #[.int .i64 q, .int .i64 r] 272)
 have hA1 := HA.out.below T1.below
 have c0 := hA1.c0
 have hcg1 := (T1.below.cell (p := ⟨gb, off + q, none⟩) (World.block_lt_of_cell? w _ hcg)).trans hcg
 have d0 : (w1.alloc (.cells #[.int .i64 q, .int .i64 r] 272)).cell? ⟨w1.heap.size, 0, none⟩ = some (.int .i64 q) := T1.cell1 0
 have d1 : (w1.alloc (.cells #[.int .i64 q, .int .i64 r] 272)).cell? ⟨w1.heap.size, 1, none⟩ = some (.int .i64 r) := T1.cell1 1
 have HT1 := uh T1
 clear hA1 hB1 Hat HA hcg c1 T1
 go_upto_region 4 with fail
 generalize w1.alloc (.cells #[.int .i64 q, .int .i64 r] 272) = w2 at *
 generalize w1.heap.size = b5 at *
 go_quiet (fail)
 go_wp2_with fail
 have hb2 : (bits .and .u64 ((bv : Int) / 2 ^ r) 1 == 1) = bv.testBit r := by
  rw [Int.fdiv_eq_ediv_of_nonneg _ (Int.le_of_lt (Int.pow_pos (by decide)))] at hbit
  rw [hbit]
  cases bv.testBit r <;> rfl
 go_ret
 exact ⟨by rw [hb2]; rfl, (HT1.out.drewN _).below⟩
theorem clone_u64 {ao : Option Addr} {n cap : Nat} {xs : List Value} {R : List Blk} (w : World) (hsrc : Src w ao n cap 1 xs) (hH : Has w R) (h1 : ∀ u ∈ xs, u.oneCell' = true) (hn : n * 8 ≤ 140737488355328) :
  Calls Tryz.prog 180 #[.slice ao n cap] w fun e w' => ∃ ao' cap' l', e = .returned (.slice ao' n cap') ∧ Row 47 1 ao' n cap' xs l' ∧ Turn R w (l' ++ R) w' ∧ (ao' = none ↔ ao = none) := by
 cases ao with
 | none =>
  obtain ⟨rfl, rfl⟩ := hsrc.nil rfl
  have hx : xs = [] := List.eq_nil_of_length_eq_zero (by simpa using hsrc.len)
  subst hx
  have hnil := fun W : World => Lib.run_eql_slice_nil (P := Tryz.prog) W 61 47 none 0 0 0 0 Tryz.underlying61
  go_enter Tryz.func180, Tryz.ntmps180
  go_wp2
  go_ret
  exact ⟨none, 0, [], rfl, Row.nil _ _, Turn.refl hH, by simp⟩
 | some ad =>
  have hl : xs.length = n := by simpa using hsrc.len
  have hs := hsrc.at_ ad rfl
  have hnil := fun W : World => Lib.run_eql_slice_nil (P := Tryz.prog) W 61 47 (some ad) n cap 0 0 Tryz.underlying61
  have hT := (Turn.refl hH).alloc (.cells #[] 47)
  have hrow : Row 47 1 (some ⟨w.heap.size, 0, none⟩) 0 0 [] [(w.heap.size, .cells #[] 47)] := ⟨rfl, Nat.le_refl _, Nat.zero_le _, .inr ⟨_, _, rfl, rfl, Nat.zero_le _, rfl⟩⟩
  have hnews : ∀ j u, xs[j]? = some u → (w.alloc (.cells #[] 47)).cell? (ad.add j) = some u := (hsrc.alloc _).at_ ad rfl
  have hmax : 0 + n ≤ maxLen := by unfold maxLen; omega
  have Hlen : xs.length = n * 1 := by omega
  have Hlen' := uh Hlen
  clear hl Hlen
  go_enter Tryz.func180, Tryz.ntmps180
  go_wp2_with (at_builtin; refine wpList_append_row rfl _ _ rfl el_u64 rfl hrow hT.has rfl Hlen'.out hnews h1 hmax (by omega) ?_; intro ao' cap' l' w' hr ht hno)
  go_ret
  exact ⟨ao', cap', l', by simp, by simpa using hr, hT.trans ht |>.perm (by exact List.Perm.refl _), by simpa using hno⟩
theorem zc312 : Tryz.zeroCells312 = (u64s (List.replicate 1024 0)).toArray := by kernel_rfl
theorem bnew (w : World) (n : Nat) (hm : n ≤ 65536) :
  Calls Tryz.prog 114 #[.int .i64 n] w fun e w' => ∃ bb l, e = .returned (.tuple #[.pointer (some ⟨bb, 0, none⟩), .int .i64 0]) ∧ BitIs bb (List.replicate ((n + 63) / 64) 0) n l ∧ Turn [] w l w' := by
 have T1 := (Turn.refl (Has.nil w)).alloc (.cells Tryz.zeroCells312 312)
 have hk : (n + 63) / 64 ≤ 1024 := by omega
 have hS : Src (w.alloc (.cells Tryz.zeroCells312 312)) (some ⟨w.heap.size, 0, none⟩) ((n + 63) / 64) 1024 1 (u64s (List.replicate ((n + 63) / 64) 0)) := by
  refine ⟨by rw [u64s_length, List.length_replicate, Nat.mul_one], fun h => (by cases h), fun ad ha j u hu => ?_⟩
  cases ha
  have hj : j < (n + 63) / 64 := by have := (List.getElem?_eq_some_iff.1 hu).1; rw [u64s_length, List.length_replicate] at this; exact this
  rw [u64s_get (v := 0) (List.getElem?_replicate_of_lt hj)] at hu
  rw [add_lit, Nat.zero_add, T1.cell1 j, zc312, List.getElem?_toArray, u64s_get (v := 0) (List.getElem?_replicate_of_lt (by omega))]
  exact hu
 have k1 : decide ((n : Int) < 0) = false := decide_eq_false (by omega)
 have k2 : decide ((65536 : Int) < (n : Int)) = false := decide_eq_false (by omega)
 have k3 : ((n : Int) + 63).tdiv 64 = (((n + 63) / 64 : Nat) : Int) := tdiv_nat (n + 63) 64
 have k4 : ((n : Int) + 63) / 64 = (((n + 63) / 64 : Nat) : Int) := by omega
 have Hc := uh (clone_u64 _ hS T1.has (u64s_one _) (by omega))
 have HT1 := uh T1
 have hl : (List.replicate ((n + 63) / 64) 0).length = (n + 63) / 64 := List.length_replicate
 have Hl := uh hl
 have hlz : (Tryz.zeroCells312).size = 1024 := by rw [zc312]; rfl
 clear hS T1 hl
 generalize (n + 63) / 64 = q at *
 have hqi : (q : Int) ≤ 1024 := by omega
 go_enter Tryz.func114, Tryz.ntmps114
 go_wp2_with fail
 refine Hc.out.mono ?_
 rintro e w2 ⟨ao', cap', l', rfl, hr, T2, -⟩
 have Hr := uh hr
 have HT2 := uh ((HT1.out.trans T2).sub (List.sublist_append_left l' _))
 clear hr T2 HT1 Hc
 go_wp2_with fail
 have HT3 := uh (HT2.out.alloc (.cells #[.slice ao' q cap', .int .i64 n] 270))
 refine bodyPost_ret (results_tmp2 rfl _ _ _) rfl ?_
 exact ⟨w2.heap.size, _, rfl, ⟨ao', cap', l', by rw [Hl.out]; exact Hr.out, by rw [Hl.out]⟩, HT3.out⟩
end
section
open Go Go.RowKit Go.IntWalk
theorem res_three {P : Program} {fn : Func} {p q r : Tmp} {ty ty2 : TypeId} (h : fn.results = #[.cell p ty, .cell q ty2, .tmp r]) (tmps : Array Value) (w : World) (b b2 : Nat) (cs cs2 : List Value) (d d2 : TypeDesc)
  (hp : tmps.getD p undef = .pointer (some ⟨b, 0, none⟩)) (hc : w.rangeAt b 0 cs) (hu : P.underlying ty = some d) (hd : d.isRow = true) (hi : (P.info? ty).map (·.size) = some cs.length)
  (hq : tmps.getD q undef = .pointer (some ⟨b2, 0, none⟩)) (hc2 : w.rangeAt b2 0 cs2) (hu2 : P.underlying ty2 = some d2) (hd2 : d2.isRow = true) (hi2 : (P.info? ty2).map (·.size) = some cs2.length) :
  (results fn tmps).run P w = .ok (.tuple #[.agg cs.toArray, .agg cs2.toArray, tmps.getD r undef]) w := by
 have hp' : tmps[p]?.getD undef = .pointer (some ⟨b, 0, none⟩) := by simpa using hp
 have hq' : tmps[q]?.getD undef = .pointer (some ⟨b2, 0, none⟩) := by simpa using hq
 simp [results, h, hp', hq', asAddr, run_loadVar_mid w b 0 ty cs d hc hu hd hi, run_loadVar_mid w b2 0 ty2 cs2 d2 hc2 hu2 hd2 hi2]
theorem Turn.laid4 {l l1 : List Blk} {w w' : World} {b : Nat} {x y z : Blk} {c : Array Value} {e : TypeId} {f : Nat × Nat} (h : Turn l w (x :: y :: z :: (b, .cells c e f) :: l1) w') (vs : List Value) (hl : vs.length = c.size) :
  Turn l w (x :: y :: z :: (b, .cells vs.toArray e f) :: l1) (w'.setCells b 0 vs) :=
 (Turn.setAll vs hl (h.perm (l2 := (b, .cells c e f) :: x :: y :: z :: l1) po)).perm po
theorem Turn.there4 {l L : List Blk} {w W : World} {b : Nat} {x y z : Blk} {c : Array Value} {e : TypeId} (h : Turn l w (x :: y :: z :: (b, .cells c e (0, 0)) :: L) W) : W.there b 0 c.size :=
 (h.perm (l2 := (b, .cells c e (0, 0)) :: x :: y :: z :: L) po).there1
theorem Turn.range4 {l L : List Blk} {w W : World} {b : Nat} {x y z : Blk} {c : Array Value} {e : TypeId} {f : Nat × Nat} (h : Turn l w (x :: y :: z :: (b, .cells c e f) :: L) W) : W.rangeAt b 0 c.toList :=
 (h.perm (l2 := (b, .cells c e f) :: x :: y :: z :: L) po).range1
def ofErr (W : List Nat) (g : Int) : Int := if (headAt W g).isSome then 8 else headErr W g
theorem ofErr_ne {W : List Nat} {g : Int} : ofErr W g ≠ 0 := by
 unfold ofErr
 cases hh : headAt W g with
 | none => exact headAt_none hh
 | some h => exact (by decide : (8 : Int) ≠ 0)
theorem of8 (w : World) {W : List Nat} (ao : Option Addr) (cap : Nat) (hS : Src w ao W.length cap 1 (u64s W)) (hf : W.length ≤ 65536) (hu : ∀ v ∈ W, v < 18446744073709551616) (L : List Ty) (hTy : ∀ t ∈ L, TyIn t) (hL : L.length ≤ 1000) (ao2 : Option Addr) (cap2 : Nat) (hS2 : Src w ao2 L.length cap2 3 (tys L)) (g : Int) :
  Calls Tryz.prog 194 #[.slice ao W.length cap, .slice ao2 L.length cap2, .int .i64 g] w fun e w' => (match objq L W g with
   | some h => e = .returned (.tuple #[hdVal h, tyVal (tyAt L h.typ), .int .i64 0])
   | none => e = .returned (.tuple #[hdVal hd0, tyVal ⟨0, 0, 0⟩, .int .i64 (ofErr W g)])) ∧ Below w.heap.size w w' := by
 have hsz := sz_head
 have hszT := sz_type
 have hoZ := hd0_one
 have hoZT := ty_one ⟨0, 0, 0⟩
 have T0 := ((Turn.refl (Has.nil w)).alloc (.cells #[.int .u8 0, .int .i64 0, .int .i64 0, .int .i64 0] 79)).alloc (.cells #[.int .u8 0, .int .i64 0, .int .u64 0] 49)
 rw [World.size_alloc] at T0
 have Hhd := uh (head8 _ ao cap (hS.below T0.below) hf hu g)
 have HT0 := uh T0
 clear T0
 cases hh : headAt W g with
 | none =>
  have hoe : ofErr W g = headErr W g := by unfold ofErr; rw [hh]; rfl
  rw [hoe]
  clear hoe
  have hne := headAt_none hh
  have hq : objq L W g = none := by unfold objq; rw [hh]
  rw [hq]
  simp only
  rw [hh] at Hhd
  generalize headErr W g = er at *
  clear hS hS2 hu hh hq hTy
  go_enter Tryz.func194, Tryz.ntmps194
  go_wp2_with fail
  refine Hhd.out.mono ?_
  rintro e w1 ⟨rfl, hB1⟩
  simp only [Option.getD_none]
  have T2 := (HT0.out.call hB1).alloc (.cells #[.int .u8 0, .int .i64 0, .int .i64 0, .int .i64 0] 79)
  have hth : (w1.alloc (.cells #[.int .u8 0, .int .i64 0, .int .i64 0, .int .i64 0] 79)).there w1.heap.size 0 4 := T2.there1
  have HT2 := uh (T2.laid [.int .u8 0, .int .i64 0, .int .i64 0, .int .i64 0] rfl)
  clear T2 hB1 Hhd HT0
  go_wp2_with (first
   | (show sW 79; refine wpList_store_mid rfl 79 _ _ rfl _ 0 #[.int .u8 0, .int .i64 0, .int .i64 0, .int .i64 0] rfl rfl hth hsz hoZ ?_; clear hth; have hth6 := HT2.out.there3; have HT3 := uh (HT2.out.laid3 [.int .u8 0, .int .i64 0, .int .i64 0, .int .i64 0] rfl))
   | (show sW 79; refine wpList_store_mid rfl 79 _ _ rfl _ 0 #[.int .u8 0, .int .i64 0, .int .i64 0, .int .i64 0] rfl rfl hth6 hsz hoZ ?_; clear hth6; have hth7 := HT3.out.there2; have HT4 := uh (HT3.out.laid2 [.int .u8 0, .int .i64 0, .int .u64 0] rfl))
   | (show sW 49; refine wpList_store_mid rfl 49 _ _ rfl _ 0 #[.int .u8 0, .int .i64 0, .int .u64 0] rfl rfl hth7 hszT hoZT ?_)
   | fail)
  have HR := (⟨HT4.out.range3, HT4.out.range2⟩ : _ ∧ _)
  refine bodyPost_ret (res_three Tryz.results194 _ _ _ _ _ _ _ _ rfl HR.1 Tryz.underlying79 rfl hsz rfl HR.2 Tryz.underlying49 rfl hszT) rfl ?_
  exact ⟨rfl, HT4.out.below⟩
 | some h =>
  obtain ⟨hm, hg0, hg1, he0⟩ := headAt_some hh
  have hoe : ofErr W g = 8 := by unfold ofErr; rw [hh]; rfl
  rw [hoe]
  clear hoe
  obtain ⟨g, rfl⟩ : ∃ q : Nat, g = q := ⟨g.toNat, by omega⟩
  have hq : objq L W g = if h.tag = 1 ∧ fitErr L h = 0 ∧ g + h.size ≤ W.length / 2 then some h else none := by unfold objq; rw [hh]; simp
  rw [hq]
  rw [hh, he0] at Hhd
  have HFit := uh (fun W' (hB : Below w.heap.size w W') => fits7 W' L hTy hL ao2 cap2 (hS2.below hB) h (may_in hm))
  have Hget := uh (fun W' (hB : Below w.heap.size w W') => rget W' L ao2 cap2 (hS2.below hB) hL h.typ)
  have hg3 : g < W.length / 2 := by omega
  have hdiv : ((W.length : Int)).tdiv 2 = ((W.length / 2 : Nat) : Int) := tdiv_nat _ 2
  have hdiv2 : (W.length : Int) / 2 = ((W.length / 2 : Nat) : Int) := by omega
  obtain ⟨z, hz⟩ : ∃ z : Nat, W.length / 2 = z := ⟨_, rfl⟩
  rw [hz] at hq hg3 hdiv hdiv2 ⊢
  have hz2 : z ≤ 65536 := by omega
  generalize hty : tyAt L h.typ = t at Hget
  generalize (if (getTy L h.typ).isSome = true then (0 : Int) else 3) = e27 at Hget
  generalize hfe : fitErr L h = fe at *
  obtain ⟨xa, xb, xc, xd⟩ := h
  simp only
  have hbd : xa ≤ 3 ∧ xd < 16777216 := by
   obtain ⟨m1, m2, m3, m4⟩ := hm
   simp only at m1 m2 m3 m4
   omega
  obtain ⟨k, m, mk⟩ := t
  refine ((show ∀ Qp : Ending → World → Prop, Hid (xa = 1 ∧ fe = 0 ∧ g + xd ≤ z → ∀ w', Below w.heap.size w w' → Qp (.returned (.tuple #[hdVal ⟨xa, xb, xc, xd⟩, tyVal ⟨k, m, mk⟩, .int .i64 0])) w') →
    Hid (¬ (xa = 1 ∧ fe = 0 ∧ g + xd ≤ z) → ∀ w', Below w.heap.size w w' → Qp (.returned (.tuple #[hdVal hd0, tyVal ⟨0, 0, 0⟩, .int .i64 8])) w') →
    Calls Tryz.prog 194 #[.slice ao W.length cap, .slice ao2 L.length cap2, .int .i64 g] w (fun e w' => Qp e w' ∧ True) from ?_) (fun e w' => (match (if xa = 1 ∧ fe = 0 ∧ g + xd ≤ z then some (Hd.mk xa xb xc xd) else none : Option Hd) with | some h => e = .returned (.tuple #[hdVal h, tyVal (tyAt L h.typ), .int .i64 0]) | none => e = .returned (.tuple #[hdVal hd0, tyVal ⟨0, 0, 0⟩, .int .i64 8])) ∧ Below w.heap.size w w')
    (uh (fun hc w' hB => by rw [if_pos hc]; simp only; exact ⟨by rw [hty], hB⟩)) (uh (fun hc w' hB => by rw [if_neg hc]; exact ⟨rfl, hB⟩))).mono fun e w' h => h.1
  clear hty hq
  intro Qp HY HN
  have hoX := hd_one ⟨xa, xb, xc, xd⟩
  have hoT := ty_one ⟨k, m, mk⟩
  simp only at hoX hoT
  clear hS hS2 hu hh he0 hm hTy hg0 hg1 hz hfe
  go_enter Tryz.func194, Tryz.ntmps194
  go_wp2_with fail
  refine Hhd.out.mono ?_
  rintro e w1 ⟨rfl, hB1⟩
  simp only [Option.getD_some]
  have T2 := (HT0.out.call hB1).alloc (.cells #[.int .u8 0, .int .i64 0, .int .i64 0, .int .i64 0] 79)
  have hth : (w1.alloc (.cells #[.int .u8 0, .int .i64 0, .int .i64 0, .int .i64 0] 79)).there w1.heap.size 0 4 := T2.there1
  have HT2 := uh (T2.laid [.int .u8 xa, .int .i64 xb, .int .i64 xc, .int .i64 xd] rfl)
  have c0 := HT2.out.cell1 0
  have hr9 := HT2.out.range1
  clear T2 hB1 Hhd HT0
  by_cases ht : xa = 1
  · subst ht
    replace HT2 : Hid (Turn [] w [(w1.heap.size, .cells #[.int .u8 1, .int .i64 xb, .int .i64 xc, .int .i64 xd] 79), (w.heap.size + 1, .cells #[.int .u8 0, .int .i64 0, .int .u64 0] 49), (w.heap.size, .cells #[.int .u8 0, .int .i64 0, .int .i64 0, .int .i64 0] 79)] ((w1.alloc (.cells #[.int .u8 0, .int .i64 0, .int .i64 0, .int .i64 0] 79)).setCells w1.heap.size 0 [.int .u8 1, .int .i64 xb, .int .i64 xc, .int .i64 xd])) := HT2
    replace c0 := HT2.out.cell1 0
    replace hr9 := HT2.out.range1
    by_cases hf0 : fe = 0
    · subst hf0
      have k1 : IntKind.i64.wrap ((z : Int) - (g : Int)) = (z : Int) - (g : Int) := i64_in _ (by omega)
      by_cases hs : g + xd ≤ z
      · have k2 : decide (((z : Int) - (g : Int)) < (xd : Int)) = false := decide_eq_false (by omega)
        have k3 : ¬ ((z : Int) - (g : Int)) < (xd : Int) := by omega
        have HY2 := uh (HY.out ⟨rfl, rfl, hs⟩)
        clear HY HN hs
        go_upto_region 4 with (first
         | (show sW 79; refine wpList_store_mid rfl 79 _ _ rfl _ 0 #[.int .u8 1, .int .i64 xb, .int .i64 xc, .int .i64 xd] rfl rfl hth hsz hoX ?_; clear hth)
         | fail)
        go_wp2_with (first
         | (show lW 79; refine wpList_load_g 79 _ rfl (by rfl) w1.heap.size 0 rfl [.int .u8 1, .int .i64 xb, .int .i64 xc, .int .i64 xd] _ hr9 Tryz.underlying79 rfl hsz ?_; clear hr9)
         | fail)
        refine (HFit.out _ HT2.out.below).mono ?_
        rintro e w2 ⟨rfl, hB2⟩
        have HTb := uh (HT2.out.call hB2)
        clear HT2 hB2 c0
        have c3 := HTb.out.cell1 3
        have c1 := HTb.out.cell1 1
        go_wp2_with fail
        refine (Hget.out _ HTb.out.below).mono ?_
        rintro e w3 ⟨rfl, hB3⟩
        have T5 := (HTb.out.call hB3).alloc (.cells #[.int .u8 0, .int .i64 0, .int .u64 0] 49)
        have hth11 : (w3.alloc (.cells #[.int .u8 0, .int .i64 0, .int .u64 0] 49)).there w3.heap.size 0 3 := T5.there1
        have HT5 := uh (T5.laid [.int .u8 k, .int .i64 m, .int .u64 mk] rfl)
        clear T5 hB3 HTb
        go_upto_region 7 with (first
         | (show sW 49; refine wpList_store_mid rfl 49 _ _ rfl _ 0 #[.int .u8 k, .int .i64 m, .int .u64 mk] rfl rfl hth11 hszT hoT ?_; clear hth11)
         | fail)
        refine wp_abs (fun W' => Turn [] w [(w3.heap.size, .cells #[.int .u8 k, .int .i64 m, .int .u64 mk] 49), (w1.heap.size, .cells #[.int .u8 1, .int .i64 xb, .int .i64 xc, .int .i64 xd] 79), (w.heap.size + 1, .cells #[.int .u8 0, .int .i64 0, .int .u64 0] 49), (w.heap.size, .cells #[.int .u8 0, .int .i64 0, .int .i64 0, .int .i64 0] 79)] W') HT5.out fun W7 T7 => ?_
        clear HT5
        have T7d := T7.drew
        have hth6 := T7d.there4
        have HT8 := uh (T7d.laid4 [.int .u8 1, .int .i64 xb, .int .i64 xc, .int .i64 xd] rfl)
        have hth7 := HT8.out.there3
        have HT9 := uh (HT8.out.laid3 [.int .u8 k, .int .i64 m, .int .u64 mk] rfl)
        have hS : (fun W' => W'.rangeAt w1.heap.size 0 [.int .u8 1, .int .i64 xb, .int .i64 xc, .int .i64 xd] ∧ W'.rangeAt w3.heap.size 0 [.int .u8 k, .int .i64 m, .int .u64 mk]) W7.drew := ⟨T7d.range2, T7d.range1⟩
        have hS8 : (fun W' => W'.rangeAt w1.heap.size 0 [.int .u8 1, .int .i64 xb, .int .i64 xc, .int .i64 xd] ∧ W'.rangeAt w3.heap.size 0 [.int .u8 k, .int .i64 m, .int .u64 mk]) (W7.drew.setCells w.heap.size 0 [.int .u8 1, .int .i64 xb, .int .i64 xc, .int .i64 xd]) := ⟨HT8.out.range2, HT8.out.range1⟩
        have hS9 : (fun W' => W'.rangeAt w1.heap.size 0 [.int .u8 1, .int .i64 xb, .int .i64 xc, .int .i64 xd] ∧ W'.rangeAt w3.heap.size 0 [.int .u8 k, .int .i64 m, .int .u64 mk]) ((W7.drew.setCells w.heap.size 0 [.int .u8 1, .int .i64 xb, .int .i64 xc, .int .i64 xd]).setCells (w.heap.size + 1) 0 [.int .u8 k, .int .i64 m, .int .u64 mk]) := ⟨HT9.out.range2, HT9.out.range1⟩
        clear T7 T7d
        refine wp_region_noPanic ?_
        refine wp_region_listed (S := fun W' => W'.rangeAt w1.heap.size 0 [.int .u8 1, .int .i64 xb, .int .i64 xc, .int .i64 xd] ∧ W'.rangeAt w3.heap.size 0 [.int .u8 k, .int .i64 m, .int .u64 mk]) 5 [false, false, false, false, false] rfl rfl (by kernel_rfl) ?_
        refine tkC 0 52 hS (fun w' hSw => load_mid_run 79 _ rfl w1.heap.size 0 rfl [.int .u8 1, .int .i64 xb, .int .i64 xc, .int .i64 xd] _ hSw.1 Tryz.underlying79 rfl hsz) ?_
        refine tkC 1 53 hS (fun w' hSw => load_mid_run 49 _ rfl w3.heap.size 0 rfl [.int .u8 k, .int .i64 m, .int .u64 mk] _ hSw.2 Tryz.underlying49 rfl hszT) ?_
        refine rdyA 2 (fun K hK => ?_)
        rw [if_pos (by rfl)]
        refine wp_store_mid 79 _ _ rfl _ 0 #[.int .u8 1, .int .i64 xb, .int .i64 xc, .int .i64 xd] rfl rfl hth6 hsz hoX ?_
        refine hK.out _ _ hS8 fun _ => ?_
        clear hK K
        simp only [Act.put, List.setIfInBounds_toArray, List.set_cons_zero, List.set_cons_succ]
        refine rdyA 3 (fun K hK => ?_)
        rw [if_pos (by rfl)]
        refine wp_store_mid 49 _ _ rfl _ 0 #[.int .u8 k, .int .i64 m, .int .u64 mk] rfl rfl hth7 hszT hoT ?_
        refine hK.out _ _ hS9 fun _ => ?_
        clear hK K
        simp only [Act.put, List.setIfInBounds_toArray, List.set_cons_zero, List.set_cons_succ]
        refine tkA 4 8 hS9 ?_
        refine wpAnyH_done (by kernel_rfl) ?_ _
        refine NoPanic.normal ?_
        clear hS hS8 hS9 hth6 hth7
        go_wp2_with fail
        have HR := (⟨HT9.out.range4, HT9.out.range3⟩ : _ ∧ _)
        refine bodyPost_ret (res_three Tryz.results194 _ _ _ _ _ _ _ _ rfl HR.1 Tryz.underlying79 rfl hsz rfl HR.2 Tryz.underlying49 rfl hszT) rfl ?_
        first | exact HY2.out _ HT9.out.below | exact ⟨HY2.out _ HT9.out.below, trivial⟩
      · have k2 : decide (((z : Int) - (g : Int)) < (xd : Int)) = true := decide_eq_true (by omega)
        have k3 : ((z : Int) - (g : Int)) < (xd : Int) := by omega
        have HN2 := uh (HN.out (fun h => hs h.2.2))
        clear HY HN hs
        go_upto_region 4 with (first
         | (show sW 79; refine wpList_store_mid rfl 79 _ _ rfl _ 0 #[.int .u8 1, .int .i64 xb, .int .i64 xc, .int .i64 xd] rfl rfl hth hsz hoX ?_; clear hth)
         | fail)
        go_wp2_with (first
         | (show lW 79; refine wpList_load_g 79 _ rfl (by rfl) w1.heap.size 0 rfl [.int .u8 1, .int .i64 xb, .int .i64 xc, .int .i64 xd] _ hr9 Tryz.underlying79 rfl hsz ?_; clear hr9)
         | fail)
        refine (HFit.out _ HT2.out.below).mono ?_
        rintro e w2 ⟨rfl, hB2⟩
        have HTb := uh (HT2.out.call hB2)
        clear HT2 hB2 c0
        have c3 := HTb.out.cell1 3
        have c1 := HTb.out.cell1 1
        go_upto_region 5 with fail
        have hth6 := HTb.out.there3
        have HT3 := uh (HTb.out.laid3 [.int .u8 0, .int .i64 0, .int .i64 0, .int .i64 0] rfl)
        have hth7 := HT3.out.there2
        have HT4 := uh (HT3.out.laid2 [.int .u8 0, .int .i64 0, .int .u64 0] rfl)
        clear HTb
        go_wp2_with (first
         | (show sW 79; refine wpList_store_mid rfl 79 _ _ rfl _ 0 #[.int .u8 0, .int .i64 0, .int .i64 0, .int .i64 0] rfl rfl hth6 hsz hoZ ?_; clear hth6)
         | (show sW 49; refine wpList_store_mid rfl 49 _ _ rfl _ 0 #[.int .u8 0, .int .i64 0, .int .u64 0] rfl rfl hth7 hszT hoZT ?_; clear hth7)
         | fail)
        have HR := (⟨HT4.out.range3, HT4.out.range2⟩ : _ ∧ _)
        refine bodyPost_ret (res_three Tryz.results194 _ _ _ _ _ _ _ _ rfl HR.1 Tryz.underlying79 rfl hsz rfl HR.2 Tryz.underlying49 rfl hszT) rfl ?_
        first | exact HN2.out _ HT4.out.below | exact ⟨HN2.out _ HT4.out.below, trivial⟩
    · have hfe0 : (fe != 0) = true := by rw [bne_iff_ne]; exact hf0
      have HN2 := uh (HN.out (fun h => hf0 h.2.1))
      clear HY HN
      go_upto_region 4 with (first
       | (show sW 79; refine wpList_store_mid rfl 79 _ _ rfl _ 0 #[.int .u8 1, .int .i64 xb, .int .i64 xc, .int .i64 xd] rfl rfl hth hsz hoX ?_; clear hth)
       | fail)
      go_wp2_with (first
       | (show lW 79; refine wpList_load_g 79 _ rfl (by rfl) w1.heap.size 0 rfl [.int .u8 1, .int .i64 xb, .int .i64 xc, .int .i64 xd] _ hr9 Tryz.underlying79 rfl hsz ?_; clear hr9)
       | fail)
      refine (HFit.out _ HT2.out.below).mono ?_
      rintro e w2 ⟨rfl, hB2⟩
      have HTb := uh (HT2.out.call hB2)
      clear HT2 hB2 c0
      have c3 := HTb.out.cell1 3
      have c1 := HTb.out.cell1 1
      go_upto_region 5 with fail
      have hth6 := HTb.out.there3
      have HT3 := uh (HTb.out.laid3 [.int .u8 0, .int .i64 0, .int .i64 0, .int .i64 0] rfl)
      have hth7 := HT3.out.there2
      have HT4 := uh (HT3.out.laid2 [.int .u8 0, .int .i64 0, .int .u64 0] rfl)
      clear HTb
      go_wp2_with (first
       | (show sW 79; refine wpList_store_mid rfl 79 _ _ rfl _ 0 #[.int .u8 0, .int .i64 0, .int .i64 0, .int .i64 0] rfl rfl hth6 hsz hoZ ?_; clear hth6)
       | (show sW 49; refine wpList_store_mid rfl 49 _ _ rfl _ 0 #[.int .u8 0, .int .i64 0, .int .u64 0] rfl rfl hth7 hszT hoZT ?_; clear hth7)
       | fail)
      have HR := (⟨HT4.out.range3, HT4.out.range2⟩ : _ ∧ _)
      refine bodyPost_ret (res_three Tryz.results194 _ _ _ _ _ _ _ _ rfl HR.1 Tryz.underlying79 rfl hsz rfl HR.2 Tryz.underlying49 rfl hszT) rfl ?_
      first | exact HN2.out _ HT4.out.below | exact ⟨HN2.out _ HT4.out.below, trivial⟩
  · have ht2 : ¬ (xa : Int) = 1 := by omega
    have ht3 : ((xa : Int) != 1) = true := by rw [bne_iff_ne]; exact ht2
    have ht4 : (xa != 1) = true := by rw [bne_iff_ne]; exact ht
    have HN2 := uh (HN.out (fun h => ht h.1))
    clear HY HN
    go_upto_region 4 with (first
     | (show sW 79; refine wpList_store_mid rfl 79 _ _ rfl _ 0 #[.int .u8 xa, .int .i64 xb, .int .i64 xc, .int .i64 xd] rfl rfl hth hsz hoX ?_; clear hth; have hth6 := HT2.out.there3; have HT3 := uh (HT2.out.laid3 [.int .u8 0, .int .i64 0, .int .i64 0, .int .i64 0] rfl))
     | fail)
    go_upto_region 5 with fail
    have hth6 := HT2.out.there3
    have HT3 := uh (HT2.out.laid3 [.int .u8 0, .int .i64 0, .int .i64 0, .int .i64 0] rfl)
    have hth7 := HT3.out.there2
    have HT4 := uh (HT3.out.laid2 [.int .u8 0, .int .i64 0, .int .u64 0] rfl)
    clear HT2
    go_wp2_with (first
     | (show sW 79; refine wpList_store_mid rfl 79 _ _ rfl _ 0 #[.int .u8 0, .int .i64 0, .int .i64 0, .int .i64 0] rfl rfl hth6 hsz hoZ ?_; clear hth6)
     | (show sW 49; refine wpList_store_mid rfl 49 _ _ rfl _ 0 #[.int .u8 0, .int .i64 0, .int .u64 0] rfl rfl hth7 hszT hoZT ?_; clear hth7)
     | fail)
    have HR := (⟨HT4.out.range3, HT4.out.range2⟩ : _ ∧ _)
    refine bodyPost_ret (res_three Tryz.results194 _ _ _ _ _ _ _ _ rfl HR.1 Tryz.underlying79 rfl hsz rfl HR.2 Tryz.underlying49 rfl hszT) rfl ?_
    first | exact HN2.out _ HT4.out.below | exact ⟨HN2.out _ HT4.out.below, trivial⟩
theorem make8 (w : World) {W : List Nat} (ao : Option Addr) (cap : Nat) (hS : Src w ao W.length cap 1 (u64s W)) (hf : W.length ≤ 65536) (L : List Ty) (hTy : ∀ t ∈ L, TyIn t) (hL : L.length ≤ 1000) (ao2 : Option Addr) (cap2 : Nat) (hS2 : Src w ao2 L.length cap2 3 (tys L))
  (g id n sz : Nat) (he : tyErr L id n = 0) (hs : tySize L id n = sz) (hm : (Hd.mk 1 id n sz).may) (hg : g + sz ≤ W.length / 2) :
  Calls Tryz.prog 193 #[.slice ao W.length cap, .slice ao2 L.length cap2, .int .i64 g, .int .i64 id, .int .i64 n] w fun e w' => ∃ ao' cap' l, e = .returned (.tuple #[.slice ao' W.length cap', .int .i64 0]) ∧ Row 47 1 ao' W.length cap' (u64s (mk W g ⟨1, id, n, sz⟩)) l ∧ Turn [] w l w' := by
 have hsz := sz_head
 have Hof := uh (of7 w L hTy hL ao2 cap2 hS2 id n)
 unfold ofCells at Hof
 rw [he, if_pos rfl, hs] at Hof
 have He := uh (fun W' => enc7 W' ⟨1, id, n, sz⟩ (may_in hm))
 rw [if_pos hm, if_pos hm] at He
 have hsp : 1 ≤ sz := hm.1
 have ho : (#[.int .u8 1, .int .i64 id, .int .i64 n, .int .i64 sz] : Array Value).all (·.oneCell') = true := hd_one ⟨1, id, n, sz⟩
 have hmk : mk W g ⟨1, id, n, sz⟩ = (zeros W (2 * g) (2 * sz)).set (2 * g) (Hd.mk 1 id n sz).word := rfl
 rw [hmk]
 generalize (Hd.mk 1 id n sz).word = wd at *
 have hdiv : ((W.length : Int)).tdiv 2 = ((W.length / 2 : Nat) : Int) := tdiv_nat _ 2
 have hdiv2 : (W.length : Int) / 2 = ((W.length / 2 : Nat) : Int) := by omega
 have hlen2 : 2 * (g + sz) ≤ W.length := by omega
 obtain ⟨z, hz⟩ : ∃ z : Nat, W.length / 2 = z := ⟨_, rfl⟩
 rw [hz] at hdiv hdiv2 hg
 have hzb : z ≤ 65536 := by omega
 have hgb : g ≤ 65536 := by omega
 have hsb : sz ≤ 65536 := by omega
 have hn := uh (Has.nil w)
 have HS := uh (fun w' (hB : Below w.heap.size w w') => hS.below hB)
 have hnil := Row.nil 47 1
 have h63 : 0 + W.length ≤ maxLen := by unfold maxLen; omega
 have hby : (0 + W.length) * 8 ≤ 140737488355328 := by omega
 have hone := u64s_one W
 clear hmk hS hS2 he hs hm hTy hz
 have k1 : decide ((g : Int) < 0) = false := decide_eq_false (by omega)
 have k2 : decide ((z : Int) < (g : Int)) = false := decide_eq_false (by omega)
 have k2' : ¬ ((z : Int) < (g : Int)) := by omega
 have k2n : decide (z < g) = false := decide_eq_false (by omega)
 have k3 : IntKind.i64.wrap ((z : Int) - (g : Int)) = (z : Int) - (g : Int) := i64_in _ (by omega)
 have k4 : decide (((z : Int) - (g : Int)) < (sz : Int)) = false := decide_eq_false (by omega)
 have k4' : ¬ ((z : Int) - (g : Int)) < (sz : Int) := by omega
 go_enter Tryz.func193, Tryz.ntmps193
 go_wp2_with fail
 refine Hof.out.mono ?_
 rintro e w1 ⟨rfl, hB1⟩
 have T2 := (Turn.of_below hn.out hB1).alloc (.cells #[.int .u8 0, .int .i64 0, .int .i64 0, .int .i64 0] 79)
 have hth : (w1.alloc (.cells #[.int .u8 0, .int .i64 0, .int .i64 0, .int .i64 0] 79)).there w1.heap.size 0 4 := T2.there1
 have HT2 := uh (T2.laid [.int .u8 1, .int .i64 id, .int .i64 n, .int .i64 sz] rfl)
 have c3 := HT2.out.cell1 3
 have hsrc := HS.out _ HT2.out.below
 clear T2 hB1 Hof
 go_wp2_with (first
  | (show sW 79; refine wpList_store_mid rfl 79 _ _ rfl _ 0 #[.int .u8 1, .int .i64 id, .int .i64 n, .int .i64 sz] rfl rfl hth hsz ho ?_; clear hth)
  | (at_builtin; refine wpList_append_src rfl _ _ rfl el_u64 rfl rfl hnil (R := [(w1.heap.size, .cells #[.int .u8 1, .int .i64 id, .int .i64 n, .int .i64 sz] 79)]) HT2.out.has hsrc hone h63 hby ?_; intro ao' cap' lr' w3 hr1 hT1; have Hr1 := uh hr1; have HT3 := uh (HT2.out.trans hT1); clear hr1 hT1 hsrc HT2)
  | fail)
 have hr1 : Row 47 1 ao' W.length cap' (u64s W) lr' := by have h := Hr1.out; rwa [Nat.zero_add, List.nil_append] at h
 obtain ⟨gb, cur, rfl, rfl, -, -⟩ := hr1.some_of (by omega)
 clear Hr1 c3
 have Hr := uh hr1
 clear hr1
 go_loopw [15] (fun v15 wr => ∃ (j : Nat) (cu : Array Value), j ≤ 2 * sz ∧ v15 = .int .i64 (2 * g + j : Nat) ∧ Row 47 1 (some ⟨gb, 0, none⟩) W.length cap' (u64s (zeros W (2 * g) j)) [(gb, .cells cu 47)] ∧ Turn [] w ((gb, .cells cu 47) :: [(w1.heap.size, .cells #[.int .u8 1, .int .i64 id, .int .i64 n, .int .i64 sz] 79)]) wr) (fun v15 _ => 2 * g + 2 * sz - (intOf v15).toNat)
 case atStart => exact ⟨0, cur, Nat.zero_le _, by go_num, Hr.out, HT3.out⟩
 case round =>
  clear HT3 Hr
  obtain ⟨j, cu, hj, rfl, hr, T⟩ := hrel
  have c3 : wr.cell? ⟨w1.heap.size, 3, none⟩ = some (.int .i64 sz) := T.cell2 3
  have hzl := zeros_len W (2 * g) j
  by_cases hlt : j < 2 * sz
  · have hlt' : ((2 * g + j : Nat) : Int) < 2 * ((g : Int) + (sz : Int)) := by omega
    have hlt2 : 2 * (g : Int) + (j : Int) < 2 * ((g : Int) + (sz : Int)) := by omega
    obtain ⟨v0, hv0⟩ : ∃ v0, (zeros W (2 * g) j)[2 * g + j]? = some v0 := ⟨(zeros W (2 * g) j)[2 * g + j]'(by omega), List.getElem?_eq_getElem _⟩
    have hA : 2 * g + j < W.length := by omega
    have hA' : ((2 * g + j : Nat) : Int) < (W.length : Int) := by omega
    have c1 : wr.cell? ⟨gb, 2 * g + j, none⟩ = some (.int .u64 v0) := (hr.cell (R := [(w1.heap.size, .cells #[.int .u8 1, .int .i64 id, .int .i64 n, .int .i64 sz] 79)]) T.has (2 * g + j) (by rw [Nat.mul_one]; exact hA)).trans (u64s_get hv0)
    have f1 : wr.frozen? ⟨gb, 2 * g + j, none⟩ = false := T.free1 (2 * g + j)
    have hr2 := hr.set (2 * g + j) (.int .u64 (0 : Nat))
    rw [u64s_setl] at hr2
    have HT2 := uh (T.setCell (2 * g + j) (.int .u64 (0 : Nat)))
    have Hr2 := uh hr2
    have hq : ∃ q : Nat, q = 2 * g + j := ⟨_, rfl⟩
    obtain ⟨q, hq⟩ := hq
    rw [← hq] at hlt' hA hA' c1 f1 HT2 Hr2 ⊢
    have Hq := uh hq
    clear hr T hr2 hv0 hq hlt2
    have hqb : q ≤ 200000 := by omega
    go_wp2
    go_roundw
    case rel => exact ⟨j + 1, _, by omega, by rw [show 2 * g + (j + 1) = q + 1 by have := Hq.out; omega]; go_num, by have h := Hr2.out; rw [Hq.out] at h; exact h, by have h := HT2.out; rw [Hq.out] at h ⊢; exact h⟩
    case measure => have := Hq.out; simp [intOf]; omega
  · obtain rfl : j = 2 * sz := by omega
    have hend : ¬ ((2 * g + 2 * sz : Nat) : Int) < 2 * ((g : Int) + (sz : Int)) := by omega
    have hend2 : ¬ 2 * (g : Int) + 2 * (sz : Int) < 2 * ((g : Int) + (sz : Int)) := by omega
    have hrb := T.range2
    have hA : 2 * g < W.length := by omega
    have hA' : 2 * (g : Int) < (W.length : Int) := by omega
    have hgn : (2 * (g : Int)).toNat = 2 * g := by omega
    obtain ⟨v0, hv0⟩ : ∃ v0, (zeros W (2 * g) (2 * sz))[2 * g]? = some v0 := ⟨(zeros W (2 * g) (2 * sz))[2 * g]'(by omega), List.getElem?_eq_getElem _⟩
    have hr2 := hr.set (2 * g) (.int .u64 wd)
    rw [u64s_setl] at hr2
    have HrT := uh (fun w' (hB : Below wr.heap.size wr w') => (⟨(hr.cell (R := [(w1.heap.size, .cells #[.int .u8 1, .int .i64 id, .int .i64 n, .int .i64 sz] 79)]) (T.call hB).has (2 * g) (by rw [Nat.mul_one]; exact hA)).trans (u64s_get hv0), (T.call hB).free1 (2 * g), (T.call hB).setCell (2 * g) (.int .u64 wd)⟩ : w'.cell? ⟨gb, 2 * g, none⟩ = some (.int .u64 v0) ∧ w'.frozen? ⟨gb, 2 * g, none⟩ = false ∧ Turn [] w ((gb, .cells (cu.setIfInBounds (2 * g) (.int .u64 wd)) 47) :: [(w1.heap.size, .cells #[.int .u8 1, .int .i64 id, .int .i64 n, .int .i64 sz] 79)]) (w'.setCell ⟨gb, 2 * g, none⟩ (.int .u64 wd))))
    have Hr2 := uh hr2
    clear hr T hr2 hv0 hzl
    go_wp2_with (first
     | (show lW 79; refine wpList_load_mid rfl 79 _ rfl w1.heap.size 0 rfl [.int .u8 1, .int .i64 id, .int .i64 n, .int .i64 sz] _ hrb Tryz.underlying79 rfl hsz ?_)
     | (go_at_call 237; refine (He.out _).mono ?_; rintro e w5 ⟨rfl, hB5⟩; obtain ⟨c1, f1, hT5⟩ := HrT.out _ hB5; have HT5 := uh hT5; clear hT5 hB5)
     | fail)
    refine bodyPost_ret (results_tmp2 rfl _ _ _) rfl ?_
    exact ⟨some ⟨gb, 0, none⟩, cap', _, rfl, Hr2.out, HT5.out.sub (List.Sublist.cons_cons _ (List.nil_sublist _))⟩
abbrev ceCells (c : Ce) : List Value := [.int .i64 c.1, .int .u8 c.2.tag, .int .i64 c.2.typ, .int .i64 c.2.len, .int .i64 c.2.size]
def ces (cs : List Ce) : List Value := cs.flatMap ceCells
theorem ces_length (cs : List Ce) : (ces cs).length = cs.length * 5 := by
 induction cs with
 | nil => rfl
 | cons a l ih =>
  show (ceCells a ++ ces l).length = _
  rw [List.length_append, ih, List.length_cons]
  simp
  omega
theorem ces_append (a b : List Ce) : ces (a ++ b) = ces a ++ ces b := by simp [ces]
theorem el_cell : Elem Tryz.prog 75 81 5 40 (.agg #[.int .i64 0, .int .u8 0, .int .i64 0, .int .i64 0, .int .i64 0]) := Elem.of Tryz.underlying75 (by kernel_rfl) rfl
theorem stands_head {L : List Ty} {W : List Nat} {g : Nat} {h : Hd} (hs : stands L W g h) : headAt W g = some h ∧ headErr W g = 0 ∧ fitErr L h = 0 ∧ g < W.length / 2 := by
 have hp := hs.pos
 obtain ⟨⟨v, h1, h2⟩, h3, h4⟩ := hs
 have hlt : g < W.length / 2 := by omega
 obtain ⟨e1, e2⟩ := headAt_in hlt h1
 rw [e1, e2, h2]
 exact ⟨rfl, rfl, (fit_iff L h).2 h3, hlt⟩
theorem cells9 (w : World) {W : List Nat} (ao : Option Addr) (cap : Nat) (hS : Src w ao W.length cap 1 (u64s W)) (hf : W.length ≤ 65536) (hu : ∀ v ∈ W, v < 18446744073709551616) (L : List Ty) (hTy : ∀ t ∈ L, TyIn t) (hL : L.length ≤ 1000) (ao2 : Option Addr) (cap2 : Nat) (hS2 : Src w ao2 L.length cap2 3 (tys L))
  (cs : List Ce) (hC : Chain L W 0 cs (W.length / 2)) :
  Calls Tryz.prog 167 #[.slice ao W.length cap, .slice ao2 L.length cap2] w fun e w' => ∃ ao' cap' l, e = .returned (.tuple #[.slice ao' cs.length cap', .bool true]) ∧ Row 81 5 ao' cs.length cap' (ces cs) l ∧ Turn [] w l w' := by
 have hsz := sz_head
 have Hhd := uh (fun w' (hB : Below w.heap.size w w') (g : Int) => head8 w' ao cap (hS.below hB) hf hu g)
 have HFit := uh (fun w' (hB : Below w.heap.size w w') h hi => fits7 w' L hTy hL ao2 cap2 (hS2.below hB) h hi)
 have hdiv : ((W.length : Int)).tdiv 2 = ((W.length / 2 : Nat) : Int) := tdiv_nat _ 2
 have hdiv2 : (W.length : Int) / 2 = ((W.length / 2 : Nat) : Int) := by omega
 have hlen := hC.len
 have hn := uh (Has.nil w)
 have HC := uh hC
 obtain ⟨z, hz⟩ : ∃ z : Nat, W.length / 2 = z := ⟨_, rfl⟩
 rw [hz] at hdiv hdiv2 hlen HC
 have hzb : z ≤ 32768 := by omega
 clear hS hS2 hu hTy hC
 go_enter Tryz.func167, Tryz.ntmps167
 go_wp2_with fail
 go_loopw [6, 7] (fun v6 v7 wr => ∃ (pre post : List Ce) (g : Nat) (a6 : Option Addr) (p6 : Nat) (lr : List Blk), cs = pre ++ post ∧ v7 = .int .i64 g ∧ v6 = .slice a6 pre.length p6 ∧ Chain L W g post z ∧ Row 81 5 a6 pre.length p6 (ces pre) lr ∧ Turn [] w lr wr) (fun _ v7 _ => z + 1 - (intOf v7).toNat)
 case atStart => exact ⟨[], cs, 0, none, 0, [], rfl, rfl, rfl, HC.out, Row.nil _ _, Turn.refl hn.out⟩
 case round =>
  clear HC hn
  obtain ⟨pre, post, g, a6, p6, lr, hcs, rfl, rfl, hch, hr6, T⟩ := hrel
  cases post with
  | nil =>
   obtain rfl : g = z := hch
   rw [List.append_nil] at hcs
   subst hcs
   have HT := uh T
   have Hr := uh hr6
   clear T hr6 hlen
   go_wp2
   refine bodyPost_ret (results_tmp2 rfl _ _ _) rfl ?_
   exact ⟨a6, p6, lr, rfl, Hr.out, HT.out⟩
  | cons c post =>
   obtain ⟨cg, h⟩ := c
   obtain ⟨hcg, hst, hnext⟩ := hch
   simp only at hcg hst hnext
   subst hcg
   have hpos := hst.pos
   have hroom : cg + h.size ≤ z := hnext.le
   obtain ⟨e1, e2, e3, e4⟩ := stands_head hst
   have hmay := hst.2.1.1
   have Hh2 := uh (Hhd.out wr T.below cg)
   rw [e1, e2] at Hh2
   have HF2 := uh (fun w' (hB : Below w.heap.size w w') => HFit.out w' hB h (may_in hmay))
   rw [e3] at HF2
   have hpl : pre.length ≤ z := by rw [hcs, List.length_append, List.length_cons] at hlen; omega
   have h63 : pre.length + 1 ≤ maxLen := by unfold maxLen; omega
   have hby : (pre.length + 1) * 40 ≤ 140737488355328 := by omega
   have HT := uh T
   have Hr := uh hr6
   have Hnext := uh hnext
   have Hcs := uh hcs
   clear T hr6 hnext hcs hst e1 e2 e3 hlen
   obtain ⟨xa, xb, xc, xd⟩ := h
   simp only at hpos hroom
   have hoX := hd_one ⟨xa, xb, xc, xd⟩
   simp only at hoX
   have k1 : IntKind.i64.wrap ((z : Int) - (cg : Int)) = (z : Int) - (cg : Int) := i64_in _ (by omega)
   have k2 : decide (((z : Int) - (cg : Int)) < (xd : Int)) = false := decide_eq_false (by omega)
   have k3 : ¬ ((z : Int) - (cg : Int)) < (xd : Int) := by omega
   have k4 : (cg : Int) < (z : Int) := by omega
   clear hmay e4
   go_wp2_with fail
   refine Hh2.out.mono ?_
   rintro e w1 ⟨rfl, hB1⟩
   simp only [Option.getD_some]
   have T2 := (HT.out.call hB1).alloc (.cells #[.int .u8 0, .int .i64 0, .int .i64 0, .int .i64 0] 79)
   have hth : (w1.alloc (.cells #[.int .u8 0, .int .i64 0, .int .i64 0, .int .i64 0] 79)).there w1.heap.size 0 4 := T2.there1
   have HT2 := uh (T2.laid [.int .u8 xa, .int .i64 xb, .int .i64 xc, .int .i64 xd] rfl)
   have hr8 := HT2.out.range1
   clear T2 hB1 HT Hh2
   go_wp2_with (first
    | (show sW 79; refine wpList_store_mid rfl 79 _ _ rfl _ 0 #[.int .u8 xa, .int .i64 xb, .int .i64 xc, .int .i64 xd] rfl rfl hth hsz hoX ?_; clear hth)
    | (show lW 79; refine wpList_load_g 79 _ rfl (by rfl) w1.heap.size 0 rfl [.int .u8 xa, .int .i64 xb, .int .i64 xc, .int .i64 xd] _ hr8 Tryz.underlying79 rfl hsz ?_; clear hr8)
    | fail)
   refine (HF2.out _ HT2.out.below).mono ?_
   rintro e w2 ⟨rfl, hB2⟩
   have HT3 := uh (HT2.out.call hB2)
   have c3 := HT3.out.cell1 3
   have hr8 := HT3.out.range1
   clear HT2 hB2 HF2
   go_upto_region 7 with fail
   have hcv : ∀ u ∈ ([.int .i64 cg, .int .u8 xa, .int .i64 xb, .int .i64 xc, .int .i64 xd] : List Value), u.oneCell' = true := by simp [Value.oneCell']
   go_wp2_with (first
    | (show lW 79; refine wpList_load_mid rfl 79 _ rfl w1.heap.size 0 rfl [.int .u8 xa, .int .i64 xb, .int .i64 xc, .int .i64 xd] _ hr8 Tryz.underlying79 rfl hsz ?_; clear hr8)
    | (at_builtin; refine wpList_append_row rfl _ _ rfl el_cell rfl Hr.out (R := [(w2.heap.size, .cells #[.int .i64 cg, .int .u8 xa, .int .i64 xb, .int .i64 xc, .int .i64 xd] 81), (w1.heap.size, .cells #[.int .u8 xa, .int .i64 xb, .int .i64 xc, .int .i64 xd] 79)]) ((HT3.out.alloc (.cells #[.int .i64 cg, .int .u8 xa, .int .i64 xb, .int .i64 xc, .int .i64 xd] 81)).perm po).has rfl (news := [.int .i64 cg, .int .u8 xa, .int .i64 xb, .int .i64 xc, .int .i64 xd]) rfl (news_of (heap_alloc_new _ _)) hcv h63 hby ?_; intro a9 p9 l9 w4 hr9 V4 hno; have V5 := uh (((HT3.out.alloc (.cells #[.int .i64 cg, .int .u8 xa, .int .i64 xb, .int .i64 xc, .int .i64 xd] 81)).perm (l2 := lr ++ [(w2.heap.size, .cells #[.int .i64 cg, .int .u8 xa, .int .i64 xb, .int .i64 xc, .int .i64 xd] 81), (w1.heap.size, .cells #[.int .u8 xa, .int .i64 xb, .int .i64 xc, .int .i64 xd] 79)]) po).trans V4); have Hr9 := uh hr9; have d3 := V5.out.has.cell (b := w1.heap.size) (c := #[.int .u8 xa, .int .i64 xb, .int .i64 xc, .int .i64 xd]) (e := 79) (f := (0, 0)) (by simp) 3; clear hr9 V4 hno c3 HT3)
    | fail)
   go_roundw
   case rel => exact ⟨pre ++ [(cg, ⟨xa, xb, xc, xd⟩)], post, cg + xd, a9, p9, l9, by rw [Hcs.out, List.append_assoc]; rfl, by go_num, by rw [List.length_append]; rfl, Hnext.out, by rw [List.length_append, ces_append]; exact Hr9.out, V5.out.sub (List.sublist_append_left l9 _)⟩
   case measure => simp [intOf]; omega
end
end Go.Proofs.YtbecgkejdacidaaGreatDoor
