/-
  skerrylaw14.Same: a stack has what the reference's has; what Words and Frames tell is not the stack's.
  Conditions: none beyond what each contract states.
-/
import Derived.Test.YtinpkimflcmkgaaSf1
namespace Go.Proofs.Ytinpkimflcmkgaa
open Go Go.RowKit

section
variable {bs br : Nat} {J : List Inn} {i : Inn} {max : Nat} {ls lr R : List Blk}

set_option maxRecDepth 100000 in
set_option maxHeartbeats 1600000 in
theorem same14_any (w : World) (hS : Sync bs br J i max ls lr) (hH : Has w (ls ++ (lr ++ R))) :
    Calls Try.prog 50 #[.pointer (some ⟨bs, 0, none⟩), .pointer (some ⟨br, 0, none⟩)] w fun e w' => e = .returned (.bool true) ∧ Turn (ls ++ (lr ++ R)) w (ls ++ (lr ++ R)) w' := by
  have hln := hS.ok.len
  have hmx := hS.ok.max
  have hdp := hS.ok.deep
  rw [List.length_append, List.length_singleton] at hdp
  have hdr : ((J ++ [i]).length - 1 : Nat) = J.length := by simp
  have ho : (offs J).length = J.length := offs_length J
  have Hdr := Lib.hid hdr
  have Ho := Lib.hid ho
  have hb1 : (flat (J ++ [i])).length ≤ maxLen := by unfold maxLen; omega
  have hb2 : J.length ≤ maxLen := by unfold maxLen; omega
  generalize hL : ls ++ (lr ++ R) = L at *
  have HL := Lib.hid hL
  clear hdr ho hL
  go_enter Try.func50, Try.ntmps50
  go_wp2_with fail
  have T0 := Turn.refl hH
  refine (words_any w hS.st (R := lr ++ R) (by rw [HL.out]; exact hH)).mono ?_
  rintro e w1 ⟨a1, p1, l1, rfl, hr1, T1⟩
  rw [HL.out] at T1
  go_wp2_with fail
  have V1 := T1.perm (l2 := ls ++ (lr ++ R ++ l1)) (by rw [← HL.out]; exact perm_of fun c => by simp; omega)
  refine (frames_any w1 hS.st V1.has).mono ?_
  rintro e w2 ⟨a2, p2, l2, rfl, hr2, T2⟩
  rw [Ho.out]
  rw [Ho.out] at hr2
  have V2 := (V1.trans T2).perm (l2 := lr ++ (ls ++ R ++ l1 ++ l2)) (perm_of fun c => by simp; omega)
  clear T1 T2 V1
  go_wp2_with fail
  refine (rWords_any w2 hS.rf V2.has).mono ?_
  rintro e w3 ⟨a3, p3, l3, rfl, hr3, T3⟩
  have V3 := V2.trans T3
  clear V2 T3
  go_wp2_with fail
  refine (quiet_turn (same_any w3 (hr1.src (R := l3 ++ (lr ++ (ls ++ R ++ l2))) (V3.has.perm (perm_of fun c => by simp; omega))) (hr3.src V3.has) hb1) V3.has).mono ?_
  rintro e w4 ⟨rfl, T4⟩
  rw [show decide (flat (J ++ [i]) = flat (J ++ [i])) = true from decide_eq_true rfl]
  have V4 := (V3.trans T4).perm (l2 := ls ++ (l3 ++ lr ++ R ++ l1 ++ l2)) (perm_of fun c => by simp; omega)
  clear V3 T4
  go_wp2_with fail
  refine (depth_any w4 hS.st V4.has).mono ?_
  rintro e w5 ⟨rfl, rfl⟩
  rw [Ho.out]
  have V5 := V4.perm (l2 := lr ++ (l3 ++ ls ++ R ++ l1 ++ l2)) (perm_of fun c => by simp; omega)
  go_wp2_with fail
  refine (rDepth_any w4 hS.rf V5.has).mono ?_
  rintro e w5 ⟨rfl, rfl⟩
  rw [Hdr.out]
  go_wp2_with fail
  refine (len_any w4 hS.st V4.has).mono ?_
  rintro e w5 ⟨rfl, rfl⟩
  go_wp2_with fail
  refine (rFrames_any w4 hS.rf V5.has).mono ?_
  rintro e w5 ⟨a6, p6, l6, rfl, hr6, T6⟩
  have V6 := V5.trans T6
  clear V4 V5 T6
  go_wp2_with fail
  refine (quiet_turn (sameInts_any w5 (hr2.src (R := l6 ++ (lr ++ (l3 ++ ls ++ R ++ l1))) (V6.has.perm (perm_of fun c => by simp; omega))) (hr6.src V6.has) hb2) V6.has).mono ?_
  rintro e w6 ⟨rfl, T7⟩
  rw [show decide (offs J = offs J) = true from decide_eq_true rfl]
  have V7 := (V6.trans T7).perm (l2 := (l6 ++ l3) ++ (l1 ++ (l2 ++ L))) (by rw [← HL.out]; exact perm_of fun c => by simp; omega) |>.drop
  clear V6 T7 hr3 hr6
  go_wp2_with fail
  go_loopw [8] (fun q wr => ∃ (k : Nat) (xs : List Value) (l2 : List Blk), k ≤ J.length ∧ q = .int .i64 k ∧ Row 3 1 a2 J.length p2 xs l2 ∧ Turn L w (l1 ++ (l2 ++ L)) wr) (fun q _ => J.length - (intOf q).toNat)
  case atStart => exact ⟨0, _, l2, Nat.zero_le _, rfl, hr2, V7⟩
  case round =>
    clear V7 hr2
    obtain ⟨k, xs, l2, hk, rfl, hr2, T⟩ := hrel
    by_cases hlt : k < J.length
    · have hlt' : (k : Int) < (J.length : Int) := by omega
      obtain ⟨g, cur, rfl, rfl, -, -⟩ := hr2.some_of (by omega)
      have hHg := T.has.perm (l' := [(g, Obj.cells cur 3 (0, 0))] ++ (l1 ++ L)) (perm_of fun c => by simp; omega)
      obtain ⟨u, hu⟩ : ∃ u, xs[k]? = some u := ⟨xs[k]'(by have := hr2.1; omega), List.getElem?_eq_getElem _⟩
      have hc := (hr2.cell hHg k (by omega)).trans hu
      have hf := hr2.free hHg k
      clear hu hHg
      go_wp2
      go_roundw
      case rel => exact ⟨k + 1, _, _, by omega, by go_num, hr2.set k (.int .i64 77), ((T.perm (l2 := (g, Obj.cells cur 3 (0, 0)) :: (l1 ++ L)) (perm_of fun c => by simp; omega)).setCell k (.int .i64 77)).perm (perm_of fun c => by simp; omega)⟩
      case measure => simp [intOf]; omega
    · go_wp2_with fail
      go_loopw [9] (fun q wr => ∃ (k : Nat) (xs : List Value) (l1 : List Blk), k ≤ (flat (J ++ [i])).length ∧ q = .int .i64 k ∧ Row 31 1 a1 (flat (J ++ [i])).length p1 xs l1 ∧ Turn L w (l1 ++ L) wr) (fun q _ => (flat (J ++ [i])).length - (intOf q).toNat)
      case atStart => exact ⟨0, _, l1, Nat.zero_le _, rfl, hr1, (T.perm (l2 := l2 ++ (l1 ++ L)) (perm_of fun c => by simp; omega)).drop⟩
      case round =>
        clear T hr1 hlt hk hr2
        obtain ⟨k, xs, l1, hk, rfl, hr1, T⟩ := hrel
        by_cases hlt : k < (flat (J ++ [i])).length
        · have hlt' : (k : Int) < ((flat (J ++ [i])).length : Int) := by omega
          obtain ⟨g, cur, rfl, rfl, -, -⟩ := hr1.some_of (by omega)
          obtain ⟨u, hu⟩ : ∃ u, xs[k]? = some u := ⟨xs[k]'(by have := hr1.1; omega), List.getElem?_eq_getElem _⟩
          have hc := (hr1.cell T.has k (by omega)).trans hu
          have hf := hr1.free T.has k
          clear hu
          go_wp2
          go_roundw
          case rel => exact ⟨k + 1, _, _, by omega, by go_num, hr1.set k (.int .u64 77), T.setCell k (.int .u64 77)⟩
          case measure => simp [intOf]; omega
        · have V := T.drop
          clear T hr1 hk
          have V8 := V.perm (l2 := ls ++ (lr ++ R)) (by rw [HL.out])
          go_wp2_with fail
          refine (words_any _ hS.st V8.has).mono ?_
          rintro e w8 ⟨a9, p9, l9, rfl, hr9, T9⟩
          have V9 := (V8.trans T9).perm (l2 := lr ++ (ls ++ R ++ l9)) (perm_of fun c => by simp; omega)
          clear T9 V8 V
          go_wp2_with fail
          refine (rWords_any _ hS.rf V9.has).mono ?_
          rintro e w9 ⟨a10, p10, l10, rfl, hr10, T10⟩
          have V10 := V9.trans T10
          clear V9 T10
          go_wp2_with fail
          refine (quiet_turn (same_any _ (hr9.src (R := l10 ++ (lr ++ (ls ++ R))) (V10.has.perm (perm_of fun c => by simp; omega))) (hr10.src V10.has) hb1) V10.has).mono ?_
          rintro e w10 ⟨rfl, T11⟩
          rw [show decide (flat (J ++ [i]) = flat (J ++ [i])) = true from decide_eq_true rfl]
          have V11 := (V10.trans T11).perm (l2 := (l10 ++ l9) ++ (ls ++ (lr ++ R))) (perm_of fun c => by simp; omega) |>.drop
          clear V10 T11 hr9 hr10
          go_wp2_with fail
          refine (frames_any _ hS.st V11.has).mono ?_
          rintro e w11 ⟨a12, p12, l12, rfl, hr12, T12⟩
          rw [Ho.out]
          rw [Ho.out] at hr12
          have V12 := (V11.trans T12).perm (l2 := lr ++ (ls ++ R ++ l12)) (perm_of fun c => by simp; omega)
          clear V11 T12
          go_wp2_with fail
          refine (rFrames_any _ hS.rf V12.has).mono ?_
          rintro e w12 ⟨a13, p13, l13, rfl, hr13, T13⟩
          have V13 := V12.trans T13
          clear V12 T13
          go_wp2_with fail
          refine (quiet_turn (sameInts_any _ (hr12.src (R := l13 ++ (lr ++ (ls ++ R))) (V13.has.perm (perm_of fun c => by simp; omega))) (hr13.src V13.has) hb2) V13.has).mono ?_
          rintro e w13 ⟨rfl, T14⟩
          rw [show decide (offs J = offs J) = true from decide_eq_true rfl]
          have V14 := (V13.trans T14).perm (l2 := (l13 ++ l12) ++ (ls ++ (lr ++ R))) (perm_of fun c => by simp; omega) |>.drop
          rw [HL.out] at V14
          go_wp2
          go_ret
          exact ⟨rfl, V14⟩
end
end Go.Proofs.Ytinpkimflcmkgaa
