/-
  skerrylaw14.StackFrames, where it plays: the stack is as it was at the Enter.
  Conditions: the slices of steps can be read.
-/
import Derived.Test.YtinpkimflcmkgaaSf1
namespace Go.Proofs.Ytinpkimflcmkgaa
open Go Go.RowKit

/-- The stack of these frames. -/
def StkOf (b : Nat) (G : List Inn) (max : Nat) (l : List Blk) : Prop := StackIs b (flat G) (offs G.dropLast) max l

theorem step1_above {d : Int} {A K : List Inn} {x : Inn} {J' : List Inn} {i' : Inn} (h : Step1 d (A ++ K) x J' i') (hK : d = 3 → K ≠ []) : ∃ K', J' = A ++ K' := by
  cases h with
  | top h => exact ⟨K, h⟩
  | more h _ => exact ⟨K ++ [x], by rw [h, List.append_assoc]⟩
  | less hd h =>
    rcases List.eq_nil_or_concat K with rfl | ⟨K', y, rfl⟩
    · exact absurd rfl (hK hd)
    · rw [List.concat_eq_append, ← List.append_assoc] at h
      exact ⟨K', (List.append_inj' h rfl).1.symm⟩

theorem offs_ne {G : List Inn} (h : G ≠ []) : offs G = offs G.dropLast ++ [(flat G).length] := by
  rcases List.eq_nil_or_concat G with rfl | ⟨P, z, rfl⟩
  · exact absurd rfl h
  · rw [List.concat_eq_append, List.dropLast_concat, offs_snoc]

theorem leave_stk {b : Nat} {G : List Inn} {y : Inn} {max : Nat} {l R : List Blk} (w : World) (hS : StkOf b (G ++ [y]) max l) (hG : G ≠ []) (hH : Has w (l ++ R)) :
    Calls Try.prog 42 #[.pointer (some ⟨b, 0, none⟩)] w fun e w' => e = .returned (.tuple #[.int .i64 y.xs.length, .int .i64 0]) ∧ ∃ l', StkOf b G max l' ∧ Turn (l ++ R) w (l' ++ R) w' := by
  unfold StkOf at hS
  rw [List.dropLast_concat, offs_ne hG] at hS
  refine (leave_yes w hS hH).mono ?_
  rintro e w' ⟨rfl, l', S, T⟩
  rw [flat_snoc_length, Nat.add_sub_cancel_left]
  refine ⟨rfl, l', ?_, T⟩
  rw [flat_snoc, List.take_left] at S
  exact S

theorem depth_stk {b : Nat} {G : List Inn} {max : Nat} {l R : List Blk} (w : World) (hS : StkOf b G max l) (hH : Has w (l ++ R)) :
    Calls Try.prog 39 #[.pointer (some ⟨b, 0, none⟩)] w fun e w' => e = .returned (.int .i64 (G.length - 1 : Nat)) ∧ w = w' := by
  have h := depth_any w hS hH
  rwa [offs_length, List.length_dropLast] at h

set_option maxRecDepth 100000 in
set_option maxHeartbeats 1600000 in
theorem frames_main (w : World) (m : Nat) {a1 a2 : Option Addr} {n1 n2 c1 c2 : Nat} {L1 L2 : List (Int × Int × Int)} (h1 : StepsAt w a1 n1 c1 L1) (h2 : StepsAt w a2 n2 c2 L2) (hs : n1 + n2 ≤ 300) (hm : m ≤ 4096) :
    Calls Try.prog 6 #[.int .i64 m, .slice a1 n1 c1, .slice a2 n2 c2] w (LawPost w) := by
  have hl' : ¬ (300 : Int) < (n1 : Int) + (n2 : Int) := by omega
  go_enter Try.func6, Try.ntmps6
  go_wp2_with fail
  refine (new_good (R := []) w m hm (Has.nil w)).mono ?_
  rintro e w0 ⟨bs, l0, rfl, S0, T0⟩
  go_wp2_with fail
  refine (rNew_any w0 m hm T0.has).mono ?_
  rintro e w1 ⟨br, l1, rfl, S1, T1⟩
  have Y0 : Sync bs br [] nilInn m l0 l1 := ⟨S0, S1⟩
  have V0 := (T0.trans T1).perm (l2 := l0 ++ (l1 ++ [])) (perm_of fun c => by simp; omega)
  clear T0 T1 S0 S1
  go_wp2_with fail
  go_loopw [10] (fun i wr => ∃ (k : Nat) (J : List Inn) (x : Inn) (ls lr : List Blk), k ≤ n1 ∧ i = .int .i64 k ∧ Sync bs br J x m ls lr ∧ Turn [] w (ls ++ (lr ++ [])) wr) (fun i _ => n1 - (intOf i).toNat)
  case atStart => exact ⟨0, [], nilInn, l0, l1, Nat.zero_le _, rfl, Y0, V0⟩
  case round =>
    clear V0 Y0
    obtain ⟨k, J, x, ls, lr, hk, rfl, Y, T⟩ := hrel
    by_cases hlt : k < n1
    · have hlt' : (k : Int) < (n1 : Int) := by omega
      obtain ⟨b, off, d, q, v, rfl, hx, g0, g1, g2⟩ := h1.cells T k hlt
      clear hx
      go_wp2_with fail
      refine (does_any _ Y T.has d q v).mono ?_
      rintro e w2 ⟨rfl, J', x', ls', lr', Y', T2, -⟩
      go_wp2
      go_roundw
      case rel => exact ⟨k + 1, J', x', ls', lr', by omega, by go_num, Y', T.trans T2⟩
      case measure => simp [intOf]; omega
    · go_wp2_with fail
      refine (words_any _ Y.st T.has).mono ?_
      rintro e w2 ⟨ao, cap, lw, rfl, hr, T2⟩
      have V2 := (T.trans T2).perm (l2 := ls ++ (lr ++ lw)) (perm_of fun c => by simp; omega)
      clear T T2
      go_wp2_with fail
      refine (depth_any _ Y.st V2.has).mono ?_
      rintro e w3 ⟨rfl, rfl⟩
      rw [offs_length]
      have hd := Y.ok.deep
      rw [List.length_append, List.length_singleton] at hd
      by_cases hf : J.length = 256
      · have Hf := Lib.hid hf
        clear hf
        go_wp2_with fail
        refine (enter_full _ Y.st V2.has (by rw [offs_length, Hf.out])).mono ?_
        rintro e w3 ⟨rfl, rfl⟩
        have he : ((J.length : Int) == 256) = true := by rw [Hf.out]; rfl
        go_wp2_with fail
        refine (alive14 _ V2.has).mono ?_
        rintro e w3 ⟨rfl, T3⟩
        go_wp2
        go_ret
        exact ⟨rfl, (V2.trans T3).sub (List.nil_sublist _)⟩
      · have hlt2 : J.length < 256 := by omega
        clear hf
        go_wp2_with fail
        refine (enter_yes _ Y.st V2.has (by rw [offs_length]; exact hlt2)).mono ?_
        rintro e w3 ⟨rfl, ls1, S1, T3⟩
        have V3 := (V2.trans T3).perm (l2 := lr ++ (ls1 ++ lw)) (perm_of fun c => by simp; omega)
        clear V2 T3
        go_wp2_with fail
        refine (rEnter_yes _ Y.rf V3.has (by simp; omega)).mono ?_
        rintro e w4 ⟨rfl, lr1, S2, T4⟩
        have V4 := (V3.trans T4).perm (l2 := ls1 ++ (lr1 ++ lw)) (perm_of fun c => by simp; omega)
        clear V3 T4
        have Y1 : Sync bs br ((J ++ [x]) ++ []) nilInn m ls1 lr1 := by
          refine ⟨?_, by rw [List.append_nil]; exact S2⟩
          rw [List.append_nil, offs_snoc, flat_snoc (J ++ [x]) nilInn, show nilInn.xs = [] from rfl, List.append_nil]
          exact S1
        clear S1 S2
        have hA : (J ++ [x]).length = J.length + 1 := by simp
        generalize hAe : J ++ [x] = A at *
        have HA := Lib.hid hA
        have HAe := Lib.hid hAe
        clear hA hAe
        go_wp2_with fail
        go_loopw [13] (fun i wr => ∃ (k : Nat) (K : List Inn) (y : Inn) (ls lr : List Blk), k ≤ n2 ∧ i = .int .i64 k ∧ Sync bs br (A ++ K) y m ls lr ∧ Turn [] w (ls ++ (lr ++ lw)) wr) (fun i _ => n2 - (intOf i).toNat)
        case atStart => exact ⟨0, [], nilInn, ls1, lr1, Nat.zero_le _, rfl, Y1, V4⟩
        case round =>
          clear V4 Y1
          obtain ⟨k2, K, y, ls2, lr2, hk2, rfl, Y2, T⟩ := hrel
          have hdeep := Y2.ok.deep
          rw [List.length_append, List.length_append, List.length_singleton, HA.out] at hdeep
          by_cases hlt3 : k2 < n2
          · have hlt3' : (k2 : Int) < (n2 : Int) := by omega
            obtain ⟨b, off, d, q, v, rfl, hx, g0, g1, g2⟩ := h2.cells T k2 hlt3
            clear hx
            have hdo : ∀ (K : List Inn) (y : Inn) (ls2 lr2 : List Blk), Sync bs br (A ++ K) y m ls2 lr2 → (d = 3 → K ≠ []) → ∀ W : World, Turn [] w (ls2 ++ (lr2 ++ lw)) W →
                Calls Try.prog 38 #[.pointer (some ⟨bs, 0, none⟩), .pointer (some ⟨br, 0, none⟩), .agg #[.int .i64 d, .int .i64 q, .int .u64 v]] W fun e w' => e = .returned (.bool true) ∧ ∃ K' y' ls' lr', Sync bs br (A ++ K') y' m ls' lr' ∧ Turn [] w (ls' ++ (lr' ++ lw)) w' := by
              intro K y ls2 lr2 Y2 hK W T
              refine (does_any _ Y2 T.has d q v).mono ?_
              rintro e w' ⟨rfl, J', i', ls', lr', Y', T', hst⟩
              obtain ⟨K', rfl⟩ := step1_above hst hK
              exact ⟨rfl, K', i', ls', lr', Y', T.trans T'⟩
            have Hdo := Lib.hid hdo
            clear hdo
            by_cases hd3 : d = 3
            · subst hd3
              by_cases hK : K = []
              · have hD : (offs (A ++ K)).length ≤ J.length + 1 := by rw [offs_length, hK, List.append_nil, HA.out]; exact Nat.le_refl _
                have HK := Lib.hid hK
                clear hK
                generalize hDD : (offs (A ++ K)).length = D at hD
                have HDD := Lib.hid hDD
                clear hDD
                go_wp2_with fail
                refine (depth_any _ Y2.st T.has).mono ?_
                rintro e w5 ⟨rfl, rfl⟩
                rw [HDD.out]
                go_wp2
                go_roundw
                case rel => exact ⟨k2 + 1, K, y, ls2, lr2, by omega, by go_num, Y2, T⟩
                case measure => simp [intOf]; omega
              · have hD : ¬ (offs (A ++ K)).length ≤ J.length + 1 := by
                  rw [offs_length, List.length_append, HA.out]
                  have := List.length_pos_iff.2 hK
                  omega
                have HK := Lib.hid hK
                clear hK
                generalize hDD : (offs (A ++ K)).length = D at hD
                have HDD := Lib.hid hDD
                clear hDD
                go_wp2_with fail
                refine (depth_any _ Y2.st T.has).mono ?_
                rintro e w5 ⟨rfl, rfl⟩
                rw [HDD.out]
                go_wp2_with fail
                refine (Hdo.out K y ls2 lr2 Y2 (fun _ => HK.out) _ T).mono ?_
                rintro e w6 ⟨rfl, K', y', ls', lr', Y', T'⟩
                clear T
                have hD2 : ¬ (offs (A ++ K')).length ≤ J.length := by rw [offs_length, List.length_append, HA.out]; omega
                have hN2 : ¬ (flat ((A ++ K') ++ [y'])).length < (flat A).length := by rw [flat_snoc_length, flat_append, List.length_append]; omega
                generalize hDD2 : (offs (A ++ K')).length = D2 at hD2
                have HDD2 := Lib.hid hDD2
                clear hDD2
                generalize hNN2 : (flat ((A ++ K') ++ [y'])).length = N2 at hN2
                have HNN2 := Lib.hid hNN2
                clear hNN2
                go_wp2_with fail
                refine (depth_any _ Y'.st T'.has).mono ?_
                rintro e w7 ⟨rfl, rfl⟩
                rw [HDD2.out]
                go_wp2_with fail
                refine (len_any _ Y'.st T'.has).mono ?_
                rintro e w7 ⟨rfl, rfl⟩
                rw [HNN2.out]
                go_wp2
                go_roundw
                case rel => exact ⟨k2 + 1, K', y', ls', lr', by omega, by go_num, Y', T'⟩
                case measure => simp [intOf]; omega
            · have b3 : (d == 3) = false := by rw [beq_eq_false_iff_ne]; exact hd3
              have Hd3 := Lib.hid hd3
              clear hd3
              go_wp2_with fail
              refine (Hdo.out K y ls2 lr2 Y2 (fun h => absurd h Hd3.out) _ T).mono ?_
              rintro e w6 ⟨rfl, K', y', ls', lr', Y', T'⟩
              clear T
              have hD2 : ¬ (offs (A ++ K')).length ≤ J.length := by rw [offs_length, List.length_append, HA.out]; omega
              have hN2 : ¬ (flat ((A ++ K') ++ [y'])).length < (flat A).length := by rw [flat_snoc_length, flat_append, List.length_append]; omega
              generalize hDD2 : (offs (A ++ K')).length = D2 at hD2
              have HDD2 := Lib.hid hDD2
              clear hDD2
              generalize hNN2 : (flat ((A ++ K') ++ [y'])).length = N2 at hN2
              have HNN2 := Lib.hid hNN2
              clear hNN2
              go_wp2_with fail
              refine (depth_any _ Y'.st T'.has).mono ?_
              rintro e w7 ⟨rfl, rfl⟩
              rw [HDD2.out]
              go_wp2_with fail
              refine (len_any _ Y'.st T'.has).mono ?_
              rintro e w7 ⟨rfl, rfl⟩
              rw [HNN2.out]
              go_wp2
              go_roundw
              case rel => exact ⟨k2 + 1, K', y', ls', lr', by omega, by go_num, Y', T'⟩
              case measure => simp [intOf]; omega
          · have hstk : StkOf bs (A ++ (K ++ [y])) m ls2 := by
              have h := Y2.st
              unfold StkOf
              rw [← List.append_assoc, List.dropLast_concat]
              exact h
            have T' := T.perm (l2 := lr2 ++ (ls2 ++ lw)) (perm_of fun c => by simp; omega) |>.drop
            have hlen := Y2.ok.len
            have hle : (flat A).length ≤ (flat ((A ++ K) ++ [y])).length := by rw [flat_snoc_length, flat_append, List.length_append]; omega
            have hKl : (K ++ [y]).length = K.length + 1 := by simp
            have hA0 : A ≠ [] := by
              intro h
              have := HA.out
              rw [h] at this
              simp at this
            have HA0 := Lib.hid hA0
            clear hA0
            have hcat : (A ++ K) ++ [y] = A ++ (K ++ [y]) := List.append_assoc ..
            go_wp2_with fail
            refine (len_any _ Y2.st T.has).mono ?_
            rintro e w5 ⟨rfl, rfl⟩
            rw [hcat]
            rw [hcat] at hlen hle
            generalize hM : (flat (A ++ (K ++ [y]))).length = M at *
            have HM := Lib.hid hM
            have HKl := Lib.hid hKl
            clear hM hKl hcat T Y2 hlt3 hk2
            go_wp2_with fail
            go_loopw [15, 16] (fun g i wr => ∃ (Kk : List Inn) (ls : List Blk) (gn q : Nat), Kk.length + q = K.length + 1 ∧ g = .int .i64 gn ∧ i = .int .i64 q ∧ gn + (flat (A ++ Kk)).length = M ∧ StkOf bs (A ++ Kk) m ls ∧ Turn [] w (ls ++ lw) wr) (fun _ i _ => K.length + 1 - (intOf i).toNat)
            case atStart => exact ⟨K ++ [y], ls2, 0, 0, by simp, rfl, rfl, by rw [HM.out]; exact Nat.zero_add _, hstk, T'⟩
            case round =>
              clear hstk T'
              obtain ⟨Kk, ls, gn, q, hq, rfl, rfl, hsum, hstk, T⟩ := hrel
              have hD : (A ++ Kk).length - 1 = J.length + Kk.length := by rw [List.length_append, HA.out]; omega
              have hdep := fun W hW => depth_stk (R := lw) W hstk hW
              rw [hD] at hdep
              have Hdep := Lib.hid hdep
              rcases List.eq_nil_or_concat Kk with hKk | ⟨Kk', z, hKk⟩
              · rw [hKk, List.append_nil] at hstk
                rw [hKk, List.append_nil] at hsum
                rw [hKk, List.append_nil, List.length_nil, Nat.add_zero] at hD
                have HD := Lib.hid hD
                have Hsum := Lib.hid hsum
                have hgM : gn ≤ 4096 := by omega
                have hM2 : M ≤ 4096 := by omega
                have hw : IntKind.i64.wrap ((M : Int) - (gn : Int)) = ((flat A).length : Int) := by rw [IntWalk.i64_in _ (by omega)]; omega
                clear hD hsum hKk hq hdep
                go_wp2_with fail
                refine (depth_stk _ hstk T.has).mono ?_
                rintro e w5 ⟨rfl, rfl⟩
                rw [HD.out]
                go_wp2_with fail
                refine (depth_stk _ hstk T.has).mono ?_
                rintro e w5 ⟨rfl, rfl⟩
                rw [HD.out]
                go_wp2_with fail
                refine (words_any _ hstk T.has).mono ?_
                rintro e w6 ⟨ao6, cap6, lw6, rfl, hr6, T6⟩
                have V6 := T.trans T6
                clear T T6
                have hs6 := hr6.src V6.has
                have hs7 := hr.src (R := lw6 ++ ls) (V6.has.perm (perm_of fun c => by simp; omega))
                have hle6 : (flat A).length ≤ maxLen := by unfold maxLen; omega
                go_wp2_with fail
                refine (quiet_turn (same_any _ hs6 hs7 hle6) V6.has).mono ?_
                rintro e w7 ⟨rfl, T7⟩
                rw [show decide (flat A = flat A) = true from decide_eq_true rfl]
                have V7 := V6.trans T7
                clear V6 T7 hs6 hs7
                go_wp2_with fail
                refine (alive14 _ V7.has).mono ?_
                rintro e w8 ⟨rfl, T8⟩
                go_wp2
                go_ret
                exact ⟨rfl, (V7.trans T8).sub (List.nil_sublist _)⟩
              · rw [List.concat_eq_append] at hKk
                have hKl2 : Kk.length = Kk'.length + 1 := by rw [hKk]; simp
                have hstk' : StkOf bs ((A ++ Kk') ++ [z]) m ls := by rw [hKk, ← List.append_assoc] at hstk; exact hstk
                have hsum2 : gn + ((flat (A ++ Kk')).length + z.xs.length) = M := by rw [hKk, ← List.append_assoc, flat_snoc_length] at hsum; exact hsum
                have hne : A ++ Kk' ≠ [] := by
                  intro h
                  exact HA0.out (List.append_eq_nil_iff.1 h).1
                have hDg : J.length < J.length + Kk.length := by omega
                generalize hDe : J.length + Kk.length = D at *
                have HD := Lib.hid hD
                have Hne := Lib.hid hne
                have hq1 : q ≤ 256 := by omega
                have Hq := Lib.hid hq
                have Hkl2 := Lib.hid hKl2
                have hM4 : M ≤ 4096 := by omega
                have hg1 : gn + z.xs.length ≤ M := by omega
                have Hsum := Lib.hid hsum2
                have hqK : q ≤ K.length := by omega
                clear hKk hDe hD hq hKl2 hsum hsum2 hne hstk hdep
                go_wp2_with fail
                refine (Hdep.out _ T.has).mono ?_
                rintro e w5 ⟨rfl, rfl⟩
                go_wp2_with fail
                refine (leave_stk _ hstk' Hne.out T.has).mono ?_
                rintro e w6 ⟨rfl, ls6, S6, T6⟩
                go_wp2
                go_roundw
                case rel => exact ⟨Kk', ls6, gn + z.xs.length, q + 1, by have := Hq.out; have := Hkl2.out; omega, by go_num, by go_num, by have := Hsum.out; omega, S6, T.trans T6⟩
                case measure => simp [intOf]; omega
end Go.Proofs.Ytinpkimflcmkgaa
