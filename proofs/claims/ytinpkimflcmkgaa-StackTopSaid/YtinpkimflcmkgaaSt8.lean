/-
  skerrylaw14.StackTop: whatever words, the law returns true and turns nothing that was there.
  Conditions: the slice can be read.
-/
import Derived.Test.YtinpkimflcmkgaaSt7
namespace Go.Proofs.Ytinpkimflcmkgaa
open Go Go.RowKit

set_option maxRecDepth 100000 in
set_option maxHeartbeats 1600000 in
theorem stackTop_any (w : World) {a : Option Addr} {n c : Nat} {xs : List Int} (h : Src w a n c 1 (u64s xs)) (hn : n ≤ maxLen) :
    Calls Try.prog 4 #[.slice a n c] w fun e w' => e = .returned (.bool true) ∧ Turn [] w [] w' := by
  have hlen : xs.length = n := by simpa using h.len
  have Hlen := Lib.hid hlen
  clear hlen
  unfold maxLen at hn
  by_cases hl : 200 < n
  · go_enter Try.func4, Try.ntmps4
    go_wp2_with fail
    refine (alive14 w (Has.nil w)).mono ?_
    rintro e w' ⟨rfl, T⟩
    go_wp2
    go_ret
    exact ⟨rfl, T⟩
  · have hl' : n ≤ 200 := by omega
    clear hl
    obtain ⟨l0, S0, T0⟩ := new_stack (w := w) n (by omega) (Has.nil w)
    have hold : ∀ (L : List Blk) (wr : World), Turn [] w L wr → Src wr a n c 1 (u64s xs) := fun L wr T => h.kept fun ad j ha hj => by
      obtain ⟨u, hu⟩ : ∃ u, (u64s xs)[j]? = some u := ⟨_, List.getElem?_eq_getElem (by rw [h.len]; exact hj)⟩
      exact T.cellOld (World.block_lt_of_cell? w _ (h.at_ ad ha j u hu))
    have Hold := Lib.hid hold
    clear hold
    go_enter Try.func4, Try.ntmps4
    go_wp2_with fail
    refine (new_any n w (by omega) (by omega)).mono ?_
    rintro e w0 ⟨rfl, hw0⟩
    rw [hw0] at T0
    clear hw0
    generalize w.heap.size = b at *
    go_wp2_with fail
    go_loopw [5] (fun i wr => ∃ (k : Nat) (l : List Blk), k ≤ n ∧ i = .int .i64 k ∧ StackIs b (xs.take k) [] n l ∧ Turn [] w (l ++ []) wr) (fun i _ => n - (intOf i).toNat)
    case atStart => exact ⟨0, l0, Nat.zero_le _, rfl, S0, T0⟩
    case round =>
      obtain ⟨k, l, hk, rfl, S, T⟩ := hrel
      by_cases hlt : k < n
      · have hlt' : (k : Int) < (n : Int) := by omega
        obtain ⟨x, hx⟩ : ∃ x, xs[k]? = some x := ⟨xs[k]'(by rw [Hlen.out]; exact hlt), List.getElem?_eq_getElem _⟩
        obtain ⟨bx, off, rfl, hc⟩ := (Hold.out _ _ T).form (by simp [Hlen.out]; omega)
        have g1 := hc k _ (u64s_at xs k x hx)
        have Hx := Lib.hid hx
        clear hx hc
        go_wp2_with fail
        refine (push_yes _ S T.has x (by rw [List.length_take, Hlen.out]; omega)).mono ?_
        rintro e w1 ⟨rfl, l1, S1, T1⟩
        go_wp2
        go_roundw
        case rel => exact ⟨k + 1, l1, by omega, by go_num, by rw [take_succ_of Hx.out]; exact S1, T.trans T1⟩
        case measure => simp [intOf]; omega
      · have hk' : k = n := by omega
        have Hk' := Lib.hid hk'
        have S' : StackIs b xs [] n l := by
          have hS := S
          rw [hk', List.take_of_length_le (by rw [Hlen.out]; exact Nat.le_refl _)] at hS
          exact hS
        clear hk' S
        go_wp2_with fail
        refine (quiet_turn (push_full _ S' T.has 5 Hlen.out) T.has).mono ?_
        rintro e w1 ⟨rfl, T1⟩
        have U1 := T.trans T1
        clear T T1
        go_wp2_with fail
        refine (words_any _ S' U1.has).mono ?_
        rintro e w2 ⟨ao, cap, lr, rfl, hr, T2⟩
        have U2 := U1.trans T2
        clear U1 T2
        go_wp2_with fail
        refine (same_any _ (hr.src U2.has) (Hold.out _ _ U2) (by rw [Hlen.out]; unfold maxLen; omega)).mono ?_
        rintro e w3 ⟨rfl, n3, hw3⟩
        have U3 : Turn [] w (l ++ []) w3 := by rw [hw3]; exact (U2.drewN n3).drop
        clear hw3 U2
        have hself : decide (xs = xs) = true := by simp
        rw [hself]
        go_wp2_with fail
        go_loopw [6] (fun i wr => ∃ k : Nat, k ≤ n ∧ i = .int .i64 k ∧ Turn [] w (l ++ []) wr) (fun i _ => n - (intOf i).toNat)
        case atStart => exact ⟨0, Nat.zero_le _, rfl, U3⟩
        case round =>
          clear U3
          obtain ⟨k, hk, rfl, T⟩ := hrel
          by_cases hlt : k < n
          · have hlt' : (k : Int) < (n : Int) := by omega
            obtain ⟨j, hj⟩ : ∃ j, j + 1 + k = n := ⟨n - 1 - k, by omega⟩
            have he : (n : Int) - 1 - (k : Int) = (j : Int) := by omega
            have hjn : j < n := by omega
            have hjn' : (j : Int) < (n : Int) := by omega
            have Hj := Lib.hid hj
            clear hj
            obtain ⟨x, hx⟩ : ∃ x, xs[j]? = some x := ⟨xs[j]'(by rw [Hlen.out]; exact hjn), List.getElem?_eq_getElem _⟩
            go_wp2_with fail
            refine (quiet_turn (get_yes _ S' T.has k j ⟨by rw [Hj.out, Hlen.out], Nat.zero_le _⟩ x hx) T.has).mono ?_
            rintro e w4 ⟨rfl, T4⟩
            have U4 := T.trans T4
            clear T T4
            obtain ⟨bx, off, rfl, hc⟩ := (Hold.out _ _ U4).form (by simp [Hlen.out]; omega)
            have g1 := hc j _ (u64s_at xs j x hx)
            clear hx hc
            go_wp2
            go_roundw
            case rel => exact ⟨k + 1, by omega, by go_num, U4⟩
            case measure => simp [intOf]; omega
          · go_wp2_with fail
            go_loopw [9] (fun i wr => ∃ (j : Nat) (l : List Blk), j ≤ n ∧ i = .int .i64 ((j : Int) - 1) ∧ StackIs b (xs.take j) [] n l ∧ Turn [] w (l ++ []) wr) (fun i _ => (intOf i + 1).toNat)
            case atStart => exact ⟨n, l, Nat.le_refl _, rfl, by rw [List.take_of_length_le (by rw [Hlen.out]; exact Nat.le_refl _)]; exact S', T⟩
            case round =>
              clear T S'
              obtain ⟨j, l3, hj, hi, S, T⟩ := hrel
              rcases j with _ | q
              · rw [show ((0 : Nat) : Int) - 1 = -1 from rfl] at hi
                subst hi
                have S0 : StackIs b [] [] n l3 := S
                clear S
                go_wp2_with fail
                refine (quiet_turn (pop_bare _ S0 T.has rfl) T.has).mono ?_
                rintro e w5 ⟨rfl, T5⟩
                have U5 := T.trans T5
                clear T T5
                go_wp2_with fail
                refine (alive14 _ U5.has).mono ?_
                rintro e w6 ⟨rfl, T6⟩
                go_wp2
                go_ret
                exact ⟨rfl, (U5.trans T6).drop⟩
              · rw [show ((q + 1 : Nat) : Int) - 1 = (q : Int) from by omega] at hi
                subst hi
                obtain ⟨x, hx⟩ : ∃ x, xs[q]? = some x := ⟨xs[q]'(by rw [Hlen.out]; omega), List.getElem?_eq_getElem _⟩
                have hjn' : (q : Int) < (n : Int) := by omega
                rw [take_succ_of hx] at S
                go_wp2_with fail
                refine (pop_yes _ S T.has x _ rfl (Nat.zero_le _)).mono ?_
                rintro e w5 ⟨rfl, l5, S5, T5⟩
                have U5 := T.trans T5
                clear T T5 S
                obtain ⟨bx, off, rfl, hc⟩ := (Hold.out _ _ U5).form (by simp [Hlen.out]; omega)
                have g1 := hc q _ (u64s_at xs q x hx)
                have hql : (xs.take q).length = q := by rw [List.length_take, Hlen.out]; omega
                have Hql := Lib.hid hql
                clear hx hc hql
                go_wp2_with fail
                refine (len_any _ S5 U5.has).mono ?_
                rintro e w6 ⟨rfl, rfl⟩
                rw [Hql.out]
                go_wp2
                go_roundw
                case rel => exact ⟨q, l5, by omega, by go_num, S5, U5⟩
                case measure => simp [intOf]
end Go.Proofs.Ytinpkimflcmkgaa
