/-
  skerryref02.Same: two rows of words are told alike just if they are.
  Conditions: both slices can be read.
-/
import Derived.Test.YtinpkimflcmkgaaSt5
namespace Go.Proofs.Ytinpkimflcmkgaa
open Go Go.RowKit

theorem take_succ_of {α : Type} {xs : List α} {k : Nat} {x : α} (h : xs[k]? = some x) : xs.take (k + 1) = xs.take k ++ [x] := by
  rw [List.take_add_one, h]
  rfl

theorem eq_of_takes {α : Type} {xs ys : List α} {n : Nat} (h1 : xs.length = n) (h2 : ys.length = n) (h : xs.take n = ys.take n) : xs = ys := by
  rw [List.take_of_length_le (by omega), List.take_of_length_le (by omega)] at h
  exact h

set_option maxRecDepth 100000 in
theorem same_any (w : World) {a a' : Option Addr} {n c n' c' : Nat} {xs ys : List Int} (h1 : Src w a n c 1 (u64s xs)) (h2 : Src w a' n' c' 1 (u64s ys)) (hm : n ≤ maxLen) :
    Calls Try.prog 23 #[.slice a n c, .slice a' n' c'] w fun e w' => e = .returned (.bool (decide (xs = ys))) ∧ ∃ k, w' = w.drewN k := by
  have l1 : xs.length = n := by simpa using h1.len
  have l2 : ys.length = n' := by simpa using h2.len
  unfold maxLen at hm
  by_cases hlen : n = n'
  · subst hlen
    have L1 := Lib.hid l1
    have L2 := Lib.hid l2
    clear l1 l2
    go_enter Try.func23, Try.ntmps23
    go_wp2
    go_loopw [5] (fun i wr => ∃ k j : Nat, k ≤ n ∧ i = .int .i64 k ∧ xs.take k = ys.take k ∧ wr = w.drewN j) (fun i _ => n - (intOf i).toNat)
    case atStart => exact ⟨0, 0, Nat.zero_le _, rfl, rfl, rfl⟩
    case round =>
      obtain ⟨k, j, hk, rfl, heq, rfl⟩ := hrel
      have Heq := Lib.hid heq
      clear heq
      by_cases hlt : k < n
      · obtain ⟨x, hx⟩ : ∃ x, xs[k]? = some x := ⟨xs[k]'(by rw [L1.out]; exact hlt), List.getElem?_eq_getElem _⟩
        obtain ⟨y, hy⟩ : ∃ y, ys[k]? = some y := ⟨ys[k]'(by rw [L2.out]; exact hlt), List.getElem?_eq_getElem _⟩
        obtain ⟨b, off, rfl, hc⟩ := h1.form (by simp [L1.out]; omega)
        obtain ⟨b', off', rfl, hc'⟩ := h2.form (by simp [L2.out]; omega)
        have g1 := hc k _ (u64s_at xs k x hx)
        have g2 := hc' k _ (u64s_at ys k y hy)
        have Hx := Lib.hid hx
        have Hy := Lib.hid hy
        clear hx hy hc hc'
        have hlt' : (k : Int) < (n : Int) := by omega
        by_cases hxy : x = y
        · have b1 : (x == y) = true := by simpa using hxy
          have b2 : (x != y) = false := by simpa using hxy
          have Hxy := Lib.hid hxy
          clear hxy
          go_wp2
          go_quiet (fail)
          go_wp2
          go_roundw
          case rel => exact ⟨k + 1, _, by omega, by go_num, by rw [take_succ_of Hx.out, take_succ_of Hy.out, Heq.out, Hxy.out], by first | rfl | exact World.drewN_drewN _ _ _⟩
          case measure => simp [intOf]; omega
        · have b1 : (x == y) = false := by simpa using hxy
          have b2 : (x != y) = true := by simpa using hxy
          have hfin : decide (xs = ys) = false := by
            rw [decide_eq_false_iff_not]
            rintro rfl
            have := Hx.out.symm.trans Hy.out
            exact hxy (Option.some.inj this)
          have Hfin := Lib.hid hfin
          clear hfin hxy
          go_wp2
          go_quiet (fail)
          go_wp2
          go_ret
          exact ⟨by rw [Hfin.out]; rfl, _, by first | rfl | exact World.drewN_drewN _ _ _⟩
      · have hfin : decide (xs = ys) = true := by
          have hk' : k = n := by omega
          subst hk'
          simpa using eq_of_takes L1.out L2.out Heq.out
        have Hfin := Lib.hid hfin
        clear hfin
        go_wp2
        go_ret
        exact ⟨by rw [Hfin.out]; rfl, _, rfl⟩
  · have hfin : decide (xs = ys) = false := by
      rw [decide_eq_false_iff_not]
      rintro rfl
      exact hlen (l1.symm.trans l2)
    have Hfin := Lib.hid hfin
    have b1 : ((n : Int) == (n' : Int)) = false := by rw [beq_eq_false_iff_ne]; omega
    have b2 : ((n : Int) != (n' : Int)) = true := by rw [bne_iff_ne]; omega
    clear hfin l1 l2
    go_enter Try.func23, Try.ntmps23
    go_wp2
    go_ret
    exact ⟨by rw [Hfin.out]; rfl, 0, rfl⟩
end Go.Proofs.Ytinpkimflcmkgaa
