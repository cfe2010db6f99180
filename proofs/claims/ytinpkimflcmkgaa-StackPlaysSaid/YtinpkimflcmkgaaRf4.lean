/-
  The reference's stack of layer 14: contract of Frames; skerryref05.SameInts: two rows of numbers are told alike just if they are.
  Conditions: none beyond what each contract states.
-/
import Derived.Test.YtinpkimflcmkgaaRf3
namespace Go.Proofs.Ytinpkimflcmkgaa
open Go Go.RowKit

set_option maxRecDepth 100000 in
theorem sameInts_any (w : World) {a a' : Option Addr} {n c n' c' : Nat} {xs ys : List Nat} (h1 : Src w a n c 1 (i64s xs)) (h2 : Src w a' n' c' 1 (i64s ys)) (hm : n ≤ maxLen) :
    Calls Try.prog 81 #[.slice a n c, .slice a' n' c'] w fun e w' => e = .returned (.bool (decide (xs = ys))) ∧ ∃ k, w' = w.drewN k := by
  have l1 : xs.length = n := by simpa using h1.len
  have l2 : ys.length = n' := by simpa using h2.len
  unfold maxLen at hm
  by_cases hlen : n = n'
  · subst hlen
    have L1 := Lib.hid l1
    have L2 := Lib.hid l2
    clear l1 l2
    go_enter Try.func81, Try.ntmps81
    go_wp2
    go_loopw [5] (fun i wr => ∃ k j : Nat, k ≤ n ∧ i = .int .i64 k ∧ xs.take k = ys.take k ∧ wr = w.drewN j) (fun i _ => n - (intOf i).toNat)
    case atStart => exact ⟨0, 0, Nat.zero_le _, rfl, rfl, rfl⟩
    case round =>
      obtain ⟨k, j, hk, rfl, heq, rfl⟩ := hrel
      have Heq := Lib.hid heq
      clear heq
      by_cases hlt : k < n
      · obtain ⟨x, hx⟩ : ∃ x, xs[k]? = some x := ⟨xs[k]'(by rw [L1.out]; exact hlt), List.getElem?_eq_getElem _⟩
        obtain ⟨y, hy⟩ : ∃ y, ys[k]? = some y := ⟨ys[k]'(by rw [L2.out]; exact hlt), List.getElem?_eq_getElem _⟩
        obtain ⟨b, off, rfl, hc⟩ := h1.form (by simp [L1.out]; omega)
        obtain ⟨b', off', rfl, hc'⟩ := h2.form (by simp [L2.out]; omega)
        have g1 := hc k _ (i64s_at xs k x hx)
        have g2 := hc' k _ (i64s_at ys k y hy)
        have Hx := Lib.hid hx
        have Hy := Lib.hid hy
        clear hx hy hc hc'
        have hlt' : (k : Int) < (n : Int) := by omega
        by_cases hxy : x = y
        · have b1 : ((x : Int) == (y : Int)) = true := by rw [beq_iff_eq]; omega
          have b2 : ((x : Int) != (y : Int)) = false := by rw [bne_eq_false_iff_eq]; omega
          have Hxy := Lib.hid hxy
          clear hxy
          go_wp2
          go_quiet (fail)
          go_wp2
          go_roundw
          case rel => exact ⟨k + 1, _, by omega, by go_num, by rw [take_succ_of Hx.out, take_succ_of Hy.out, Heq.out, Hxy.out], by first | rfl | exact World.drewN_drewN _ _ _⟩
          case measure => simp [intOf]; omega
        · have b1 : ((x : Int) == (y : Int)) = false := by rw [beq_eq_false_iff_ne]; omega
          have b2 : ((x : Int) != (y : Int)) = true := by rw [bne_iff_ne]; omega
          have hfin : decide (xs = ys) = false := by
            rw [decide_eq_false_iff_not]
            rintro rfl
            have := Hx.out.symm.trans Hy.out
            exact hxy (Option.some.inj this)
          have Hfin := Lib.hid hfin
          clear hfin hxy
          go_wp2
          go_quiet (fail)
          go_wp2
          go_ret
          exact ⟨by rw [Hfin.out]; rfl, _, by first | rfl | exact World.drewN_drewN _ _ _⟩
      · have hfin : decide (xs = ys) = true := by
          have hk' : k = n := by omega
          subst hk'
          simpa using eq_of_takes L1.out L2.out Heq.out
        have Hfin := Lib.hid hfin
        clear hfin
        go_wp2
        go_ret
        exact ⟨by rw [Hfin.out]; rfl, _, rfl⟩
  · have hfin : decide (xs = ys) = false := by
      rw [decide_eq_false_iff_not]
      rintro rfl
      exact hlen (l1.symm.trans l2)
    have Hfin := Lib.hid hfin
    have b1 : ((n : Int) == (n' : Int)) = false := by rw [beq_eq_false_iff_ne]; omega
    have b2 : ((n : Int) != (n' : Int)) = true := by rw [bne_iff_ne]; omega
    clear hfin l1 l2
    go_enter Try.func81, Try.ntmps81
    go_wp2
    go_ret
    exact ⟨by rw [Hfin.out]; rfl, 0, rfl⟩

/-- A new slice has come; all else is as it was. -/
def SlicePost (L : List Blk) (w : World) (e : TypeId) (size n : Nat) (xs : List Value) (ev : Ending) (w' : World) : Prop :=
  ∃ ao cap l', ev = .returned (.slice ao n cap) ∧ Row e size ao n cap xs l' ∧ Turn L w (l' ++ L) w'

/-- Where frames begin, but the first. -/
def offs (J : List Inn) : List Nat := (List.range J.length).map fun j => (flat (J.take (j + 1))).length
theorem offs_nil : offs [] = [] := rfl
theorem offs_length (J : List Inn) : (offs J).length = J.length := by simp [offs]
theorem offs_snoc (J : List Inn) (i : Inn) : offs (J ++ [i]) = offs J ++ [(flat (J ++ [i])).length] := by
  unfold offs
  rw [List.length_append, List.length_singleton, List.range_succ, List.map_append]
  congr 1
  · refine List.map_congr_left fun j hj => ?_
    have hlt : j < J.length := List.mem_range.1 hj
    rw [List.take_append_of_le_length (by omega)]
  · simp only [List.map_cons, List.map_nil]
    rw [List.take_of_length_le (by simp)]
theorem offs_base (J : List Inn) : baseOf (offs J) = (flat J).length := by
  rcases List.eq_nil_or_concat J with rfl | ⟨K, x, rfl⟩
  · rfl
  · rw [List.concat_eq_append, offs_snoc, baseOf_snoc]

section
variable {b : Nat} {J : List Inn} {i : Inn} {max : Nat} {l R : List Blk}
set_option maxRecDepth 100000 in
theorem rFrames_any (w : World) (hS : RefIs b (J ++ [i]) max l) (hH : Has w (l ++ R)) :
    Calls Try.prog 82 #[.pointer (some ⟨b, 0, none⟩)] w (SlicePost (l ++ R) w 3 1 J.length (i64s (offs J))) := by
  obtain ⟨hok, hi, ao, cap, lO, hl, hr⟩ := hS
  have hd := hok.deep
  have hm := hok.max
  have hln := hok.len
  rw [flat_snoc_length] at hln
  have hJl : (J ++ [i]).length = J.length + 1 := by simp
  have hat : ∀ k, k < J.length → (J ++ [i])[k]? = J[k]? := fun k hk => List.getElem?_append_left hk
  have hcell : ∀ (wr : World) (X : List Blk) (k : Nat) (x : Inn), J[k]? = some x → Has wr ((b, .cells #[.slice ao (J ++ [i]).length cap, .int .i64 max] 125) :: (lO ++ inb (J ++ [i])) ++ X) → ∃ g, ao = some ⟨g, 0, none⟩ ∧ wr.cell? ⟨g, k, none⟩ = some (.slice x.ao x.xs.length x.cap) := by
    intro wr X k x hx hW
    exact frame_cell hr hW k x (by rw [hat k (List.getElem?_eq_some_iff.1 hx).1]; exact hx)
  have Hcell := Lib.hid hcell
  clear hcell hat hr
  generalize hn : (J ++ [i]).length = n at *
  have Hn := Lib.hid hn
  have Hl := Lib.hid hl
  have hnJ : n ≤ J.length + 1 := by omega
  have hnJ' : J.length + 1 ≤ n := by omega
  clear hl hJl hn
  go_enter Try.func82, Try.ntmps82
  go_wp2_with fail
  go_loopw [3, 4, 5] (fun v m i' wr => ∃ (k : Nat) (a1 : Option Addr) (p1 : Nat) (l1 : List Blk), k ≤ J.length ∧ i' = .int .i64 k ∧ m = .int .i64 (flat (J.take k)).length ∧ v = .slice a1 k p1 ∧ Row 3 1 a1 k p1 (i64s (offs (J.take k))) l1 ∧
      Turn (l ++ R) w (l1 ++ (l ++ R)) wr) (fun _ _ i' _ => J.length - (intOf i').toNat)
  case atStart => exact ⟨0, none, 0, [], Nat.zero_le _, rfl, rfl, rfl, Row.nil _ _, Turn.refl hH⟩
  case round =>
    obtain ⟨k, a1, p1, l1, hk, rfl, rfl, rfl, hr1, T⟩ := hrel
    have hT := T.has
    rw [Hl.out] at hT
    have hH1 := hT.perm (l' := (b, .cells #[.slice ao n cap, .int .i64 max] 125) :: (lO ++ inb (J ++ [i])) ++ (R ++ l1)) (perm_of fun c => by simp; omega)
    obtain ⟨c0, c1, f0, hlt0⟩ := head2_of hH1
    by_cases hlt : k < J.length
    · have hlt' : (k : Int) + 1 < (n : Int) := by omega
      obtain ⟨x, hx⟩ : ∃ x, J[k]? = some x := ⟨J[k]'hlt, List.getElem?_eq_getElem _⟩
      obtain ⟨g, hg, hc⟩ := Hcell.out wr _ k x hx hH1
      rw [hg] at c0
      clear hT hH1 hg
      have hlt2 : (k : Int) < (n : Int) := by omega
      have hle := flat_take_le J k
      have hle' := flat_take_le J (k + 1)
      have hts := flat_take_succ hx
      have hto := offs_snoc (J.take k) x
      rw [← take_succ_of hx] at hto
      have hsum : (flat (J.take k)).length + x.xs.length = (flat (J.take (k + 1))).length := by rw [hts, List.length_append]
      have h63 : k + 1 ≤ maxLen := by unfold maxLen; omega
      have hby : (k + 1) * 8 ≤ 140737488355328 := by omega
      have Hto := Lib.hid hto
      generalize hN : (flat (J.take k)).length = N at *
      generalize hM : (flat (J.take (k + 1))).length = M at *
      have hMs : (N : Int) + (x.xs.length : Int) = (M : Int) := by omega
      have HM := Lib.hid hM
      clear hts hto hx hN hM hsum
      go_wp2_with (at_builtin; refine wpList_append_row rfl _ _ rfl el_int rfl hr1 (T.alloc _ |>.perm (l2 := l1 ++ ((wr.heap.size, .cells #[.int .i64 M] 3) :: (l ++ R))) (perm_of fun c => by simp; omega)).has rfl (news := [.int .i64 M]) rfl (news_of (heap_alloc_new _ _)) (by simp [Value.oneCell']) h63 hby ?_; intro a2 p2 l2 w2 hr2 T2 hno)
      go_roundw
      case rel => exact ⟨k + 1, a2, p2, l2, by omega, by go_num, by rw [HM.out], rfl, by rw [Hto.out, i64s_snoc]; exact hr2, ((T.alloc _ |>.perm (l2 := l1 ++ ((wr.heap.size, .cells #[.int .i64 M] 3) :: (l ++ R))) (perm_of fun c => by simp; omega)).trans T2).perm (l2 := [(wr.heap.size, .cells #[.int .i64 M] 3)] ++ (l2 ++ (l ++ R))) (perm_of fun c => by simp; omega) |>.drop⟩
      case measure => simp [intOf]; omega
    · have hk' : k = J.length := by omega
      subst hk'
      clear hT hH1
      have hge : ¬ ((J.length : Int) + 1 < (n : Int)) := by omega
      rw [List.take_of_length_le (Nat.le_refl _)] at hr1
      go_wp2
      go_ret
      exact ⟨_, _, _, rfl, hr1, T⟩
end
end Go.Proofs.Ytinpkimflcmkgaa
