/-
  The reference's stack of layer 14: contracts of New, Enter, Leave, Get, Set.
  Conditions: none beyond what each contract states.
-/
import Derived.Test.YtinpkimflcmkgaaRf2
namespace Go.Proofs.Ytinpkimflcmkgaa
open Go Go.RowKit

section
variable {b : Nat} {I J : List Inn} {i : Inn} {max : Nat} {l R : List Blk}

def nilInn : Inn := ⟨none, 0, [], []⟩
theorem nilInn_ok : nilInn.ok := Row.nil _ _

set_option maxRecDepth 100000 in
theorem rNew_any (w : World) (m : Nat) (hm : m ≤ 4096) (hH : Has w R) :
    Calls Try.prog 37 #[.int .i64 m] w fun e w' => ∃ b l', e = .returned (.pointer (some ⟨b, 0, none⟩)) ∧ RefIs b [nilInn] m l' ∧ Turn R w (l' ++ R) w' := by
  have T := ((Turn.refl hH).alloc (.cells #[.slice none 0 0] 30)).alloc (.cells #[.slice (some ⟨w.heap.size, 0, none⟩) 1 1, .int .i64 m] 125)
  go_enter Try.func37, Try.ntmps37
  go_wp2
  go_ret
  refine ⟨_, _, rfl, RefIs.mk' (I := [nilInn]) (n := 1) ⟨by simp, by simp, Nat.zero_le _, hm⟩ (by intro x hx; obtain rfl : x = nilInn := (by simpa using hx); exact nilInn_ok) rfl (Row.lit w.heap.size #[.slice none 0 0] 1 rfl (by unfold maxLen; omega)), ?_⟩
  rw [World.size_alloc] at T
  exact T

set_option maxRecDepth 100000 in
theorem rEnter_full (w : World) (hS : RefIs b I max l) (hH : Has w (l ++ R)) (hd : I.length = 257) :
    Calls Try.prog 41 #[.pointer (some ⟨b, 0, none⟩)] w fun e w' => e = .returned (.int .i64 4) ∧ w = w' := by
  obtain ⟨hok, hi, ao, cap, lO, rfl, hr⟩ := hS
  obtain ⟨c0, c1, f0, hlt⟩ := head2_of hH
  rw [hd] at c0
  clear hd hr hH
  go_enter Try.func41, Try.ntmps41
  go_wp2
  go_ret
  exact ⟨rfl, rfl⟩

set_option maxRecDepth 100000 in
theorem rEnter_yes (w : World) (hS : RefIs b I max l) (hH : Has w (l ++ R)) (hd : I.length ≤ 256) :
    Calls Try.prog 41 #[.pointer (some ⟨b, 0, none⟩)] w fun e w' => e = .returned (.int .i64 0) ∧ ∃ l', RefIs b (I ++ [nilInn]) max l' ∧ Turn (l ++ R) w (l' ++ R) w' := by
  obtain ⟨hok, hi, ao, cap, lO, rfl, hr⟩ := hS
  obtain ⟨c0, c1, f0, hlt⟩ := head2_of hH
  have hp := hok.pos
  have hln := hok.len
  have hm := hok.max
  have hs1 := hr.src (R := (b, .cells #[.slice ao I.length cap, .int .i64 max] 125) :: (inb I ++ R)) (hH.perm (perm_of fun c => by simp; omega))
  have hone := oneCell_slices Inn.val (fun _ => rfl) I
  have h63 : 0 + I.length ≤ maxLen := by unfold maxLen; omega
  have hby : (0 + I.length) * 24 ≤ 140737488355328 := by omega
  have h63' : I.length + 1 ≤ maxLen := by unfold maxLen; omega
  have hby' : (I.length + 1) * 24 ≤ 140737488355328 := by omega
  have hw1 : IntKind.i64.wrap ((I.length : Int) - 1) = (I.length : Int) - 1 := IntWalk.i64_in _ (by omega)
  have hno : ¬ (256 : Int) ≤ (I.length : Int) - 1 := by omega
  have hno' : decide ((256 : Int) ≤ (I.length : Int) - 1) = false := by simpa using hno
  generalize hn : I.length = n at *
  have Hn := Lib.hid hn
  clear hn
  go_enter Try.func41, Try.ntmps41
  go_wp2_with (first | (at_builtin; refine wpList_append_src rfl _ _ rfl el_rows rfl rfl (Row.nil _ _) (R := (b, .cells #[.slice ao n cap, .int .i64 max] 125) :: (lO ++ inb I) ++ R) hH hs1 hone h63 hby ?_; intro a1 p1 l1 w1 hr1 ht1; simp only [Nat.zero_add, List.nil_append] at hr1 ht1) | (at_builtin; refine wpList_append_row rfl _ _ rfl el_rows rfl hr1 (ht1.alloc _ |>.perm (l2 := l1 ++ ((w1.heap.size, .cells #[.slice none 0 0] 30) :: ((b, .cells #[.slice ao n cap, .int .i64 max] 125) :: (lO ++ inb I) ++ R))) (perm_of fun c => by simp; omega)).has rfl (news := [.slice none 0 0]) rfl (news_of (heap_alloc_new _ _)) (by simp [Value.oneCell']) h63' hby' ?_; intro a2 p2 l2 w2 hr2 ht2 hnn; obtain ⟨d0, d1, e0, dlt⟩ := head2_of (ht2.has.perm (l' := (b, .cells #[.slice ao n cap, .int .i64 max] 125) :: ((w1.heap.size, .cells #[.slice none 0 0] 30) :: (l2 ++ (lO ++ inb I) ++ R))) (perm_of fun c => by simp; omega))))
  go_ret
  have hr2' : Row 30 1 a2 (n + 1) p2 (vals (I ++ [nilInn])) l2 := by simpa [vals, nilInn, Inn.val] using hr2
  refine ⟨rfl, _, RefIs.mk' (I := I ++ [nilInn]) (n := n + 1) ⟨by simp, by have := Hn.out; simp; omega, by rw [flat_snoc_length]; exact hln, hm⟩ ?_ (by have := Hn.out; simp; omega) hr2', ?_⟩
  · intro x hx
    rcases List.mem_append.1 hx with h1 | h1
    · exact hi x h1
    · obtain rfl : x = nilInn := by simpa using h1
      exact nilInn_ok
  · have T2 := (((ht1.alloc (.cells #[.slice none 0 0] 30)).perm (l2 := l1 ++ ((w1.heap.size, .cells #[.slice none 0 0] 30) :: ((b, .cells #[.slice ao n cap, .int .i64 max] 125) :: (lO ++ inb I) ++ R))) (perm_of fun c => by simp; omega)).trans ht2).perm (l2 := (b, .cells #[.slice ao n cap, .int .i64 max] 125) :: ((w1.heap.size, .cells #[.slice none 0 0] 30) :: (l2 ++ (lO ++ inb I) ++ R))) (perm_of fun c => by simp; omega)
    have T3 := (T2.setCell 0 (.slice a2 (n + 1) p2)).perm (l2 := ((w1.heap.size, .cells #[.slice none 0 0] 30) :: lO) ++ ((b, .cells #[.slice a2 (n + 1) p2, .int .i64 max] 125) :: (l2 ++ inb I) ++ R)) (perm_of fun c => by simp; omega)
    have T4 := T3.drop
    exact (T4.perm (perm_of fun c => by simp [nilInn] <;> omega)).pre (perm_of fun c => by simp <;> omega)

set_option maxRecDepth 100000 in
theorem rLeave_none (w : World) (hS : RefIs b [i] max l) (hH : Has w (l ++ R)) :
    Calls Try.prog 72 #[.pointer (some ⟨b, 0, none⟩)] w fun e w' => e = .returned (.tuple #[.int .i64 0, .int .i64 141]) ∧ w = w' := by
  obtain ⟨hok, hi, ao, cap, lO, rfl, hr⟩ := hS
  obtain ⟨c0, c1, f0, hlt⟩ := head2_of hH
  have c0' : w.cell? ⟨b, 0, none⟩ = some (.slice ao 1 cap) := c0
  clear c0 hr hH
  go_enter Try.func72, Try.ntmps72
  go_wp2
  go_ret2
  exact ⟨rfl, rfl⟩

set_option maxRecDepth 100000 in
theorem rLeave_yes (w : World) (hS : RefIs b (J ++ [i]) max l) (hH : Has w (l ++ R)) (hJ : 0 < J.length) :
    Calls Try.prog 72 #[.pointer (some ⟨b, 0, none⟩)] w fun e w' => e = .returned (.tuple #[.int .i64 i.xs.length, .int .i64 0]) ∧ ∃ l', RefIs b J max l' ∧ Turn (l ++ R) w (l' ++ R) w' := by
  have hS0 := hS
  obtain ⟨hok, hi, ao, cap, lO, rfl, hr⟩ := hS
  have hd := hok.deep
  have hln := hok.len
  have hm := hok.max
  obtain ⟨g, cur, rfl, rfl, -, -⟩ := hr.some_of hok.pos
  have hcap := hr.2.1
  have hcm := hr.2.2.1
  unfold maxLen at hcm
  have hJl : (J ++ [i]).length = J.length + 1 := by simp
  have htop := last_at J i
  have hr' := hr.take J.length cap (by omega) (by omega) (Nat.le_refl _)
  rw [show (vals (J ++ [i])).take (J.length * 1) = vals J by simp [vals]] at hr'
  generalize hn : (J ++ [i]).length = n at *
  have hne : ((n : Int) == 1) = false := by rw [beq_eq_false_iff_ne]; omega
  have he : IntKind.i64.wrap ((n : Int) - 1) = (J.length : Int) := by rw [IntWalk.i64_in _ (by omega)]; omega
  have Hn := Lib.hid hn
  have HJl := Lib.hid hJl
  have hle : J.length ≤ cap := by omega
  have hle' : (J.length : Int) ≤ (cap : Int) := by omega
  have hle0 : (0 : Int) ≤ (J.length : Int) := by omega
  have hc0 : ∀ W : World, Has W ((b, .cells #[.slice (some ⟨g, 0, none⟩) n cap, .int .i64 max] 125) :: ([(g, .cells cur 30)] ++ inb (J ++ [i])) ++ R) → Head2 W b (some ⟨g, 0, none⟩) n cap max := fun W hW => head2_of hW
  obtain ⟨c0, c1, f0, hlt⟩ := hc0 w hH
  have Hc0 := Lib.hid hc0
  clear hn hJl hc0
  have ht : ∀ W : World, Has W ((b, .cells #[.slice (some ⟨g, 0, none⟩) n cap, .int .i64 max] 125) :: ([(g, .cells cur 30)] ++ inb (J ++ [i])) ++ R) →
      Calls Try.prog 89 #[.pointer (some ⟨b, 0, none⟩)] W fun e w' => e = .returned (.slice i.ao i.xs.length i.cap) ∧ ∃ n, w' = W.drewN n := fun W hW => rTop_any W hS0 hW i (by rw [Hn.out]; exact htop)
  have Ht := Lib.hid ht
  clear ht htop
  go_enter Try.func72, Try.ntmps72
  go_wp2_with fail
  refine (quiet_turn (Ht.out _ hH) hH).mono ?_
  rintro e w2 ⟨rfl, T2⟩
  clear c0 c1 f0 hlt
  obtain ⟨c0, c1, f0, hlt⟩ := Hc0.out w2 T2.has
  go_wp2
  go_region
  all_goals go_wp2
  all_goals
    go_ret2
    refine ⟨rfl, _, RefIs.mk' (I := J) (n := J.length) ⟨hJ, by have := HJl.out; omega, by rw [flat_snoc_length] at hln; omega, hm⟩ (fun x hx => hi x (by simp [hx])) rfl hr', ?_⟩
    have T3 := (T2.drew.setCell 0 (.slice (some ⟨g, 0, none⟩) J.length cap)).perm (l2 := i.bl ++ ((b, .cells #[.slice (some ⟨g, 0, none⟩) J.length cap, .int .i64 max] 125) :: ([(g, .cells cur 30)] ++ inb J) ++ R)) (perm_of fun c => by simp; omega)
    exact T3.drop

set_option maxRecDepth 100000 in
theorem rGet_yes (w : World) (hS : RefIs b (J ++ [i]) max l) (hH : Has w (l ++ R)) (j k : Nat) (hk : k + 1 + j = i.xs.length) (x : Int) (hx : i.xs[k]? = some x) :
    Calls Try.prog 74 #[.pointer (some ⟨b, 0, none⟩), .int .i64 j] w fun e w' => e = .returned (.tuple #[.int .u64 x, .int .i64 0]) ∧ Turn (l ++ R) w (l ++ R) w' := by
  have hm := hS.ok.max
  have hln := hS.ok.len
  rw [flat_snoc_length] at hln
  obtain ⟨g, off, hg, hc⟩ := (top_src hS hH).form (by simp; omega)
  have hc' : ∀ W : World, Has W (l ++ R) → W.cell? ⟨g, off + k, none⟩ = some (.int .u64 x) := fun W hW => by
    obtain ⟨g', off', hg', hc2⟩ := (top_src hS hW).form (by simp; omega)
    rw [hg] at hg'
    cases hg'
    exact hc2 k _ (u64s_at i.xs k x hx)
  have Hc := Lib.hid hc'
  have Hg := Lib.hid hg
  clear hc hc' hg hx
  generalize hn : i.xs.length = n at *
  have he : IntKind.i64.wrap ((n : Int) - 1) = (n : Int) - 1 := IntWalk.i64_in _ (by omega)
  have he2 : (n : Int) - 1 - (j : Int) = (k : Int) := by omega
  have hlt : k < n := by omega
  have hlt' : (k : Int) < (n : Int) := by omega
  have hjn : ¬ n ≤ j := by omega
  have Hn := Lib.hid hn
  clear hn hk
  go_enter Try.func74, Try.ntmps74
  go_wp2_with fail
  refine (quiet_turn (rTop_any _ hS hH i (last_at J i)) hH).mono ?_
  rintro e w2 ⟨rfl, T2⟩
  rw [Hg.out, Hn.out]
  have hcc := Hc.out w2 T2.has
  go_wp2
  go_ret2
  exact ⟨rfl, T2⟩

set_option maxRecDepth 100000 in
theorem rGet_no (w : World) (hS : RefIs b (J ++ [i]) max l) (hH : Has w (l ++ R)) (j : Int) (hk : j < 0 ∨ (i.xs.length : Int) ≤ j) :
    Calls Try.prog 74 #[.pointer (some ⟨b, 0, none⟩), .int .i64 j] w fun e w' => e = .returned (.tuple #[.int .u64 0, .int .i64 2]) ∧ Turn (l ++ R) w (l ++ R) w' := by
  rcases hk with hk | hk
  all_goals
    by_cases h0 : j < 0
    all_goals first | (exfalso; omega) | skip
    all_goals
      go_enter Try.func74, Try.ntmps74
      go_wp2_with fail
      refine (quiet_turn (rTop_any _ hS hH i (last_at J i)) hH).mono ?_
      rintro e w2 ⟨rfl, T2⟩
      go_wp2
      go_ret2
      exact ⟨rfl, T2⟩

set_option maxRecDepth 100000 in
theorem rSet_no (w : World) (hS : RefIs b (J ++ [i]) max l) (hH : Has w (l ++ R)) (j v : Int) (hk : j < 0 ∨ (i.xs.length : Int) ≤ j) :
    Calls Try.prog 73 #[.pointer (some ⟨b, 0, none⟩), .int .i64 j, .int .u64 v] w fun e w' => e = .returned (.int .i64 2) ∧ Turn (l ++ R) w (l ++ R) w' := by
  have hm := hS.ok.max
  have hln := hS.ok.len
  rw [flat_snoc_length] at hln
  have h63 : 0 + i.xs.length ≤ maxLen := by unfold maxLen; omega
  have hby : (0 + i.xs.length) * 8 ≤ 140737488355328 := by omega
  rcases hk with hk | hk
  all_goals
    by_cases h0 : j < 0
    all_goals first | (exfalso; omega) | skip
    all_goals
      go_enter Try.func73, Try.ntmps73
      go_wp2_with fail
      refine (quiet_turn (rTop_any _ hS hH i (last_at J i)) hH).mono ?_
      rintro e w2 ⟨rfl, T2⟩
      go_wp2_with (at_builtin; refine wpList_append_src rfl _ _ rfl el_u64 rfl rfl (Row.nil _ _) (R := l ++ R) T2.has (top_src hS T2.has) (oneCell_u64s i.xs) h63 hby ?_; intro a3 p3 l3 w3 hr3 T3; simp only [Nat.zero_add, List.nil_append] at hr3 T3)
      go_ret
      exact ⟨rfl, (T2.trans T3).drop⟩

set_option maxRecDepth 100000 in
theorem rSet_yes (w : World) (hS : RefIs b (J ++ [i]) max l) (hH : Has w (l ++ R)) (j k : Nat) (hk : k + 1 + j = i.xs.length) (v : Int) :
    Calls Try.prog 73 #[.pointer (some ⟨b, 0, none⟩), .int .i64 j, .int .u64 v] w fun e w' => e = .returned (.int .i64 0) ∧ ∃ i' l', i'.xs = i.xs.set k v ∧ RefIs b (J ++ [i']) max l' ∧ Turn (l ++ R) w (l' ++ R) w' := by
  have hm := hS.ok.max
  have hln := hS.ok.len
  rw [flat_snoc_length] at hln
  have h63 : 0 + i.xs.length ≤ maxLen := by unfold maxLen; omega
  have hby : (0 + i.xs.length) * 8 ≤ 140737488355328 := by omega
  have hfl : (flat J).length + (i.xs.set k v).length ≤ max := by simpa using hln
  have hone := oneCell_u64s i.xs
  have hsr : ∀ W : World, Has W (l ++ R) → Src W i.ao i.xs.length i.cap 1 (u64s i.xs) := fun W hW => top_src hS hW
  have Hsr := Lib.hid hsr
  have Hfl := Lib.hid hfl
  have hxk : ∃ x, i.xs[k]? = some x := ⟨i.xs[k]'(by omega), List.getElem?_eq_getElem _⟩
  obtain ⟨x, hx⟩ := hxk
  have Hx := Lib.hid hx
  clear hsr hfl hx
  generalize hn : i.xs.length = n at *
  have he : IntKind.i64.wrap ((n : Int) - 1) = (n : Int) - 1 := IntWalk.i64_in _ (by omega)
  have he2 : (n : Int) - 1 - (j : Int) = (k : Int) := by omega
  have hlt : k < n := by omega
  have hlt' : (k : Int) < (n : Int) := by omega
  have hjn : ¬ n ≤ j := by omega
  have Hn := Lib.hid hn
  clear hn hk
  go_enter Try.func73, Try.ntmps73
  go_wp2_with fail
  refine (quiet_turn (rTop_any _ hS hH i (last_at J i)) hH).mono ?_
  rintro e w2 ⟨rfl, T2⟩
  rw [Hn.out]
  go_wp2_with (first | (at_builtin; refine wpList_append_src rfl _ _ rfl el_u64 rfl rfl (Row.nil _ _) (R := l ++ R) T2.has (Hsr.out _ T2.has) hone h63 hby ?_; intro a3 p3 l3 w3 hr3 T3; simp only [Nat.zero_add, List.nil_append] at hr3 T3; obtain ⟨g3, cur3, rfl, rfl, -, -⟩ := hr3.some_of (by omega); have hc3 := (hr3.cell T3.has k (by omega)).trans (u64s_at i.xs k x Hx.out); have hf3 := hr3.free T3.has k) | fail)
  have V3 := T2.trans T3
  have V4 := (V3.setCell k (.int .u64 v)).perm (l2 := l ++ ([(g3, .cells (cur3.setIfInBounds k (.int .u64 v)) 31)] ++ R)) (perm_of fun c => by simp; omega)
  have hr4 := hr3.set k (.int .u64 v)
  rw [← u64s_set] at hr4
  have hs4 := hr4.src (V4.has.perm (l' := [(g3, .cells (cur3.setIfInBounds k (.int .u64 v)) 31)] ++ (l ++ R)) (perm_of fun c => by simp; omega))
  refine (rPut_any _ hS V4.has hs4 Hfl.out).mono ?_
  rintro e w5 ⟨rfl, i', l', hj, hS', T5, -⟩
  have V5 := (V4.trans T5).perm (l2 := [(g3, .cells (cur3.setIfInBounds k (.int .u64 v)) 31)] ++ (l' ++ R)) (perm_of fun c => by simp; omega)
  go_wp2
  go_ret
  exact ⟨rfl, i', l', hj, hS', V5.drop⟩
end
end Go.Proofs.Ytinpkimflcmkgaa
