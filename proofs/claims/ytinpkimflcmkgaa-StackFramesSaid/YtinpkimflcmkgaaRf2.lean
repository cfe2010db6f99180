/-
  The reference's stack of layer 14: contracts of New, Words, Push, Pop, Enter, Leave, Get, Set, Frames.
  Conditions: none beyond what each contract states.
-/
import Derived.Test.YtinpkimflcmkgaaRf1
import Derived.Deep.RegionLaw
namespace Go.Proofs.Ytinpkimflcmkgaa
open Go Go.RowKit

section
variable {b : Nat} {I : List Inn} {max : Nat} {l R : List Blk}

theorem flat_take_le (I : List Inn) (k : Nat) : (flat (I.take k)).length ≤ (flat I).length := by
  have : flat I = flat (I.take k) ++ flat (I.drop k) := by rw [← flat_append, List.take_append_drop]
  rw [this, List.length_append]
  omega
theorem flat_take_succ {I : List Inn} {k : Nat} {i : Inn} (h : I[k]? = some i) : flat (I.take (k + 1)) = flat (I.take k) ++ i.xs := by
  rw [take_succ_of h, flat_snoc]
theorem u64s_append (a b : List Int) : u64s (a ++ b) = u64s a ++ u64s b := by simp [u64s]

set_option maxRecDepth 100000 in
theorem rWords_any (w : World) (hS : RefIs b I max l) (hH : Has w (l ++ R)) :
    Calls Try.prog 49 #[.pointer (some ⟨b, 0, none⟩)] w fun e w' => ∃ ao cap l', e = .returned (.slice ao (flat I).length cap) ∧ Row 31 1 ao (flat I).length cap (u64s (flat I)) l' ∧ Turn (l ++ R) w (l' ++ (l ++ R)) w' := by
  obtain ⟨hok, hi, ao, cap, lO, rfl, hr⟩ := hS
  have hd := hok.deep
  have hm := hok.max
  have hln := hok.len
  go_enter Try.func49, Try.ntmps49
  go_wp2_with fail
  go_loopw [3, 4] (fun v i wr => ∃ (k : Nat) (a1 : Option Addr) (n1 p1 : Nat) (l1 : List Blk), k ≤ I.length ∧ i = .int .i64 k ∧ v = .slice a1 n1 p1 ∧ n1 = (flat (I.take k)).length ∧ Row 31 1 a1 n1 p1 (u64s (flat (I.take k))) l1 ∧
      Turn ((b, .cells #[.slice ao I.length cap, .int .i64 max] 125) :: (lO ++ inb I) ++ R) w (l1 ++ ((b, .cells #[.slice ao I.length cap, .int .i64 max] 125) :: (lO ++ inb I) ++ R)) wr) (fun _ i _ => I.length - (intOf i).toNat)
  case atStart => exact ⟨0, none, 0, 0, [], Nat.zero_le _, rfl, rfl, rfl, Row.nil _ _, Turn.refl hH⟩
  case round =>
    obtain ⟨k, a1, n1, p1, l1, hk, rfl, rfl, hn1, hr1, T⟩ := hrel
    have hH1 := T.has.perm (l' := (b, .cells #[.slice ao I.length cap, .int .i64 max] 125) :: (lO ++ inb I) ++ (R ++ l1)) (perm_of fun c => by simp; omega)
    obtain ⟨c0, c1, f0, hlt0⟩ := head2_of hH1
    have hle := flat_take_le I k
    have hn2 : n1 ≤ 4096 := by omega
    have Hn1 := Lib.hid hn1
    clear hn1
    by_cases hlt : k < I.length
    · have hlt' : (k : Int) < (I.length : Int) := by omega
      obtain ⟨i, hix⟩ : ∃ i, I[k]? = some i := ⟨I[k]'hlt, List.getElem?_eq_getElem _⟩
      have him : i ∈ I := List.mem_of_getElem? hix
      obtain ⟨g, rfl, hc⟩ := frame_cell hr hH1 k i hix
      have hsrc := inner_src (hi i him) him (hH1.perm (l' := inb I ++ ((b, .cells #[.slice (some ⟨g, 0, none⟩) I.length cap, .int .i64 max] 125) :: (lO ++ R ++ l1))) (perm_of fun c => by simp; omega)).left
      have hsum : n1 + i.xs.length ≤ 4096 := by
        have h1 := flat_take_le I (k + 1)
        rw [flat_take_succ hix, List.length_append, ← Hn1.out] at h1
        omega
      have h63 : n1 + i.xs.length ≤ maxLen := by unfold maxLen; omega
      have hby : (n1 + i.xs.length) * 8 ≤ 140737488355328 := by omega
      have Hix := Lib.hid hix
      clear hix
      go_wp2_with (at_builtin; refine wpList_append_src rfl _ _ rfl el_u64 rfl rfl hr1 T.has hsrc (oneCell_u64s i.xs) h63 hby ?_; intro a2 p2 l2 w2 hr2 ht2)
      go_roundw
      case rel => exact ⟨k + 1, a2, _, p2, l2, by omega, by go_num, rfl, by rw [flat_take_succ Hix.out, List.length_append, ← Hn1.out], by rw [flat_take_succ Hix.out, u64s_append]; exact hr2, T.trans ht2⟩
      case measure => simp [intOf]; omega
    · have hk' : I.take k = I := List.take_of_length_le (by omega)
      have Hk' := Lib.hid hk'
      clear hk'
      go_wp2
      go_ret
      have h1 := Hn1.out
      rw [Hk'.out] at h1 hr1
      subst h1
      exact ⟨_, _, _, rfl, hr1, T⟩

theorem RefOk.last (h : RefOk I max) : ∃ J i, I = J ++ [i] ∧ I[I.length - 1]? = some i := by
  have hs := h.pos
  rcases List.eq_nil_or_concat I with rfl | ⟨J, i, rfl⟩
  · simp at hs
  · exact ⟨J, i, by rw [List.concat_eq_append], by simp⟩
theorem last_at (J : List Inn) (i : Inn) : (J ++ [i])[(J ++ [i]).length - 1]? = some i := by simp

section
variable {J : List Inn} {i : Inn}

/-- The words of the top frame can be read. -/
theorem top_src {w : World} (hS : RefIs b (J ++ [i]) max l) (hH : Has w (l ++ R)) : Src w i.ao i.xs.length i.cap 1 (u64s i.xs) := by
  obtain ⟨hok, hi, ao, cap, lO, rfl, hr⟩ := hS
  exact inner_src (hi i (by simp)) (I := J ++ [i]) (by simp) (hH.perm (l' := inb (J ++ [i]) ++ ((b, .cells #[.slice ao (J ++ [i]).length cap, .int .i64 max] 125) :: (lO ++ R))) (perm_of fun c => by simp; omega)).left

theorem RefIs.ok (hS : RefIs b I max l) : RefOk I max := hS.1

set_option maxRecDepth 100000 in
theorem rPush_yes (w : World) (hS : RefIs b (J ++ [i]) max l) (hH : Has w (l ++ R)) (v : Int) (hlt : (flat (J ++ [i])).length < max) :
    Calls Try.prog 70 #[.pointer (some ⟨b, 0, none⟩), .int .u64 v] w fun e w' => e = .returned (.int .i64 0) ∧ ∃ j l', j.xs = i.xs ++ [v] ∧ RefIs b (J ++ [j]) max l' ∧ Turn (l ++ R) w (l' ++ R) w' := by
  have hm := hS.ok.max
  have hW : ∀ W : World, Has W (l ++ R) → ∃ ao n cap, Head2 W b ao n cap max := fun W hW => by
    obtain ⟨_, _, ao, cap, lO, rfl, _⟩ := hS
    exact ⟨ao, _, cap, head2_of hW⟩
  obtain ⟨ao, n, cap, c0, c1, f0, hlt0⟩ := hW w hH
  clear hW
  have hil : i.xs.length ≤ (flat (J ++ [i])).length := by rw [flat_snoc_length]; omega
  have hge : ¬ max ≤ (flat (J ++ [i])).length := by omega
  have hfl : (flat J).length + (i.xs ++ [v]).length ≤ max := by rw [flat_snoc_length] at hlt; rw [List.length_append, List.length_singleton]; omega
  have h63 : 0 + i.xs.length ≤ maxLen := by unfold maxLen; omega
  have hby : (0 + i.xs.length) * 8 ≤ 140737488355328 := by omega
  have h63' : i.xs.length + 1 ≤ maxLen := by unfold maxLen; omega
  have hby' : (i.xs.length + 1) * 8 ≤ 140737488355328 := by omega
  have Hfl := Lib.hid hfl
  clear hfl
  go_enter Try.func70, Try.ntmps70
  go_wp2_with fail
  go_region_held3 (fun w' => w'.cell? ⟨b, 1, none⟩ = some (.int .i64 max))
    (first | go_keep | exact d1)
    (first | (go_at_call 49; refine (rWords_any _ hS hH.drew).mono ?_; rintro e w1 ⟨ao1, cap1, lw, rfl, hr1, T1⟩; have d1 : w1.cell? ⟨b, 1, none⟩ = some (.int .i64 max) := (World.cell?_of_block (T1.keeps hH.drew b hlt0)).trans c1))
  have V1 : Turn (l ++ R) w (l ++ R) w1 := (Turn.refl hH).drew.trans T1.drop
  clear T1 c0 c1 f0 d1
  go_wp2_with fail
  refine (quiet_turn (rTop_any _ hS V1.has i (last_at J i)) V1.has).mono ?_
  rintro e w2 ⟨rfl, T2⟩
  have V2 := V1.trans T2
  clear V1 T2
  go_wp2_with (first | (at_builtin; refine wpList_append_src rfl _ _ rfl el_u64 rfl rfl (Row.nil _ _) (R := l ++ R) V2.has (top_src hS V2.has) (oneCell_u64s i.xs) h63 hby ?_; intro a3 p3 l3 w3 hr3 T3; simp only [Nat.zero_add, List.nil_append] at hr3 T3) | (at_builtin; refine wpList_append_row rfl _ _ rfl el_u64 rfl hr3 (T3.alloc _ |>.perm (l2 := l3 ++ ((w3.heap.size, .cells #[.int .u64 v] 31) :: (l ++ R))) (perm_of fun c => by simp; omega)).has rfl (news := [.int .u64 v]) rfl (news_of (heap_alloc_new _ _)) (by simp [Value.oneCell']) h63' hby' ?_; intro a4 p4 l4 w4 hr4 T4 hno))
  have V4 := (((V2.trans T3).alloc (.cells #[.int .u64 v] 31)).perm (l2 := l3 ++ ((w3.heap.size, .cells #[.int .u64 v] 31) :: (l ++ R))) (perm_of fun c => by simp; omega)).trans T4
  have V5 := V4.perm (l2 := l ++ (l4 ++ ((w3.heap.size, .cells #[.int .u64 v] 31) :: R))) (perm_of fun c => by simp; omega)
  have hsrc : Src w4 a4 (i.xs.length + 1) p4 1 (u64s (i.xs ++ [v])) := by
    rw [u64s_snoc]
    exact hr4.src T4.has
  refine (rPut_any _ hS V5.has hsrc Hfl.out).mono ?_
  rintro e w5 ⟨rfl, j, l', hj, hS', T5, -⟩
  go_wp2
  go_ret
  refine ⟨rfl, j, l', hj, hS', ?_⟩
  exact ((V5.trans T5).perm (l2 := (l4 ++ [(w3.heap.size, .cells #[.int .u64 v] 31)]) ++ (l' ++ R)) (perm_of fun c => by simp; omega)).drop

set_option maxRecDepth 100000 in
theorem rPush_full (w : World) (hS : RefIs b I max l) (hH : Has w (l ++ R)) (v : Int) (hlt : (flat I).length = max) :
    Calls Try.prog 70 #[.pointer (some ⟨b, 0, none⟩), .int .u64 v] w fun e w' => e = .returned (.int .i64 4) ∧ Turn (l ++ R) w (l ++ R) w' := by
  have hm := hS.ok.max
  have hW : ∀ W : World, Has W (l ++ R) → ∃ ao n cap, Head2 W b ao n cap max := fun W hW => by
    obtain ⟨_, _, ao, cap, lO, rfl, _⟩ := hS
    exact ⟨ao, _, cap, head2_of hW⟩
  obtain ⟨ao, n, cap, c0, c1, f0, hlt0⟩ := hW w hH
  clear hW
  have hge : max ≤ (flat I).length := by omega
  clear hlt
  go_enter Try.func70, Try.ntmps70
  go_wp2_with fail
  go_region_held3 (fun w' => w'.cell? ⟨b, 1, none⟩ = some (.int .i64 max))
    (first | go_keep | exact d1)
    (first | (go_at_call 49; refine (rWords_any _ hS hH.drew).mono ?_; rintro e w1 ⟨ao1, cap1, lw, rfl, hr1, T1⟩; have d1 : w1.cell? ⟨b, 1, none⟩ = some (.int .i64 max) := (World.cell?_of_block (T1.keeps hH.drew b hlt0)).trans c1))
  have V1 : Turn (l ++ R) w (l ++ R) w1 := (Turn.refl hH).drew.trans T1.drop
  clear T1 c0 c1 f0 d1
  go_wp2
  go_ret
  exact ⟨rfl, V1⟩

set_option maxRecDepth 100000 in
theorem rPop_bare (w : World) (hS : RefIs b (J ++ [i]) max l) (hH : Has w (l ++ R)) (hx : i.xs = []) :
    Calls Try.prog 71 #[.pointer (some ⟨b, 0, none⟩)] w fun e w' => e = .returned (.tuple #[.int .u64 0, .int .i64 140]) ∧ Turn (l ++ R) w (l ++ R) w' := by
  have hl : i.xs.length = 0 := by rw [hx]; rfl
  clear hx
  go_enter Try.func71, Try.ntmps71
  go_wp2_with fail
  refine (quiet_turn (rTop_any _ hS hH i (last_at J i)) hH).mono ?_
  rintro e w2 ⟨rfl, T2⟩
  rw [hl]
  go_wp2
  go_ret2
  exact ⟨rfl, T2⟩

set_option maxRecDepth 100000 in
theorem rPop_yes (w : World) (hS : RefIs b (J ++ [i]) max l) (hH : Has w (l ++ R)) (ys : List Int) (v : Int) (hx : i.xs = ys ++ [v]) :
    Calls Try.prog 71 #[.pointer (some ⟨b, 0, none⟩)] w fun e w' => e = .returned (.tuple #[.int .u64 v, .int .i64 0]) ∧ ∃ j l', j.xs = ys ∧ RefIs b (J ++ [j]) max l' ∧ Turn (l ++ R) w (l' ++ R) w' := by
  have hm := hS.ok.max
  have hln := hS.ok.len
  rw [flat_snoc_length] at hln
  have hl : i.xs.length = ys.length + 1 := by rw [hx]; simp
  have hfl : (flat J).length + ys.length ≤ max := by omega
  have Hx := Lib.hid hx
  clear hx
  have hcap := (top_src hS hH)
  have hok : i.ok := hS.2.1 i (by simp)
  have hcle : ys.length + 1 ≤ i.cap := by have := hok.2.1; omega
  have hcm : i.cap ≤ maxLen := hok.2.2.1
  unfold maxLen at hcm
  have he : IntKind.i64.wrap (((ys.length + 1 : Nat) : Int) - 1) = (ys.length : Int) := by rw [IntWalk.i64_in _ (by omega)]; omega
  have he' : IntKind.i64.wrap ((ys.length : Int) + 1 - 1) = (ys.length : Int) := by rw [IntWalk.i64_in _ (by omega)]; omega
  obtain ⟨g, hg, -⟩ : ∃ g : Nat, i.ao = some ⟨g, 0, none⟩ ∧ True := by
    obtain ⟨g, cur, h1, -⟩ := hok.some_of (by omega)
    exact ⟨g, h1, trivial⟩
  have Hl := Lib.hid hl
  have Hg := Lib.hid hg
  clear hl hg
  go_enter Try.func71, Try.ntmps71
  go_wp2_with fail
  refine (quiet_turn (rTop_any _ hS hH i (last_at J i)) hH).mono ?_
  rintro e w2 ⟨rfl, T2⟩
  rw [Hl.out, Hg.out]
  go_wp2_with fail
  have hok' : Row 31 1 (some ⟨g, 0, none⟩) (ys.length + 1) i.cap (u64s i.xs) i.bl := by
    have h := hok
    unfold Inn.ok at h
    rwa [Hg.out, Hl.out] at h
  have htk : (u64s i.xs).take (ys.length * 1) = u64s ys := by rw [Hx.out]; simp [u64s]
  have hHi := inner_has (i := i) (I := J ++ [i]) (w := w2) (by simp) (by
    obtain ⟨_, _, ao, cap, lO, rfl, _⟩ := hS
    exact (T2.has.perm (l' := inb (J ++ [i]) ++ ((b, .cells #[.slice ao (J ++ [i]).length cap, .int .i64 max] 125) :: (lO ++ R))) (perm_of fun c => by simp; omega)).left)
  have hsrc : Src w2 (some ⟨g, 0, none⟩) ys.length i.cap 1 (u64s ys) := by
    have h := hok'.take ys.length i.cap (by omega) (by omega) (Nat.le_refl _)
    rw [htk] at h
    exact h.src hHi
  have hc : w2.cell? ⟨g, ys.length, none⟩ = some (.int .u64 v) := by
    rw [hok'.cell hHi ys.length (by omega), u64s_at i.xs ys.length v (by rw [Hx.out]; simp)]
  have hgb : g ≠ b := by
    obtain ⟨_, _, ao, cap, lO, rfl, _⟩ := hS
    have hgk : g ∈ keys i.bl := by
      rcases hok'.2.2.2 with ⟨h1, _⟩ | ⟨g', cur, h1, h2, _⟩
      · cases h1
      · cases h1
        rw [h2]
        simp
    refine Has.ne (o := .cells #[.slice ao (J ++ [i]).length cap, .int .i64 max] 125) (l := lO ++ inb (J ++ [i]) ++ R) T2.has ?_
    simp [hgk]
  have hgl := World.block_lt_of_cell? w2 _ hc
  refine (rPut_any _ hS T2.has hsrc hfl).mono ?_
  rintro e w5 ⟨rfl, j, l', hj, hS', T5, hk⟩
  have hc5 : w5.cell? ⟨g, ys.length, none⟩ = some (.int .u64 v) := (World.cell?_of_block (hk g hgl hgb)).trans hc
  have V := T2.trans T5
  clear T2 T5 hk hc hsrc hHi
  go_wp2
  go_ret2
  exact ⟨rfl, j, l', hj, hS', V⟩
end
end
end Go.Proofs.Ytinpkimflcmkgaa
