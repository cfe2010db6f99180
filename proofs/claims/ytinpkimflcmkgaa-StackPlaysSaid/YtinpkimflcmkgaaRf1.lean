/-
  The reference's stack of layer 14 (a row of frames) as it lies in memory; contracts of New, top, put, Words, Depth.
  Conditions: none beyond what each contract states.
-/
import Derived.Test.YtinpkimflcmkgaaSt7
import Derived.Test.YtinpkimflcmkgaaKit2
namespace Go.Proofs.Ytinpkimflcmkgaa
open Go Go.RowKit

/-- A frame's words: where they lie. -/
structure Inn where
  ao : Option Addr
  cap : Nat
  xs : List Int
  bl : List Blk
def Inn.val (i : Inn) : Value := .slice i.ao i.xs.length i.cap
def Inn.ok (i : Inn) : Prop := Row 31 1 i.ao i.xs.length i.cap (u64s i.xs) i.bl
def inb (I : List Inn) : List Blk := I.flatMap Inn.bl
def vals (I : List Inn) : List Value := I.map Inn.val
/-- All words. -/
def flat (I : List Inn) : List Int := I.flatMap Inn.xs
@[simp] theorem inb_nil : inb [] = [] := rfl
@[simp] theorem inb_cons (i : Inn) (I : List Inn) : inb (i :: I) = i.bl ++ inb I := rfl
@[simp] theorem inb_append (I J : List Inn) : inb (I ++ J) = inb I ++ inb J := by simp [inb]
theorem flat_nil : flat [] = [] := rfl
theorem flat_cons (i : Inn) (I : List Inn) : flat (i :: I) = i.xs ++ flat I := rfl
theorem flat_append (I J : List Inn) : flat (I ++ J) = flat I ++ flat J := by simp [flat]
theorem flat_snoc (I : List Inn) (i : Inn) : flat (I ++ [i]) = flat I ++ i.xs := by simp [flat]
theorem flat_snoc_length (I : List Inn) (i : Inn) : (flat (I ++ [i])).length = (flat I).length + i.xs.length := by rw [flat_snoc, List.length_append]
@[simp] theorem vals_length (I : List Inn) : (vals I).length = I.length := by simp [vals]

structure RefOk (I : List Inn) (max : Nat) : Prop where
  pos : 0 < I.length
  deep : I.length ≤ 257
  len : (flat I).length ≤ max
  max : max ≤ 4096

def RefIs (b : Nat) (I : List Inn) (max : Nat) (l : List Blk) : Prop :=
  RefOk I max ∧ (∀ i ∈ I, i.ok) ∧ ∃ ao cap lO, l = (b, .cells #[.slice ao I.length cap, .int .i64 max] 125) :: (lO ++ inb I) ∧ Row 30 1 ao I.length cap (vals I) lO

theorem el_rows : Elem Try.prog 123 30 1 24 (.slice none 0 0) := Elem.of Try.underlying123 (by kernel_rfl) rfl

theorem RefIs.mk' {b : Nat} {I : List Inn} {max n cap : Nat} {ao : Option Addr} {lO : List Blk} (hok : RefOk I max) (hi : ∀ i ∈ I, i.ok) (hn : n = I.length) (hr : Row 30 1 ao n cap (vals I) lO) :
    RefIs b I max ((b, .cells #[.slice ao n cap, .int .i64 max] 125) :: (lO ++ inb I)) := by
  subst hn
  exact ⟨hok, hi, ao, cap, lO, rfl, hr⟩

structure Head2 (w : World) (b : Nat) (ao : Option Addr) (n cap max : Nat) : Prop where
  c0 : w.cell? ⟨b, 0, none⟩ = some (.slice ao n cap)
  c1 : w.cell? ⟨b, 1, none⟩ = some (.int .i64 max)
  f0 : w.frozen? ⟨b, 0, none⟩ = false
  lt : b < w.heap.size
theorem head2_of {w : World} {b : Nat} {ao : Option Addr} {n cap max : Nat} {l : List Blk} {T : Nat} (h : Has w ((b, .cells #[.slice ao n cap, .int .i64 max] T) :: l)) : Head2 w b ao n cap max := by
  have hm : (b, Obj.cells #[.slice ao n cap, .int .i64 max] T (0, 0)) ∈ (b, Obj.cells #[.slice ao n cap, .int .i64 max] T (0, 0)) :: l := List.mem_cons_self ..
  exact ⟨h.cell hm 0, h.cell hm 1, h.free hm 0, h.lt (by simp)⟩

theorem inner_has {w : World} {I : List Inn} {i : Inn} (hi : i ∈ I) (h : Has w (inb I)) : Has w (i.bl ++ []) := by
  obtain ⟨s, t, rfl⟩ := List.append_of_mem hi
  rw [List.append_nil]
  refine h.sub ?_
  rw [inb_append, inb_cons]
  exact (List.sublist_append_left _ _).trans (List.sublist_append_right _ _)
theorem inner_src {w : World} {I : List Inn} {i : Inn} (hok : i.ok) (hi : i ∈ I) (h : Has w (inb I)) : Src w i.ao i.xs.length i.cap 1 (u64s i.xs) := hok.src (inner_has hi h)

/-- The cell of a frame. -/
theorem frame_cell {w : World} {b : Nat} {I : List Inn} {ao : Option Addr} {cap : Nat} {lO R : List Blk} {hd : Obj} (hr : Row 30 1 ao I.length cap (vals I) lO) (hH : Has w ((b, hd) :: (lO ++ inb I) ++ R)) (k : Nat) (i : Inn) (hk : I[k]? = some i) :
    ∃ g, ao = some ⟨g, 0, none⟩ ∧ w.cell? ⟨g, k, none⟩ = some (.slice i.ao i.xs.length i.cap) := by
  have hlt : k < I.length := (List.getElem?_eq_some_iff.1 hk).1
  obtain ⟨g, cur, rfl, rfl, -, -⟩ := hr.some_of (by omega)
  have hH' := hH.perm (l' := [(g, Obj.cells cur 30 (0, 0))] ++ ((b, hd) :: (inb I ++ R))) (perm_of fun c => by simp; omega)
  refine ⟨g, rfl, ?_⟩
  rw [hr.cell hH' k (by omega), vals, List.getElem?_map, hk]
  rfl

section
variable {b : Nat} {I : List Inn} {max : Nat} {l R : List Blk}

set_option maxRecDepth 100000 in
theorem rDepth_any (w : World) (hS : RefIs b I max l) (hH : Has w (l ++ R)) :
    Calls Try.prog 80 #[.pointer (some ⟨b, 0, none⟩)] w fun e w' => e = .returned (.int .i64 (I.length - 1 : Nat)) ∧ w = w' := by
  obtain ⟨hok, hi, ao, cap, lO, rfl, hr⟩ := hS
  obtain ⟨c0, c1, f0, hlt⟩ := head2_of hH
  have hd := hok.deep
  have hs := hok.pos
  have he : IntKind.i64.wrap ((I.length : Int) - 1) = ((I.length - 1 : Nat) : Int) := by rw [IntWalk.i64_in _ (by omega)]; omega
  go_enter Try.func80, Try.ntmps80
  go_wp2
  go_ret
  exact ⟨rfl, rfl⟩

set_option maxRecDepth 100000 in
theorem rTop_any (w : World) (hS : RefIs b I max l) (hH : Has w (l ++ R)) (i : Inn) (hi' : I[I.length - 1]? = some i) :
    Calls Try.prog 89 #[.pointer (some ⟨b, 0, none⟩)] w fun e w' => e = .returned (.slice i.ao i.xs.length i.cap) ∧ ∃ n, w' = w.drewN n := by
  obtain ⟨hok, hi, ao, cap, lO, rfl, hr⟩ := hS
  obtain ⟨c0, c1, f0, hlt⟩ := head2_of hH
  have hd := hok.deep
  have hs := hok.pos
  obtain ⟨g, rfl, hc⟩ := frame_cell hr hH _ i hi'
  have he : IntKind.i64.wrap ((I.length : Int) - 1) = (I.length : Int) - 1 := IntWalk.i64_in _ (by omega)
  have hi0 : 0 ≤ (I.length : Int) - 1 := by omega
  have hi2 : ((I.length : Int) - 1).toNat = I.length - 1 := by omega
  clear hi'
  go_enter Try.func89, Try.ntmps89
  go_wp2
  go_quiet (fail)
  go_wp2
  go_ret
  exact ⟨rfl, _, rfl⟩

/-- A row of so many frames, the last one another. -/
theorem vals_set (J : List Inn) (i j : Inn) : (vals (J ++ [i])).set J.length j.val = vals (J ++ [j]) := by
  simp [vals]

set_option maxRecDepth 100000 in
theorem rPut_any (w : World) {J : List Inn} {i : Inn} (hS : RefIs b (J ++ [i]) max l) (hH : Has w (l ++ R)) {ar : Option Addr} {m c : Nat} {ys : List Int} (hsrc : Src w ar m c 1 (u64s ys))
    (hfl : (flat J).length + ys.length ≤ max) :
    Calls Try.prog 88 #[.pointer (some ⟨b, 0, none⟩), .slice ar m c] w fun e w' => e = .returned (.tuple #[]) ∧ ∃ j l', j.xs = ys ∧ RefIs b (J ++ [j]) max l' ∧ Turn (l ++ R) w (l' ++ R) w' ∧ ∀ k, k < w.heap.size → k ≠ b → w'.heap[k]? = w.heap[k]? := by
  obtain ⟨hok, hi, ao, cap, lO, rfl, hr⟩ := hS
  obtain ⟨c0, c1, f0, hlt⟩ := head2_of hH
  have hd := hok.deep
  have hm := hok.max
  have hys : ys.length = m := by simpa using hsrc.len
  have hJ : (J ++ [i]).length = J.length + 1 := by simp
  have h63 : 0 + (J ++ [i]).length ≤ maxLen := by unfold maxLen; omega
  have h63' : 0 + m ≤ maxLen := by unfold maxLen; omega
  have hby : (0 + (J ++ [i]).length) * 24 ≤ 140737488355328 := by omega
  have hby' : (0 + m) * 8 ≤ 140737488355328 := by omega
  have hs1 := hr.src (R := (b, .cells #[.slice ao (J ++ [i]).length cap, .int .i64 max] 125) :: (inb (J ++ [i]) ++ R)) (hH.perm (perm_of fun c => by simp; omega))
  have hone := oneCell_slices Inn.val (fun _ => rfl) (J ++ [i])
  generalize hn : (J ++ [i]).length = n at *
  have he : IntKind.i64.wrap (((0 + n : Nat) : Int) - 1) = (J.length : Int) := by rw [IntWalk.i64_in _ (by omega)]; omega
  have he' : IntKind.i64.wrap ((n : Int) - 1) = (J.length : Int) := by rw [IntWalk.i64_in _ (by omega)]; omega
  have hlt1 : (J.length : Int) < (n : Int) := by omega
  have Hn := Lib.hid hn
  have Hys := Lib.hid hys
  have HJ := Lib.hid hJ
  clear hn hys hJ
  go_enter Try.func88, Try.ntmps88
  go_wp2_with (first | (at_builtin; refine wpList_append_src rfl _ _ rfl el_rows rfl rfl (Row.nil _ _) (R := (b, .cells #[.slice ao n cap, .int .i64 max] 125) :: (lO ++ inb (J ++ [i])) ++ R) hH hs1 hone h63 hby ?_; intro a1 p1 l1 w1 hr1 ht1; simp only [Nat.zero_add, List.nil_append] at hr1 ht1; obtain ⟨g1, cur1, rfl, rfl, -, -⟩ := hr1.some_of (by omega)) | (at_builtin; refine wpList_append_src rfl _ _ rfl el_u64 rfl rfl (Row.nil _ _) (R := [(g1, .cells cur1 30)] ++ ((b, .cells #[.slice ao n cap, .int .i64 max] 125) :: (lO ++ inb (J ++ [i])) ++ R)) ht1.has (hsrc.turn ht1 hH) (oneCell_u64s ys) h63' hby' ?_; intro a2 p2 l2 w2 hr2 ht2; simp only [Nat.zero_add, List.nil_append] at hr2 ht2; have hH2 := ht2.has.perm (l' := [(g1, .cells cur1 30)] ++ (l2 ++ ((b, .cells #[.slice ao n cap, .int .i64 max] 125) :: (lO ++ inb (J ++ [i])) ++ R))) (perm_of fun c => by simp; omega); have hcx := (hr1.cell hH2 J.length (by omega)).trans (show (vals (J ++ [i]))[J.length]? = some i.val by simp [vals]); have hfx := hr1.free hH2 J.length; have hH3 := hH2.perm (l' := (b, .cells #[.slice ao n cap, .int .i64 max] 125) :: ((g1, .cells cur1 30) :: (l2 ++ (lO ++ inb (J ++ [i])) ++ R))) (perm_of fun c => by simp; omega); have hgb := hH3.ne (g := g1) (by simp); obtain ⟨d0, d1, e0, dlt⟩ := head2_of hH3))
  go_end0
  have hni : (flat (J ++ [Inn.mk a2 p2 ys l2])).length ≤ max := by rw [flat_snoc_length]; exact hfl
  refine ⟨rfl, ⟨a2, p2, ys, l2⟩, _, rfl, RefIs.mk' (n := n) ⟨by simp, by have := Hn.out; simp at this ⊢; omega, hni, hm⟩ ?_ (by have := Hn.out; simp at this ⊢; omega) (by have h := hr1.set J.length (Inn.val ⟨a2, p2, ys, l2⟩); rw [vals_set] at h; exact h), ?_, ?_⟩
  · intro x hx
    rcases List.mem_append.1 hx with h1 | h1
    · exact hi x (by simp [h1])
    · obtain rfl : x = ⟨a2, p2, ys, l2⟩ := by simpa using h1
      have := Hys.out
      subst this
      exact hr2
  · have T2 := (ht1.trans ht2).perm (l2 := (g1, .cells cur1 30) :: ((b, .cells #[.slice ao n cap, .int .i64 max] 125) :: (l2 ++ (lO ++ inb (J ++ [i])) ++ R))) (perm_of fun c => by simp; omega)
    have T3 := (T2.setCell J.length (.slice a2 m p2)).perm (l2 := (b, .cells #[.slice ao n cap, .int .i64 max] 125) :: ((g1, .cells (cur1.setIfInBounds J.length (.slice a2 m p2)) 30) :: (l2 ++ (lO ++ inb (J ++ [i])) ++ R))) (perm_of fun c => by simp; omega)
    have T4 := (T3.setCell 0 (.slice (some ⟨g1, 0, none⟩) n p1)).perm (l2 := (lO ++ i.bl) ++ ((b, .cells #[.slice (some ⟨g1, 0, none⟩) n p1, .int .i64 max] 125) :: ((g1, .cells (cur1.setIfInBounds J.length (.slice a2 m p2)) 30) :: (inb J ++ l2 ++ R)))) (perm_of fun c => by simp; omega)
    have hm' : Inn.val ⟨a2, p2, ys, l2⟩ = .slice a2 m p2 := by simp [Inn.val, Hys.out]
    rw [hm']
    exact T4.drop.perm (perm_of fun c => by simp [wt_append]; try omega)
  · intro k hk hkb
    have hg1 : w.heap.size ≤ g1 := by
      rcases ht1.new g1 (by simp) with h1 | h1
      · have hnd := ht1.has.nd
        rw [keys_append, List.nodup_append] at hnd
        exact absurd rfl (hnd.2.2 g1 (by simp) g1 h1)
      · exact h1
    rw [Below.heap_setCell _ _ _ _ hkb, Below.heap_setCell _ _ _ _ (show k ≠ g1 by omega), ht2.keeps ht1.has k (Nat.lt_of_lt_of_le hk ht1.size), ht1.keeps hH k hk]
end
end Go.Proofs.Ytinpkimflcmkgaa
