/-
  The stack of layer 14: contracts of the functions that hand out copies or write.
  Conditions: none beyond what each contract states.
-/
import Derived.Test.YtinpkimflcmkgaaSt2
import Derived.Deep.RegionHeld3
namespace Go.Proofs.Ytinpkimflcmkgaa
open Go Go.RowKit

theorem StackIs.mk' {b : Nat} {ws : List Int} {fs : List Nat} {max n m : Nat} {aw af : Option Addr} {cw cf : Nat} {lw lf : List Blk} (hok : StackOk ws fs max) (hn : n = ws.length) (hm : m = fs.length)
    (hw : Row 31 1 aw n cw (u64s ws) lw) (hf : Row 3 1 af m cf (i64s fs) lf) :
    StackIs b ws fs max ((b, .cells #[.slice aw n cw, .slice af m cf, .int .i64 max] 107) :: (lw ++ lf)) := by
  subst hn; subst hm
  exact ⟨hok, aw, cw, af, cf, lw, lf, rfl, hw, hf⟩

theorem oneCell_u64s (ws : List Int) : ∀ u ∈ u64s ws, u.oneCell' = true := by
  intro u hu
  obtain ⟨x, _, rfl⟩ := List.mem_map.1 hu
  rfl
theorem oneCell_i64s (ws : List Nat) : ∀ u ∈ i64s ws, u.oneCell' = true := by
  intro u hu
  obtain ⟨x, _, rfl⟩ := List.mem_map.1 hu
  rfl
theorem u64s_snoc (ws : List Int) (v : Int) : u64s (ws ++ [v]) = u64s ws ++ [.int .u64 v] := by simp [u64s]
theorem i64s_snoc (ws : List Nat) (v : Nat) : i64s (ws ++ [v]) = i64s ws ++ [.int .i64 v] := by simp [i64s]

section
variable {b : Nat} {ws : List Int} {fs : List Nat} {max : Nat} {l R : List Blk}

set_option maxRecDepth 100000 in
theorem words_any (w : World) (hS : StackIs b ws fs max l) (hH : Has w (l ++ R)) :
    Calls Try.prog 24 #[.pointer (some ⟨b, 0, none⟩)] w fun e w' => ∃ ao cap l', e = .returned (.slice ao ws.length cap) ∧ Row 31 1 ao ws.length cap (u64s ws) l' ∧ Turn (l ++ R) w (l' ++ (l ++ R)) w' := by
  obtain ⟨hok, aw, cw, af, cf, lw, lf, rfl, hw, hf⟩ := hS
  obtain ⟨c0, c1, c2, f0, f1, hlt⟩ := head_of hH
  have hl := hok.len
  have hm := hok.max
  have hsrc := hw.src (R := (b, .cells #[.slice aw ws.length cw, .slice af fs.length cf, .int .i64 max] 107) :: (lf ++ R)) (hH.perm (perm_of fun c => by simp; omega))
  go_enter Try.func24, Try.ntmps24
  go_wp2_with (go_at_call 58; refine (clone_u64 _ hsrc hH (oneCell_u64s ws) (by omega)).mono ?_; rintro e w' ⟨ao', cap', l', rfl, hr, ht, hno⟩)
  go_ret
  exact ⟨ao', cap', l', rfl, hr, ht⟩

set_option maxRecDepth 100000 in
theorem frames_any (w : World) (hS : StackIs b ws fs max l) (hH : Has w (l ++ R)) :
    Calls Try.prog 51 #[.pointer (some ⟨b, 0, none⟩)] w fun e w' => ∃ ao cap l', e = .returned (.slice ao fs.length cap) ∧ Row 3 1 ao fs.length cap (i64s fs) l' ∧ Turn (l ++ R) w (l' ++ (l ++ R)) w' := by
  obtain ⟨hok, aw, cw, af, cf, lw, lf, rfl, hw, hf⟩ := hS
  obtain ⟨c0, c1, c2, f0, f1, hlt⟩ := head_of hH
  have hl := hok.deep
  have hsrc := hf.src (R := (b, .cells #[.slice aw ws.length cw, .slice af fs.length cf, .int .i64 max] 107) :: (lw ++ R)) (hH.perm (perm_of fun c => by simp; omega))
  go_enter Try.func51, Try.ntmps51
  go_wp2_with (go_at_call 79; refine (clone_int _ hsrc hH (oneCell_i64s fs) (by omega)).mono ?_; rintro e w' ⟨ao', cap', l', rfl, hr, ht, hno⟩)
  go_ret
  exact ⟨ao', cap', l', rfl, hr, ht⟩

theorem StackOk.push {v : Int} (h : StackOk ws fs max) (hlt : ws.length < max) : StackOk (ws ++ [v]) fs max := by
  refine ⟨by simp; omega, h.max, h.deep, ?_⟩
  have hp := List.pairwise_append.1 h.up
  refine List.pairwise_append.2 ⟨hp.1, by simp, fun x hx y hy => ?_⟩
  have := hp.2.2 x hx ws.length (by simp)
  simp at hy
  omega

set_option maxRecDepth 100000 in
theorem push_yes (w : World) (hS : StackIs b ws fs max l) (hH : Has w (l ++ R)) (v : Int) (hlt : ws.length < max) :
    Calls Try.prog 22 #[.pointer (some ⟨b, 0, none⟩), .int .u64 v] w fun e w' => e = .returned (.int .i64 0) ∧ ∃ l', StackIs b (ws ++ [v]) fs max l' ∧ Turn (l ++ R) w (l' ++ R) w' := by
  obtain ⟨hok, aw, cw, af, cf, lw, lf, rfl, hw, hf⟩ := hS
  obtain ⟨c0, c1, c2, f0, f1, hlt0⟩ := head_of hH
  have hl := hok.len
  have hm := hok.max
  have T0 : ∀ nq, Turn ((b, .cells #[.slice aw ws.length cw, .slice af fs.length cf, .int .i64 max] 107) :: (lw ++ lf) ++ R) w
      (lw ++ ((w.heap.size, .cells #[.int .u64 v] 31) :: (b, .cells #[.slice aw ws.length cw, .slice af fs.length cf, .int .i64 max] 107) :: (lf ++ R))) ((w.drewN nq).alloc (.cells #[.int .u64 v] 31)) := fun nq =>
    (((Turn.refl hH).drewN nq).alloc _).perm (perm_of fun c => by simp; omega)
  have hmax : ws.length + 1 ≤ maxLen := by unfold maxLen; omega
  go_enter Try.func22, Try.ntmps22
  go_wp2
  go_quiet (fail)
  go_wp2_with (at_builtin; refine wpList_append_row rfl _ _ rfl el_u64 rfl hw (T0 nq).has rfl (news := [.int .u64 v]) rfl (news_of (heap_alloc_new _ _)) (by simp [Value.oneCell']) hmax (by omega) ?_; intro ao' cap' l' w1 hr ht hno; obtain ⟨d0, d1, d2, e0, e1, elt⟩ := head_of (ht.has.perm (l' := (b, .cells #[.slice aw ws.length cw, .slice af fs.length cf, .int .i64 max] 107) :: (l' ++ ((w.heap.size, .cells #[.int .u64 v] 31) :: (lf ++ R)))) (perm_of fun c => by simp; omega)))
  go_ret
  refine ⟨rfl, _, StackIs.mk' (n := ws.length + 1) (hok.push hlt) (by simp) rfl (by rw [u64s_snoc]; exact hr) hf, ?_⟩
  have T1 := ((T0 nq).trans ht).perm (l2 := (b, .cells #[.slice aw ws.length cw, .slice af fs.length cf, .int .i64 max] 107) :: ((w.heap.size, .cells #[.int .u64 v] 31) :: (l' ++ lf ++ R))) (perm_of fun c => by simp; omega)
  exact (T1.setCell 0 (.slice ao' (ws.length + 1) cap')).sub (by simp)

set_option maxRecDepth 100000 in
theorem push_full (w : World) (hS : StackIs b ws fs max l) (hH : Has w (l ++ R)) (v : Int) (hlt : ws.length = max) :
    Calls Try.prog 22 #[.pointer (some ⟨b, 0, none⟩), .int .u64 v] w fun e w' => e = .returned (.int .i64 4) ∧ ∃ n, w' = w.drewN n := by
  obtain ⟨hok, aw, cw, af, cf, lw, lf, rfl, hw, hf⟩ := hS
  obtain ⟨c0, c1, c2, f0, f1, hlt0⟩ := head_of hH
  subst hlt
  go_enter Try.func22, Try.ntmps22
  go_wp2
  go_quiet (fail)
  go_wp2
  go_ret
  exact ⟨rfl, _, rfl⟩
end
end Go.Proofs.Ytinpkimflcmkgaa
