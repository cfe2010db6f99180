/-
  The stack of layer 14: contracts of Enter, Leave and Copy, whose statements leave their order open.
  Conditions: none beyond what each contract states.
-/
import Derived.Test.YtinpkimflcmkgaaSt4
import Derived.Deep.RegionHeld3
import Derived.Deep.RegionLaw
import Derived.Deep.DrawnRows
namespace Go.Proofs.Ytinpkimflcmkgaa
open Go Go.RowKit
attribute [local go_sem ↓] Go.wp_at_zero Go.wp_at_succ

section
variable {b : Nat} {ws : List Int} {fs : List Nat} {max : Nat} {l R : List Blk}

set_option maxRecDepth 100000 in
theorem enter_full (w : World) (hS : StackIs b ws fs max l) (hH : Has w (l ++ R)) (hb : fs.length = 256) :
    Calls Try.prog 40 #[.pointer (some ⟨b, 0, none⟩)] w fun e w' => e = .returned (.int .i64 4) ∧ w = w' := by
  obtain ⟨hok, aw, cw, af, cf, lw, lf, rfl, hw, hf⟩ := hS
  obtain ⟨c0, c1, c2, f0, f1, hlt0⟩ := head_of hH
  have hle : 256 ≤ fs.length := by omega
  clear hb
  go_enter Try.func40, Try.ntmps40
  go_wp2
  go_ret
  exact ⟨rfl, rfl⟩

theorem StackOk.enter (h : StackOk ws fs max) (hd : fs.length < 256) : StackOk ws (fs ++ [ws.length]) max := by
  refine ⟨h.len, h.max, by simp; omega, ?_⟩
  refine List.pairwise_append.2 ⟨h.up, by simp, fun x hx y hy => ?_⟩
  obtain rfl : y = ws.length := by simpa using hy
  rcases List.mem_append.1 hx with h1 | h1
  · exact (List.pairwise_append.1 h.up).2.2 x h1 _ (by simp)
  · simp at h1
    omega

set_option maxRecDepth 100000 in
theorem enter_yes (w : World) (hS : StackIs b ws fs max l) (hH : Has w (l ++ R)) (hb : fs.length < 256) :
    Calls Try.prog 40 #[.pointer (some ⟨b, 0, none⟩)] w fun e w' => e = .returned (.int .i64 0) ∧ ∃ l', StackIs b ws (fs ++ [ws.length]) max l' ∧ Turn (l ++ R) w (l' ++ R) w' := by
  obtain ⟨hok, aw, cw, af, cf, lw, lf, rfl, hw, hf⟩ := hS
  obtain ⟨c0, c1, c2, f0, f1, hlt0⟩ := head_of hH
  have hl := hok.len
  have hm := hok.max
  have T0 : Turn ((b, .cells #[.slice aw ws.length cw, .slice af fs.length cf, .int .i64 max] 107) :: (lw ++ lf) ++ R) w
      (lf ++ ((w.heap.size, .cells #[.int .i64 ws.length] 3) :: (b, .cells #[.slice aw ws.length cw, .slice af fs.length cf, .int .i64 max] 107) :: (lw ++ R))) (w.alloc (.cells #[.int .i64 ws.length] 3)).drew :=
    (((Turn.refl hH)).alloc _).drew.perm (perm_of fun c => by simp; omega)
  have hmax : fs.length + 1 ≤ maxLen := by unfold maxLen; omega
  have hne := World.new_ne w ⟨b, 0, none⟩ c0
  have hne1 := World.new_ne w ⟨b, 1, none⟩ c1
  go_enter Try.func40, Try.ntmps40
  go_wp2
  go_region_law ((refine step_append_row (by rfl) _ _ (by rfl) el_int (by rfl) hf T0.has (by rfl) (news := [.int .i64 ws.length]) (by rfl) (news_of (heap_alloc_new _ _)) (by simp [Value.oneCell']) hmax (by omega) ?_; intro ao' cap' l' w1 hr ht hno; obtain ⟨d0, d1, d2, e0, e1, elt⟩ := head_of (ht.has.perm (l' := (b, .cells #[.slice aw ws.length cw, .slice af fs.length cf, .int .i64 max] 107) :: (l' ++ ((w.heap.size, .cells #[.int .i64 ws.length] 3) :: (lw ++ R)))) (perm_of fun c => by simp; omega))))
  all_goals go_wp2
  all_goals
    go_ret
    refine ⟨rfl, _, StackIs.mk' (m := fs.length + 1) (hok.enter hb) rfl (by simp) hw (by rw [i64s_snoc]; exact hr), ?_⟩
    have T1 := (T0.trans ht).perm (l2 := (b, .cells #[.slice aw ws.length cw, .slice af fs.length cf, .int .i64 max] 107) :: ((w.heap.size, .cells #[.int .i64 ws.length] 3) :: (lw ++ l' ++ R))) (perm_of fun c => by simp; omega)
    exact (T1.setCell 1 (.slice ao' (fs.length + 1) cap')).sub (by simp)

set_option maxRecDepth 100000 in
theorem leave_none (w : World) (hS : StackIs b ws [] max l) (hH : Has w (l ++ R)) :
    Calls Try.prog 42 #[.pointer (some ⟨b, 0, none⟩)] w fun e w' => e = .returned (.tuple #[.int .i64 0, .int .i64 141]) ∧ w = w' := by
  obtain ⟨hok, aw, cw, af, cf, lw, lf, rfl, hw, hf⟩ := hS
  obtain ⟨c0, c1, c2, f0, f1, hlt0⟩ := head_of hH
  go_enter Try.func42, Try.ntmps42
  go_wp2
  go_ret2
  exact ⟨rfl, rfl⟩

theorem u64s_take (ws : List Int) (k : Nat) : u64s (ws.take k) = (u64s ws).take k := by simp [u64s, List.map_take]
theorem i64s_take (ws : List Nat) (k : Nat) : i64s (ws.take k) = (i64s ws).take k := by simp [i64s, List.map_take]

theorem StackOk.leave {fs' : List Nat} {x : Nat} (h : StackOk ws (fs' ++ [x]) max) : x ≤ ws.length ∧ StackOk (ws.take x) fs' max := by
  have hb := h.base
  rw [baseOf_snoc] at hb
  have hl := h.len
  have hd := h.deep
  rw [List.length_append, List.length_singleton] at hd
  refine ⟨hb, ⟨by rw [List.length_take]; omega, h.max, by omega, ?_⟩⟩
  have hp := (List.pairwise_append.1 h.up).1
  rw [List.length_take, Nat.min_eq_left hb]
  exact hp

set_option maxRecDepth 100000 in
theorem leave_yes (w : World) {fs' : List Nat} {x : Nat} (hS : StackIs b ws (fs' ++ [x]) max l) (hH : Has w (l ++ R)) :
    Calls Try.prog 42 #[.pointer (some ⟨b, 0, none⟩)] w fun e w' => e = .returned (.tuple #[.int .i64 (ws.length - x : Nat), .int .i64 0]) ∧ ∃ l', StackIs b (ws.take x) fs' max l' ∧ Turn (l ++ R) w (l' ++ R) w' := by
  have hS' := hS
  obtain ⟨hok, aw, cw, af, cf, lw, lf, rfl, hw, hf⟩ := hS
  obtain ⟨hx, hok'⟩ := hok.leave
  generalize hfs : fs' ++ [x] = fs at *
  have hfl : fs.length = fs'.length + 1 := by rw [← hfs]; simp
  have hbase : baseOf fs = x := by rw [← hfs, baseOf_snoc]
  obtain ⟨c0, c1, c2, f0, f1, hlt0⟩ := head_of hH
  have hl := hok.len
  have hm := hok.max
  have hd := hok.deep
  have hlw := hw.2.1
  have hmw := hw.2.2.1
  have hlf := hf.2.1
  have hmf := hf.2.2.1
  have hne : ((fs.length : Int) == 0) = false := by rw [beq_eq_false_iff_ne]; omega
  have hwr : IntKind.i64.wrap ((ws.length : Int) - (x : Int)) = ((ws.length - x : Nat) : Int) := by rw [IntWalk.i64_in _ (by omega)]; omega
  have hbc : ∀ W : World, Has W ((b, .cells #[.slice aw ws.length cw, .slice af fs.length cf, .int .i64 max] 107) :: (lw ++ lf) ++ R) → Calls Try.prog 60 #[.pointer (some ⟨b, 0, none⟩)] W fun e w' => e = .returned (.int .i64 x) ∧ ∃ n, w' = W.drewN n := by
    intro W hW
    have := base_any W hS' hW
    rwa [hbase] at this
  have Hbc := Lib.hid hbc
  have hc1 : ∀ W : World, Calls Try.prog 61 #[.slice aw ws.length cw, .int .i64 (ws.length - x : Nat)] W fun e w' => e = .returned (.slice aw x x) ∧ W = w' := by
    intro W
    have := cut_u64 aw ws.length cw (ws.length - x) W hlw hmw (by omega)
    rwa [show ws.length - (ws.length - x) = x from by omega] at this
  have Hc1 := Lib.hid hc1
  have hc2 : ∀ W : World, Calls Try.prog 75 #[.slice af fs.length cf, .int .i64 1] W fun e w' => e = .returned (.slice af fs'.length fs'.length) ∧ W = w' := by
    intro W
    have := cut_int af fs.length cf 1 W hlf hmf (by omega)
    rwa [show fs.length - 1 = fs'.length from by omega] at this
  have Hc2 := Lib.hid hc2
  have Hfs := Lib.hid hfs
  have Hfl := Lib.hid hfl
  clear hbc hc1 hc2 hfs hfl hbase
  go_enter Try.func42, Try.ntmps42
  go_wp2
  go_quiet ((go_at_call 60; exact Calls.quiet_of (Hbc.out _ (hH.drewN _))))
  go_wp2
  go_region_law (first | (go_simp; go_at_call 61; refine (Hc1.out _).mono ?_; rintro e w' ⟨rfl, rfl⟩) | (go_simp; go_at_call 75; refine (Hc2.out _).mono ?_; rintro e w' ⟨rfl, rfl⟩))
  all_goals go_wp2
  all_goals
    go_ret2
    have hf' : Row 3 1 af fs'.length fs'.length (i64s fs') lf := by
      have h1 := hf.take fs'.length fs'.length (by have := Hfl.out; omega) (Nat.le_refl _) (by have := Hfl.out; omega)
      rw [← Hfs.out] at h1
      simpa [i64s] using h1
    have hw' : Row 31 1 aw x x (u64s (ws.take x)) lw := by
      rw [u64s_take]
      simpa using hw.take x x hx (by omega) (by omega)
    refine ⟨rfl, _, StackIs.mk' (n := x) (m := fs'.length) hok' (by rw [List.length_take]; omega) rfl hw' hf', ?_⟩
    exact (((Turn.refl hH).drewN _).setCell 0 _).setCell 1 _

set_option maxRecDepth 100000 in
theorem copy_any (w : World) (hS : StackIs b ws fs max l) (hH : Has w (l ++ R)) :
    Calls Try.prog 47 #[.pointer (some ⟨b, 0, none⟩)] w fun e w' => ∃ b' l', e = .returned (.pointer (some ⟨b', 0, none⟩)) ∧ StackIs b' ws fs max l' ∧ Turn (l ++ R) w (l' ++ (l ++ R)) w' := by
  obtain ⟨hok, aw, cw, af, cf, lw, lf, rfl, hw, hf⟩ := hS
  obtain ⟨c0, c1, c2, f0, f1, hlt0⟩ := head_of hH
  have hl := hok.len
  have hm := hok.max
  have hd := hok.deep
  have hs1 := hw.src (R := (b, .cells #[.slice aw ws.length cw, .slice af fs.length cf, .int .i64 max] 107) :: (lf ++ R)) (hH.perm (perm_of fun c => by simp; omega))
  have hs2 := hf.src (R := (b, .cells #[.slice aw ws.length cw, .slice af fs.length cf, .int .i64 max] 107) :: (lw ++ R)) (hH.perm (perm_of fun c => by simp; omega))
  go_enter Try.func47, Try.ntmps47
  go_wp2
  go_region_held3 (fun w' => w'.cell? ⟨b, 0, none⟩ = some (.slice aw ws.length cw) ∧ w'.cell? ⟨b, 1, none⟩ = some (.slice af fs.length cf) ∧ w'.cell? ⟨b, 2, none⟩ = some (.int .i64 max))
    (first | go_keep | (go_split_ands; refine ⟨?_, ?_, ?_⟩; · exact d0; · exact d1; · exact d2))
    (first
      | (go_at_call 58; refine (clone_u64 _ (hs1.drewN 1) (hH.drewN 1) (oneCell_u64s ws) (by omega)).mono ?_; rintro e w1 ⟨a1, p1, l1, rfl, hr1, ht1, -⟩; obtain ⟨d0, d1, d2, e0, e1, elt⟩ := head_of (ht1.has.perm (l' := (b, .cells #[.slice aw ws.length cw, .slice af fs.length cf, .int .i64 max] 107) :: (l1 ++ (lw ++ lf ++ R))) (perm_of fun c => by simp; omega)))
      | (go_at_call 79; refine (clone_int _ (hf.src (R := (b, .cells #[.slice aw ws.length cw, .slice af fs.length cf, .int .i64 max] 107) :: (lw ++ l1 ++ R)) (ht1.has.perm (perm_of fun c => by simp; omega))) ht1.has (oneCell_i64s fs) (by omega)).mono ?_; rintro e w2 ⟨a2, p2, l2, rfl, hr2, ht2, -⟩; obtain ⟨d0, d1, d2, e0, e1, elt⟩ := head_of (ht2.has.perm (l' := (b, .cells #[.slice aw ws.length cw, .slice af fs.length cf, .int .i64 max] 107) :: (l2 ++ (l1 ++ (lw ++ lf ++ R)))) (perm_of fun c => by simp; omega))))
  all_goals go_wp2
  go_ret
  have T := ((((Turn.refl hH).drewN 1).trans ht1).trans ht2).alloc (.cells #[.slice a1 ws.length p1, .slice a2 fs.length p2, .int .i64 max] 107)
  refine ⟨_, _, rfl, StackIs.mk' (n := ws.length) (m := fs.length) hok rfl rfl hr1 hr2, ?_⟩
  exact T.perm (perm_of fun c => by simp; omega)
end
end Go.Proofs.Ytinpkimflcmkgaa
