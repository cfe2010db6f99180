/-
  The reference's log: a report's numbers; its line.
  Conditions: the report's numbers are ints; the library's variables hold what the program's text lays.
-/
import Derived.Test.YtpnpnajheaijaaaDoorLg4
import Derived.Deep.RegionHeld3
namespace Go.Proofs.YtpnpnajheaijaaaDoor
open Go Go.RowKit

theorem el_ints : Elem Tryd.prog 62 3 1 8 (.int .i64 0) := Elem.of Tryd.underlying62 (by kernel_rfl) rfl

/-- Twenty-one numbers. -/
theorem RepOk.split {r : List Int} (h : RepOk r) : ∃ x0 x1 x2 x3 x4 x5 x6 x7 x8 x9 x10 x11 x12 x13 x14 x15 x16 x17 x18 x19 x20 : Int, r = [x0, x1, x2, x3, x4, x5, x6, x7, x8, x9, x10, x11, x12, x13, x14, x15, x16, x17, x18, x19, x20] := by
  have hl := h.len
  match r, hl with
  | [x0, x1, x2, x3, x4, x5, x6, x7, x8, x9, x10, x11, x12, x13, x14, x15, x16, x17, x18, x19, x20], _ => exact ⟨_, _, _, _, _, _, _, _, _, _, _, _, _, _, _, _, _, _, _, _, _, rfl⟩

set_option maxRecDepth 100000 in
set_option maxHeartbeats 1600000 in
theorem rtally_eq (w : World) (x0 x1 x2 x3 x4 x5 : Int) :
    Calls Tryd.prog 38 #[.agg #[.int .i64 x0, .int .i64 x1, .int .i64 x2, .int .i64 x3, .int .i64 x4, .int .i64 x5]] w fun e w' => e = .returned (.slice (some ⟨w.heap.size + 1, 0, none⟩) 6 6) ∧
      w' = (w.alloc (.cells #[.int .i64 x0, .int .i64 x1, .int .i64 x2, .int .i64 x3, .int .i64 x4, .int .i64 x5] 23)).alloc (.cells #[.int .i64 x0, .int .i64 x1, .int .i64 x2, .int .i64 x3, .int .i64 x4, .int .i64 x5] 3) := by
  go_enter Tryd.func38, Tryd.ntmps38
  go_wp2
  go_ret
  exact ⟨rfl, rfl⟩

set_option maxRecDepth 100000 in
set_option maxHeartbeats 3200000 in
theorem rnumbers_any {L : List Blk} (w : World) (hH : Has w L) (r : List Int) (hr : RepOk r) :
    Calls Tryd.prog 27 #[repVal r] w fun e w' => ∃ g cap l', e = .returned (.slice (some ⟨g, 0, none⟩) 21 cap) ∧ Row 3 1 (some ⟨g, 0, none⟩) 21 cap (i64s r) l' ∧ Turn L w (l' ++ L) w' := by
  obtain ⟨x0, x1, x2, x3, x4, x5, x6, x7, x8, x9, x10, x11, x12, x13, x14, x15, x16, x17, x18, x19, x20, rfl⟩ := hr.split
  clear hr
  unfold repVal i64s
  simp only [List.map_cons, List.map_nil]
  go_enter Tryd.func27, Tryd.ntmps27
  go_upto_region 1 with fail
  go_cut [3] (fun v3 wc => ∃ a p l3, v3 = .slice a 12 p ∧ Row 3 1 a 12 p (#[.int .i64 x0, .int .i64 x1, .int .i64 x2, .int .i64 x3, .int .i64 x4, .int .i64 x5].toList ++ #[.int .i64 x6, .int .i64 x7, .int .i64 x8, .int .i64 x9, .int .i64 x10, .int .i64 x11].toList) l3 ∧ Turn L w (l3 ++ ((w.heap.size, .cells #[.int .i64 x0, .int .i64 x1, .int .i64 x2, .int .i64 x3, .int .i64 x4, .int .i64 x5, .int .i64 x6, .int .i64 x7, .int .i64 x8, .int .i64 x9, .int .i64 x10, .int .i64 x11, .int .i64 x12, .int .i64 x13, .int .i64 x14, .int .i64 x15, .int .i64 x16, .int .i64 x17, .int .i64 x18, .int .i64 x19, .int .i64 x20] 25) :: L)) wc)
  case first =>
    have hT : Turn L w ([(w.heap.size + 1 + 1, .cells #[.int .i64 x0, .int .i64 x1, .int .i64 x2, .int .i64 x3, .int .i64 x4, .int .i64 x5] 3)] ++ ((w.heap.size + 1 + 1 + 1 + 1, .cells #[.int .i64 x6, .int .i64 x7, .int .i64 x8, .int .i64 x9, .int .i64 x10, .int .i64 x11] 3) :: (w.heap.size + 1 + 1 + 1, .cells #[.int .i64 x6, .int .i64 x7, .int .i64 x8, .int .i64 x9, .int .i64 x10, .int .i64 x11] 23) :: (w.heap.size + 1, .cells #[.int .i64 x0, .int .i64 x1, .int .i64 x2, .int .i64 x3, .int .i64 x4, .int .i64 x5] 23) :: (w.heap.size, .cells #[.int .i64 x0, .int .i64 x1, .int .i64 x2, .int .i64 x3, .int .i64 x4, .int .i64 x5, .int .i64 x6, .int .i64 x7, .int .i64 x8, .int .i64 x9, .int .i64 x10, .int .i64 x11, .int .i64 x12, .int .i64 x13, .int .i64 x14, .int .i64 x15, .int .i64 x16, .int .i64 x17, .int .i64 x18, .int .i64 x19, .int .i64 x20] 25) :: L)) (((((w.alloc (.cells #[.int .i64 x0, .int .i64 x1, .int .i64 x2, .int .i64 x3, .int .i64 x4, .int .i64 x5, .int .i64 x6, .int .i64 x7, .int .i64 x8, .int .i64 x9, .int .i64 x10, .int .i64 x11, .int .i64 x12, .int .i64 x13, .int .i64 x14, .int .i64 x15, .int .i64 x16, .int .i64 x17, .int .i64 x18, .int .i64 x19, .int .i64 x20] 25)).alloc (.cells #[.int .i64 x0, .int .i64 x1, .int .i64 x2, .int .i64 x3, .int .i64 x4, .int .i64 x5] 23)).alloc (.cells #[.int .i64 x0, .int .i64 x1, .int .i64 x2, .int .i64 x3, .int .i64 x4, .int .i64 x5] 3)).alloc (.cells #[.int .i64 x6, .int .i64 x7, .int .i64 x8, .int .i64 x9, .int .i64 x10, .int .i64 x11] 23)).alloc (.cells #[.int .i64 x6, .int .i64 x7, .int .i64 x8, .int .i64 x9, .int .i64 x10, .int .i64 x11] 3)).drew := by
      have := (((((Turn.refl hH).alloc (.cells #[.int .i64 x0, .int .i64 x1, .int .i64 x2, .int .i64 x3, .int .i64 x4, .int .i64 x5, .int .i64 x6, .int .i64 x7, .int .i64 x8, .int .i64 x9, .int .i64 x10, .int .i64 x11, .int .i64 x12, .int .i64 x13, .int .i64 x14, .int .i64 x15, .int .i64 x16, .int .i64 x17, .int .i64 x18, .int .i64 x19, .int .i64 x20] 25)).alloc (.cells #[.int .i64 x0, .int .i64 x1, .int .i64 x2, .int .i64 x3, .int .i64 x4, .int .i64 x5] 23)).alloc (.cells #[.int .i64 x0, .int .i64 x1, .int .i64 x2, .int .i64 x3, .int .i64 x4, .int .i64 x5] 3)).alloc (.cells #[.int .i64 x6, .int .i64 x7, .int .i64 x8, .int .i64 x9, .int .i64 x10, .int .i64 x11] 23)).alloc (.cells #[.int .i64 x6, .int .i64 x7, .int .i64 x8, .int .i64 x9, .int .i64 x10, .int .i64 x11] 3)
      simp only [World.size_alloc] at this
      exact (this.perm (perm_of fun c => by simp; omega)).drew
    have HT := Lib.hid hT
    have hS : ∀ (W : World) (X : List Blk), Has W (X ++ ((w.heap.size, .cells #[.int .i64 x0, .int .i64 x1, .int .i64 x2, .int .i64 x3, .int .i64 x4, .int .i64 x5, .int .i64 x6, .int .i64 x7, .int .i64 x8, .int .i64 x9, .int .i64 x10, .int .i64 x11, .int .i64 x12, .int .i64 x13, .int .i64 x14, .int .i64 x15, .int .i64 x16, .int .i64 x17, .int .i64 x18, .int .i64 x19, .int .i64 x20] 25) :: L)) → W.cell? ⟨w.heap.size, 0, none⟩ = some (.int .i64 x0) ∧ W.cell? ⟨w.heap.size, 1, none⟩ = some (.int .i64 x1) ∧ W.cell? ⟨w.heap.size, 2, none⟩ = some (.int .i64 x2) ∧ W.cell? ⟨w.heap.size, 3, none⟩ = some (.int .i64 x3) ∧ W.cell? ⟨w.heap.size, 4, none⟩ = some (.int .i64 x4) ∧ W.cell? ⟨w.heap.size, 5, none⟩ = some (.int .i64 x5) ∧ W.cell? ⟨w.heap.size, 6, none⟩ = some (.int .i64 x6) ∧ W.cell? ⟨w.heap.size, 7, none⟩ = some (.int .i64 x7) ∧ W.cell? ⟨w.heap.size, 8, none⟩ = some (.int .i64 x8) ∧ W.cell? ⟨w.heap.size, 9, none⟩ = some (.int .i64 x9) ∧ W.cell? ⟨w.heap.size, 10, none⟩ = some (.int .i64 x10) ∧ W.cell? ⟨w.heap.size, 11, none⟩ = some (.int .i64 x11) := by
      intro W X hW
      have hm : (w.heap.size, Obj.cells #[.int .i64 x0, .int .i64 x1, .int .i64 x2, .int .i64 x3, .int .i64 x4, .int .i64 x5, .int .i64 x6, .int .i64 x7, .int .i64 x8, .int .i64 x9, .int .i64 x10, .int .i64 x11, .int .i64 x12, .int .i64 x13, .int .i64 x14, .int .i64 x15, .int .i64 x16, .int .i64 x17, .int .i64 x18, .int .i64 x19, .int .i64 x20] 25 (0, 0)) ∈ X ++ ((w.heap.size, Obj.cells #[.int .i64 x0, .int .i64 x1, .int .i64 x2, .int .i64 x3, .int .i64 x4, .int .i64 x5, .int .i64 x6, .int .i64 x7, .int .i64 x8, .int .i64 x9, .int .i64 x10, .int .i64 x11, .int .i64 x12, .int .i64 x13, .int .i64 x14, .int .i64 x15, .int .i64 x16, .int .i64 x17, .int .i64 x18, .int .i64 x19, .int .i64 x20] 25 (0, 0)) :: L) := by simp
      exact ⟨hW.cell hm 0, hW.cell hm 1, hW.cell hm 2, hW.cell hm 3, hW.cell hm 4, hW.cell hm 5, hW.cell hm 6, hW.cell hm 7, hW.cell hm 8, hW.cell hm 9, hW.cell hm 10, hW.cell hm 11⟩
    have hT2 := ((Turn.refl hH).alloc (.cells #[.int .i64 x0, .int .i64 x1, .int .i64 x2, .int .i64 x3, .int .i64 x4, .int .i64 x5, .int .i64 x6, .int .i64 x7, .int .i64 x8, .int .i64 x9, .int .i64 x10, .int .i64 x11, .int .i64 x12, .int .i64 x13, .int .i64 x14, .int .i64 x15, .int .i64 x16, .int .i64 x17, .int .i64 x18, .int .i64 x19, .int .i64 x20] 25)).alloc (.cells #[.int .i64 x0, .int .i64 x1, .int .i64 x2, .int .i64 x3, .int .i64 x4, .int .i64 x5] 23) |>.alloc (.cells #[.int .i64 x0, .int .i64 x1, .int .i64 x2, .int .i64 x3, .int .i64 x4, .int .i64 x5] 3)
    have HS2 := Lib.hid (hS _ [_, _] hT2.has)
    have HS4 := Lib.hid (hS _ [_, _, _, _] hT.has)
    have HS := Lib.hid hS
    have hB := news_of (cs := #[.int .i64 x6, .int .i64 x7, .int .i64 x8, .int .i64 x9, .int .i64 x10, .int .i64 x11]) (t := 3) (fr := (0, 0)) (hT.has.own (w.heap.size + 1 + 1 + 1 + 1) (.cells #[.int .i64 x6, .int .i64 x7, .int .i64 x8, .int .i64 x9, .int .i64 x10, .int .i64 x11] 3) (by simp))
    have HB := Lib.hid hB
    have hR6 := Row.lit (e := 3) (size := 1) (w.heap.size + 1 + 1) #[.int .i64 x0, .int .i64 x1, .int .i64 x2, .int .i64 x3, .int .i64 x4, .int .i64 x5] 6 rfl (by unfold maxLen; omega)
    have HR6 := Lib.hid hR6
    have h1c : ∀ u ∈ (#[.int .i64 x6, .int .i64 x7, .int .i64 x8, .int .i64 x9, .int .i64 x10, .int .i64 x11] : Array Value).toList, u.oneCell' = true := by simp [Value.oneCell']
    have H1c := Lib.hid h1c
    clear hS hT2 hT hB hR6 h1c
    have h63 : 6 + 6 ≤ maxLen := by unfold maxLen; omega
    go_region_held3 (fun w' => w'.cell? ⟨w.heap.size, 0, none⟩ = some (.int .i64 x0) ∧ w'.cell? ⟨w.heap.size, 1, none⟩ = some (.int .i64 x1) ∧ w'.cell? ⟨w.heap.size, 2, none⟩ = some (.int .i64 x2) ∧ w'.cell? ⟨w.heap.size, 3, none⟩ = some (.int .i64 x3) ∧ w'.cell? ⟨w.heap.size, 4, none⟩ = some (.int .i64 x4) ∧ w'.cell? ⟨w.heap.size, 5, none⟩ = some (.int .i64 x5) ∧ w'.cell? ⟨w.heap.size, 6, none⟩ = some (.int .i64 x6) ∧ w'.cell? ⟨w.heap.size, 7, none⟩ = some (.int .i64 x7) ∧ w'.cell? ⟨w.heap.size, 8, none⟩ = some (.int .i64 x8) ∧ w'.cell? ⟨w.heap.size, 9, none⟩ = some (.int .i64 x9) ∧ w'.cell? ⟨w.heap.size, 10, none⟩ = some (.int .i64 x10) ∧ w'.cell? ⟨w.heap.size, 11, none⟩ = some (.int .i64 x11))
      (first | exact HS2.out | exact HS4.out | exact dS | go_keep)
      (first
        | (go_at_call 38; refine (rtally_eq _ _ _ _ _ _ _).mono ?_; rintro e w' ⟨rfl, rfl⟩)
        | (refine step_append_row (by rfl) _ _ (by rfl) el_ints (by rfl) HR6.out HT.out.has (by rfl) (news := #[.int .i64 x6, .int .i64 x7, .int .i64 x8, .int .i64 x9, .int .i64 x10, .int .i64 x11].toList) (by rfl) HB.out H1c.out h63 (by omega) ?_; intro ao' cap' l' w1 hr1 ht hno; have V1 := HT.out.trans ht; have dS := HS.out w1 (l' ++ [(w.heap.size + 1 + 1 + 1 + 1, .cells #[.int .i64 x6, .int .i64 x7, .int .i64 x8, .int .i64 x9, .int .i64 x10, .int .i64 x11] 3), (w.heap.size + 1 + 1 + 1, .cells #[.int .i64 x6, .int .i64 x7, .int .i64 x8, .int .i64 x9, .int .i64 x10, .int .i64 x11] 23), (w.heap.size + 1, .cells #[.int .i64 x0, .int .i64 x1, .int .i64 x2, .int .i64 x3, .int .i64 x4, .int .i64 x5] 23)])  (V1.has.perm (perm_of fun c => by simp))))
    go_wp2
    go_meet
    case rel => exact ⟨ao', cap', l', rfl, hr1, ((V1.perm (l2 := (w.heap.size + 1 + 1 + 1 + 1, .cells #[.int .i64 x6, .int .i64 x7, .int .i64 x8, .int .i64 x9, .int .i64 x10, .int .i64 x11] 3) :: (w.heap.size + 1 + 1 + 1, .cells #[.int .i64 x6, .int .i64 x7, .int .i64 x8, .int .i64 x9, .int .i64 x10, .int .i64 x11] 23) :: (w.heap.size + 1, .cells #[.int .i64 x0, .int .i64 x1, .int .i64 x2, .int .i64 x3, .int .i64 x4, .int .i64 x5] 23) :: (l' ++ ((w.heap.size, .cells #[.int .i64 x0, .int .i64 x1, .int .i64 x2, .int .i64 x3, .int .i64 x4, .int .i64 x5, .int .i64 x6, .int .i64 x7, .int .i64 x8, .int .i64 x9, .int .i64 x10, .int .i64 x11, .int .i64 x12, .int .i64 x13, .int .i64 x14, .int .i64 x15, .int .i64 x16, .int .i64 x17, .int .i64 x18, .int .i64 x19, .int .i64 x20] 25) :: L))) (perm_of fun c => by simp; omega)).tail.tail.tail)⟩
  case rest =>
    obtain ⟨a, p, l3, rfl, hr3, T3⟩ := hcut
    have hm : (w.heap.size, Obj.cells #[.int .i64 x0, .int .i64 x1, .int .i64 x2, .int .i64 x3, .int .i64 x4, .int .i64 x5, .int .i64 x6, .int .i64 x7, .int .i64 x8, .int .i64 x9, .int .i64 x10, .int .i64 x11, .int .i64 x12, .int .i64 x13, .int .i64 x14, .int .i64 x15, .int .i64 x16, .int .i64 x17, .int .i64 x18, .int .i64 x19, .int .i64 x20] 25 (0, 0)) ∈ l3 ++ ((w.heap.size, Obj.cells #[.int .i64 x0, .int .i64 x1, .int .i64 x2, .int .i64 x3, .int .i64 x4, .int .i64 x5, .int .i64 x6, .int .i64 x7, .int .i64 x8, .int .i64 x9, .int .i64 x10, .int .i64 x11, .int .i64 x12, .int .i64 x13, .int .i64 x14, .int .i64 x15, .int .i64 x16, .int .i64 x17, .int .i64 x18, .int .i64 x19, .int .i64 x20] 25 (0, 0)) :: L) := by simp
    have c12 : wc.cell? ⟨w.heap.size, 12, none⟩ = some (.int .i64 x12) := T3.has.cell hm 12
    have c13 : wc.cell? ⟨w.heap.size, 13, none⟩ = some (.int .i64 x13) := T3.has.cell hm 13
    have c14 : wc.cell? ⟨w.heap.size, 14, none⟩ = some (.int .i64 x14) := T3.has.cell hm 14
    have c15 : wc.cell? ⟨w.heap.size, 15, none⟩ = some (.int .i64 x15) := T3.has.cell hm 15
    have c16 : wc.cell? ⟨w.heap.size, 16, none⟩ = some (.int .i64 x16) := T3.has.cell hm 16
    have c17 : wc.cell? ⟨w.heap.size, 17, none⟩ = some (.int .i64 x17) := T3.has.cell hm 17
    have c18 : wc.cell? ⟨w.heap.size, 18, none⟩ = some (.int .i64 x18) := T3.has.cell hm 18
    have c19 : wc.cell? ⟨w.heap.size, 19, none⟩ = some (.int .i64 x19) := T3.has.cell hm 19
    have c20 : wc.cell? ⟨w.heap.size, 20, none⟩ = some (.int .i64 x20) := T3.has.cell hm 20
    clear hm
    have h63 : 12 + 9 ≤ maxLen := by unfold maxLen; omega
    have h1c : ∀ u ∈ (#[.int .i64 x12, .int .i64 x13, .int .i64 x14, .int .i64 x15, .int .i64 x16, .int .i64 x17, .int .i64 x18, .int .i64 x19, .int .i64 x20] : Array Value).toList, u.oneCell' = true := by simp [Value.oneCell']
    have H1c := Lib.hid h1c
    have T4 := (T3.alloc (.cells #[.int .i64 x12, .int .i64 x13, .int .i64 x14, .int .i64 x15, .int .i64 x16, .int .i64 x17, .int .i64 x18, .int .i64 x19, .int .i64 x20] 3)).perm (l2 := l3 ++ ((wc.heap.size, .cells #[.int .i64 x12, .int .i64 x13, .int .i64 x14, .int .i64 x15, .int .i64 x16, .int .i64 x17, .int .i64 x18, .int .i64 x19, .int .i64 x20] 3) :: ((w.heap.size, .cells #[.int .i64 x0, .int .i64 x1, .int .i64 x2, .int .i64 x3, .int .i64 x4, .int .i64 x5, .int .i64 x6, .int .i64 x7, .int .i64 x8, .int .i64 x9, .int .i64 x10, .int .i64 x11, .int .i64 x12, .int .i64 x13, .int .i64 x14, .int .i64 x15, .int .i64 x16, .int .i64 x17, .int .i64 x18, .int .i64 x19, .int .i64 x20] 25) :: L))) (perm_of fun c => by simp; omega)
    clear h1c
    go_wp2_with (at_builtin; refine wpList_append_row rfl _ _ rfl el_ints rfl hr3 T4.has rfl (news := #[.int .i64 x12, .int .i64 x13, .int .i64 x14, .int .i64 x15, .int .i64 x16, .int .i64 x17, .int .i64 x18, .int .i64 x19, .int .i64 x20].toList) rfl (news_of (heap_alloc_new _ _)) H1c.out h63 (by omega) ?_; intro a4 p4 l4 w4 hr4 V4 hno)
    go_ret
    obtain ⟨g, cur, rfl, hl4, -, -⟩ := hr4.some_of (by omega)
    exact ⟨g, p4, rfl, l4, hr4, (((T4.trans V4).perm (l2 := (wc.heap.size, .cells #[.int .i64 x12, .int .i64 x13, .int .i64 x14, .int .i64 x15, .int .i64 x16, .int .i64 x17, .int .i64 x18, .int .i64 x19, .int .i64 x20] 3) :: ((w.heap.size, .cells #[.int .i64 x0, .int .i64 x1, .int .i64 x2, .int .i64 x3, .int .i64 x4, .int .i64 x5, .int .i64 x6, .int .i64 x7, .int .i64 x8, .int .i64 x9, .int .i64 x10, .int .i64 x11, .int .i64 x12, .int .i64 x13, .int .i64 x14, .int .i64 x15, .int .i64 x16, .int .i64 x17, .int .i64 x18, .int .i64 x19, .int .i64 x20] 25) :: (l4 ++ L))) (perm_of fun c => by simp; omega)).tail.tail)⟩
end Go.Proofs.YtpnpnajheaijaaaDoor
