/-
  The log: where a report's numbers stand.
  Conditions: none.
-/
import Derived.Test.YtpnpnajheaijaaaDoorLg2
import Derived.WalkKit
import Derived.Deep.Cut
import Derived.Deep.CutRange
import Derived.Deep.CutBlock
import Derived.Deep.DeepCutAuto
namespace Go.Proofs.YtpnpnajheaijaaaDoor
open Go Go.RowKit

def ptrs (b o n : Nat) : List Value := (List.range n).map fun j => Value.pointer (some ⟨b, o + j, none⟩)

/-- Six pointers. -/
def six (b o : Nat) : Array Value := #[.pointer (some ⟨b, o, none⟩), .pointer (some ⟨b, o + 1, none⟩), .pointer (some ⟨b, o + 2, none⟩), .pointer (some ⟨b, o + 3, none⟩), .pointer (some ⟨b, o + 4, none⟩), .pointer (some ⟨b, o + 5, none⟩)]

set_option maxRecDepth 100000 in
set_option maxHeartbeats 1600000 in
theorem tally_eq (w : World) (b o : Nat) :
    Calls Tryd.prog 31 #[.pointer (some ⟨b, o, none⟩)] w fun e w' => e = .returned (.agg #[.pointer (some ⟨b, o, none⟩), .pointer (some ⟨b, o + 1, none⟩), .pointer (some ⟨b, o + 2, none⟩), .pointer (some ⟨b, o + 3, none⟩), .pointer (some ⟨b, o + 4, none⟩), .pointer (some ⟨b, o + 5, none⟩)]) ∧ w' = (w.alloc (.cells (six b o) 75)).drew := by
  go_enter Tryd.func31, Tryd.ntmps31
  go_wp2_with fail
  go_region
  go_wp2
  refine bodyPost_ret (v := .agg #[.pointer (some ⟨b, o, none⟩), .pointer (some ⟨b, o + 1, none⟩), .pointer (some ⟨b, o + 2, none⟩), .pointer (some ⟨b, o + 3, none⟩), .pointer (some ⟨b, o + 4, none⟩), .pointer (some ⟨b, o + 5, none⟩)]) ?_ rfl ?_
  · simp [results, Tryd.results31, go_sem]
  · exact ⟨rfl, rfl⟩

theorem el_pint : Elem Tryd.prog 53 61 1 8 (.pointer none) := Elem.of Tryd.underlying53 (by kernel_rfl) rfl

theorem Turn.pick {l l1 l2 : List Blk} {w w' : World} (h : Turn l w l1 w') (hs : ∀ x ∈ l2, x ∈ l1) (hn : (keys l2).Nodup) : Turn l w l2 w' :=
  ⟨h.os, h.tape, h.output, h.size, ⟨hn, fun b o hm => h.has.own b o (hs _ hm)⟩, fun b hb => by
    obtain ⟨o, ho⟩ := mem_keys.1 hb
    exact h.new b (mem_keys.2 ⟨o, hs _ ho⟩), h.same⟩

/-- Nine pointers. -/
def nine (b : Nat) : Array Value := #[.pointer (some ⟨b, 12, none⟩), .pointer (some ⟨b, 13, none⟩), .pointer (some ⟨b, 14, none⟩), .pointer (some ⟨b, 15, none⟩), .pointer (some ⟨b, 16, none⟩), .pointer (some ⟨b, 17, none⟩), .pointer (some ⟨b, 18, none⟩), .pointer (some ⟨b, 19, none⟩), .pointer (some ⟨b, 20, none⟩)]

set_option maxRecDepth 100000 in
set_option maxHeartbeats 3200000 in
theorem numbers_any {L : List Blk} (w : World) (hH : Has w L) (b : Nat) :
    Calls Tryd.prog 22 #[.pointer (some ⟨b, 0, none⟩)] w fun e w' => ∃ g cap l', e = .returned (.slice (some ⟨g, 0, none⟩) 21 cap) ∧ Row 61 1 (some ⟨g, 0, none⟩) 21 cap (ptrs b 0 21) l' ∧ Turn L w (l' ++ L) w' := by
  have hlt : ∀ k, k ∈ keys L → k < w.heap.size := fun k hk => hH.lt hk
  have Hlt := Lib.hid hlt
  clear hlt
  go_enter Tryd.func22, Tryd.ntmps22
  go_upto_region 1 with fail
  go_cut [3, 4] (fun v3 v4 wc => ∃ g1 g2, v3 = .pointer (some ⟨g1, 0, none⟩) ∧ v4 = .pointer (some ⟨g2, 0, none⟩) ∧ Turn L w ((g1, .cells (six b 0) 75) :: (g2, .cells (six b 6) 75) :: L) wc)
  case first =>
    go_region_with (go_at_call 31; refine (tally_eq _ _ _).mono ?_; rintro e w' ⟨rfl, rfl⟩)
    all_goals go_wp2
    all_goals go_meet
    all_goals
      refine ⟨_, _, rfl, rfl, ((((((((Turn.refl hH).alloc _).alloc _).alloc _).alloc _).drew).drew).drew).pick (fun x hx => ?_) ?_⟩
    all_goals first
      | (rcases List.mem_cons.1 hx with rfl | hx2
         · simp [six]
         · rcases List.mem_cons.1 hx2 with rfl | hx3
           · simp [six]
           · simp [hx3])
      | (rw [keys_cons, keys_cons]
         refine List.nodup_cons.2 ⟨fun hm => ?_, List.nodup_cons.2 ⟨fun hm => ?_, hH.nd⟩⟩
         · rcases List.mem_cons.1 hm with h | h
           · omega
           · have := Hlt.out _ h; omega
         · have := Hlt.out _ hm; omega)
  case rest =>
    obtain ⟨g1, g2, rfl, rfl, T⟩ := hcut
    go_upto_region 2 with fail
    go_cut [5] (fun v5 wd => ∃ g3, v5 = .pointer (some ⟨g3, 0, none⟩) ∧ Turn L w ((g3, .cells (nine b) 78) :: (g1, .cells (six b 0) 75) :: (g2, .cells (six b 6) 75) :: L) wd)
    case first =>
      go_region
      all_goals go_wp2
      all_goals go_meet
      all_goals exact ⟨_, rfl, (T.alloc (.cells (nine b) 78)).drew⟩
    case rest =>
      obtain ⟨g3, rfl, T2⟩ := hcut
      generalize hA : (g1, Obj.cells (six b 0) 75 (0, 0)) = A at *
      generalize hB : (g2, Obj.cells (six b 6) 75 (0, 0)) = B at *
      generalize hC : (g3, Obj.cells (nine b) 78 (0, 0)) = C at *
      have hsA : ∀ (W : World) (X : List Blk), Has W (X ++ (C :: A :: B :: L)) → Src W (some ⟨g1, 0, none⟩) 6 6 1 (six b 0).toList := by
        intro W X hW
        subst hA
        exact (Row.lit (e := 75) g1 (six b 0) 6 rfl (by unfold maxLen; omega)).src (R := X ++ (C :: B :: L)) (hW.perm (perm_of fun c => by simp; omega))
      have hsB : ∀ (W : World) (X : List Blk), Has W (X ++ (C :: A :: B :: L)) → Src W (some ⟨g2, 0, none⟩) 6 6 1 (six b 6).toList := by
        intro W X hW
        subst hB
        exact (Row.lit (e := 75) g2 (six b 6) 6 rfl (by unfold maxLen; omega)).src (R := X ++ (C :: A :: L)) (hW.perm (perm_of fun c => by simp; omega))
      have hsC : ∀ (W : World) (X : List Blk), Has W (X ++ (C :: A :: B :: L)) → Src W (some ⟨g3, 0, none⟩) 9 9 1 (nine b).toList := by
        intro W X hW
        subst hC
        exact (Row.lit (e := 78) g3 (nine b) 9 rfl (by unfold maxLen; omega)).src (R := X ++ (A :: B :: L)) (hW.perm (perm_of fun c => by simp; omega))
      have HsA := Lib.hid hsA
      have HsB := Lib.hid hsB
      have HsC := Lib.hid hsC
      clear hsA hsB hsC hA hB hC
      have h1 : 0 + 6 ≤ maxLen := by unfold maxLen; omega
      have h2 : 0 + 6 + 6 ≤ maxLen := by unfold maxLen; omega
      have h3 : 0 + 6 + 6 + 9 ≤ maxLen := by unfold maxLen; omega
      have oA : ∀ u ∈ (six b 0).toList, u.oneCell' = true := by simp [six, Value.oneCell']
      have oB : ∀ u ∈ (six b 6).toList, u.oneCell' = true := by simp [six, Value.oneCell']
      have oC : ∀ u ∈ (nine b).toList, u.oneCell' = true := by simp [nine, Value.oneCell']
      go_wp2_with (first
        | (at_builtin; refine wpList_append_src rfl _ _ rfl el_pint rfl rfl r2 (R := C :: A :: B :: L) U2.has (HsC.out _ l2 U2.has) oC h3 (by omega) ?_; intro a3 p3 l3 w3 r3 U3)
        | (at_builtin; refine wpList_append_src rfl _ _ rfl el_pint rfl rfl r1 (R := C :: A :: B :: L) U1.has (HsB.out _ l1 U1.has) oB h2 (by omega) ?_; intro a2 p2 l2 w2 r2 U2)
        | (at_builtin; refine wpList_append_src rfl _ _ rfl el_pint rfl rfl (Row.nil _ _) (R := C :: A :: B :: L) T2.has (HsA.out _ [] T2.has) oA h1 (by omega) ?_; intro a1 p1 l1 w1 r1 U1)
        | fail)
      go_ret
      have T3 := ((T2.trans U1).trans U2).trans U3
      obtain ⟨g, cur, rfl, hl3, -, -⟩ := r3.some_of (by omega)
      exact ⟨g, p3, l3, rfl, r3, (T3.perm (l2 := (C :: A :: B :: (l3 ++ L))) (perm_of fun c => by simp; omega)).tail.tail.tail⟩
end Go.Proofs.YtpnpnajheaijaaaDoor
