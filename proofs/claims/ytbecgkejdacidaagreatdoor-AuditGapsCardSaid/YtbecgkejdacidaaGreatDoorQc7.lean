/-
  A part of a proof: texts packed by a program of mine (Au4, Au5, So1, Vl1, Hn1, Hn2, Hn3, Hn4, Hn5, Np1, Au6, Hn6, Jn1, Fu1, Li1, Au7, Ag9, Pl9, AgCl).
  Conditions: those that each theorem states.
-/
import Derived.Laws.EntriesVeiled
import Derived.Deep.QuietTactic
import Derived.BigQuiet
import Derived.WalkSpells
import Derived.Shelf.Abstract
import Derived.Deep.RegionLaw
import Derived.Deep.RegionHeld3
import Derived.RangeFuncNested
import Derived.RangeFuncBound
import Derived.RangeFuncCalls
import Derived.RangeFuncLeaves
import Derived.RangeFuncBox
import Derived.Shelf.RegionOpen
import Derived.WalkKit
import Derived.OwnWalkIn
import Derived.TacticsInMore
import Derived.LoopNIn
import Derived.LoopIn
import Derived.Maps.AppendAt
import Derived.Shelf.Strings.OnBuilder
import Derived.Shelf.Strconv.Itoa3
import Derived.Test.YtbecgkejdacidaaGreatDoorRows
import Derived.JoinedOf
import GoSem.ClaimSeven
import Derived.SevenTiedAt
import Derived.Test.YtbecgkejdacidaaGreatDoorQc6
set_option maxRecDepth 100000
set_option maxHeartbeats 12800000
namespace Go.Proofs.YtbecgkejdacidaaGreatDoor
section
open Go Go.RowKit Go.IntWalk
def n64s (l : List Nat) : List Value := l.map fun n => .int .u64 (n : Nat)
theorem n64s_length (l : List Nat) : (n64s l).length = l.length := by simp [n64s]
theorem n64s_at {l : List Nat} {i v : Nat} (h : l[i]? = some v) : (n64s l)[i]? = some (.int .u64 v) := by unfold n64s; rw [List.getElem?_map, h]; rfl
def Tells (f : Nat) (e : TypeId) (p : Option Addr) (w : World) (xs : List Nat) : Prop := ∀ w', Below w.heap.size w w' → Calls Tryz.prog f #[.pointer p] w' fun en w2 => ∃ ao cap l, en = .returned (.slice ao xs.length cap) ∧ Row e 1 ao xs.length cap (n64s xs) l ∧ Turn [] w' l w2
theorem Tells.below {f : Nat} {e : TypeId} {p : Option Addr} {w w' : World} {xs : List Nat} (h : Tells f e p w xs) (hk : Below w.heap.size w w') : Tells f e p w' xs := fun w2 hk2 => h w2 (hk.trans (hk2.mono hk.size))
theorem alives (w : World) (sb a aw tb bb : Nat) {W B : List Nat} (bo : Option Addr) (bcap : Nat) (tao : Option Addr) (tcap : Nat) (L : List Ty) (cs : List Ce) (hA : SbAt w sb a aw tb bb W B bo bcap tao tcap L) (hI : SdIn L W B cs) (bs : Nat) (hbs : w.cell? ⟨bs, 0, none⟩ = some (.pointer (some ⟨sb, 0, none⟩))) (v : Nat) (hv : v < 18446744073709551616) :
  Calls Tryz.prog 78 #[.int .u64 v, .pointer (some ⟨bs, 0, none⟩)] w fun e w' => e = .returned (.bool (lives cs v)) ∧ Below w.heap.size w w' := by
 have T1 := (Turn.refl (Has.nil w)).alloc (.cells #[.int .u64 v] 47)
 have Hp := uh (bprec _ sb a aw tb bb bo bcap tao tcap L cs (hA.below T1.below) hI v w.heap.size hv (T1.cell1 0))
 have HB := uh T1.below
 clear hA hI T1
 go_enter Tryz.func78, Tryz.ntmps78
 go_wp2_with fail
 refine Hp.out.mono ?_
 rintro e w1 ⟨ao, n, cap, ec, rfl, hl, hB1⟩
 have HB1 := uh (HB.out.trans (hB1.mono HB.out.size))
 clear hB1 HB Hp
 by_cases he : ec = 0
 · subst he
   by_cases hn : 0 < n
   · have hnz : (0 : Int) < (n : Int) := by omega
     have HL := uh (hl.1 ⟨rfl, hn⟩)
     have HN := uh hn
     clear hl hn
     go_wp2_with fail
     go_ret
     exact ⟨by rw [HL.out]; show Ending.returned (Value.bool (decide (0 < n))) = _; rw [decide_eq_true HN.out], HB1.out⟩
   · have hnz : ¬ (0 : Int) < (n : Int) := by omega
     have hf : lives cs v = false := Bool.eq_false_iff.2 (fun h => hn (hl.2 h).2)
     have HL := uh hf
     have HN := uh hn
     clear hl hn hf
     go_wp2_with fail
     go_ret
     exact ⟨by rw [HL.out]; show Ending.returned (Value.bool (decide (0 < n))) = _; rw [decide_eq_false HN.out], HB1.out⟩
 · have hf : lives cs v = false := Bool.eq_false_iff.2 (fun h => he (hl.2 h).1)
   have HL := uh hf
   clear hl hf
   go_wp2_with fail
   go_ret
   exact ⟨by rw [HL.out]; rfl, HB1.out⟩
def lost (k : Nat) (cs : List Ce) (l : List (Nat × Nat)) : List Br := (l.filter fun x => !lives cs x.2).map fun x => (k, 0, 0, x.1, 0)
theorem lost_snoc (k : Nat) (cs : List Ce) (l : List (Nat × Nat)) (x : Nat × Nat) : lost k cs (l ++ [x]) = lost k cs l ++ if lives cs x.2 = true then [] else [(k, 0, 0, x.1, 0)] := by
 unfold lost
 rw [List.filter_append, List.map_append]
 congr 1
 by_cases h : lives cs x.2 = true <;> simp [h]
theorem lost_next {k : Nat} {cs : List Ce} {l : List (Nat × Nat)} {i : Nat} {x : Nat × Nat} (h : l[i]? = some x) : lost k cs (l.take (i + 1)) = lost k cs (l.take i) ++ if lives cs x.2 = true then [] else [(k, 0, 0, x.1, 0)] := by
 rw [List.take_add_one, h]
 exact lost_snoc k cs (l.take i) x
theorem lost_le (k : Nat) (cs : List Ce) (l : List (Nat × Nat)) (i : Nat) : (lost k cs (l.take i)).length ≤ i := by
 unfold lost
 rw [List.length_map]
 refine Nat.le_trans (List.length_filter_le ..) ?_
 rw [List.length_take]
 omega
def lostW (cs : List Ce) (l : List (Nat × Nat)) : List Br := lost 5 cs (l.filter fun x => x.2 != 0)
theorem lostW_next {cs : List Ce} {l : List (Nat × Nat)} {i : Nat} {x : Nat × Nat} (h : l[i]? = some x) : lostW cs (l.take (i + 1)) = lostW cs (l.take i) ++ if x.2 = 0 ∨ lives cs x.2 = true then [] else [(5, 0, 0, x.1, 0)] := by
 rw [List.take_add_one, h]
 unfold lostW
 show lost 5 cs ((l.take i ++ [x]).filter _) = _
 rw [List.filter_append]
 by_cases h0 : x.2 = 0
 · simp [h0]
 · rw [List.filter_cons_of_pos (by simpa using h0), List.filter_nil, lost_snoc]
   simp [h0]
theorem lostW_le (cs : List Ce) (l : List (Nat × Nat)) (i : Nat) : (lostW cs (l.take i)).length ≤ i := by
 unfold lostW
 have h := lost_le 5 cs ((l.take i).filter fun x => x.2 != 0) ((l.take i).filter fun x => x.2 != 0).length
 rw [List.take_length] at h
 refine Nat.le_trans h (Nat.le_trans (List.length_filter_le ..) ?_)
 rw [List.length_take]
 omega
theorem chands (w : World) (sb a aw tb bb : Nat) {W B : List Nat} (bo : Option Addr) (bcap : Nat) (tao : Option Addr) (tcap : Nat) (L : List Ty) (cs : List Ce) (hA : SbAt w sb a aw tb bb W B bo bcap tao tcap L) (hI : SdIn L W B cs) (bs bl bh : Nat) (p : Option Addr) (hs : List (Nat × Nat)) (hbs : w.cell? ⟨bs, 0, none⟩ = some (.pointer (some ⟨sb, 0, none⟩)))
  (hbl : w.cell? ⟨bl, 0, none⟩ = some (.func (.func 78) #[] #[.pointer (some ⟨bs, 0, none⟩)])) (hbh : w.cell? ⟨bh, 0, none⟩ = some (.pointer p)) (hx : ∀ x ∈ hs, x.2 < 18446744073709551616) (hln : hs.length ≤ 65536)
  (hR : Tells 81 47 p w (hs.map (·.2))) (hLi : Tells 82 83 p w (hs.map (·.1))) :
  Calls Tryz.prog 80 #[.pointer (some ⟨bh, 0, none⟩), .pointer (some ⟨bl, 0, none⟩)] w fun e w' => ∃ ao cap l, e = .returned (.slice ao (lost 3 cs hs).length cap) ∧ Row 60 5 ao (lost 3 cs hs).length cap (brs (lost 3 cs hs)) l ∧ Turn [] w l w' := by
 have Hal := uh (fun w' (hk : Below w.heap.size w w') (v : Nat) (hv : v < 18446744073709551616) => alives w' sb a aw tb bb bo bcap tao tcap L cs (hA.below hk) hI bs ((hk.cell (p := ⟨bs, 0, none⟩) (World.block_lt_of_cell? w _ hbs)).trans hbs) v hv)
 have HBl := uh (fun w' (hk : Below w.heap.size w w') => (hk.cell (p := ⟨bl, 0, none⟩) (World.block_lt_of_cell? w _ hbl)).trans hbl)
 have HBh := uh (fun w' (hk : Below w.heap.size w w') => (hk.cell (p := ⟨bh, 0, none⟩) (World.block_lt_of_cell? w _ hbh)).trans hbh)
 have Hx := uh (fun (i : Nat) (x : Nat × Nat) (h : hs[i]? = some x) => hx x (List.mem_of_getElem? h))
 have Hsn := uh (fun (i : Nat) (x : Nat × Nat) (h : hs[i]? = some x) => lost_next (k := 3) (cs := cs) h)
 have Hle := uh (lost_le 3 cs hs)
 have HR := uh (hR w (Below.refl _ _))
 have HLi := uh (fun w' (hk : Below w.heap.size w w') => hLi w' hk)
 clear hA hI hbs hbl hx hR hLi
 go_enter Tryz.func80, Tryz.ntmps80
 go_wp2_with fail
 refine HR.out.mono ?_
 rintro e w1 ⟨a3, p3, l1, rfl, hr1, T1⟩
 have hbh1 := HBh.out w1 T1.below
 have HL1 := uh (HLi.out w1 T1.below)
 have Hr1 := uh hr1
 have HT1 := uh T1
 clear hr1 T1 HR HLi hbh
 go_wp2_with fail
 refine HL1.out.mono ?_
 rintro e w2 ⟨a9, p9, l2, rfl, hrl, T2⟩
 have Hrl := uh hrl
 have HT2 := uh (HT1.out.grow T2)
 have hln1 : (hs.map (·.1)).length = hs.length := List.length_map ..
 have hln2 : (hs.map (·.2)).length = hs.length := List.length_map ..
 rw [hln1] at Hrl
 rw [hln2] at Hr1
 try simp only [List.length_map]
 clear hrl T2 HT1 HL1 hbh1 hln1 hln2
 go_wp2_with fail
 go_loopw [2, 11] (fun v2 vi wr => ∃ (i : Nat) (a2 : Option Addr) (p2 : Nat) (lr lj : List Blk), i ≤ hs.length ∧ vi = .int .i64 i ∧ v2 = .slice a2 (lost 3 cs (hs.take i)).length p2 ∧ Row 60 5 a2 (lost 3 cs (hs.take i)).length p2 (brs (lost 3 cs (hs.take i))) lr ∧ Turn [] w (lr ++ (lj ++ (l2 ++ l1))) wr) (fun _ vi _ => hs.length - (intOf vi).toNat)
 case atStart => exact ⟨0, none, 0, [], [], Nat.zero_le _, by go_num, rfl, Row.nil _ _, HT2.out⟩
 case round =>
  clear HT2
  obtain ⟨i, a2, p2, lr, lj, hi, rfl, rfl, hr2, V⟩ := hrel
  by_cases hlt : i < hs.length
  · have hlt' : (i : Int) < (hs.length : Int) := by omega
    obtain ⟨x, hx⟩ : ∃ x, hs[i]? = some x := ⟨hs[i], List.getElem?_eq_getElem hlt⟩
    have hx2 := Hx.out i x hx
    have hle := Hle.out i
    have hsn := Hsn.out i x hx
    have h63 : (lost 3 cs (hs.take i)).length + 1 ≤ maxLen := by unfold maxLen; omega
    have hby : ((lost 3 cs (hs.take i)).length + 1) * 40 ≤ 140737488355328 := by omega
    have hS1 := Hr1.out.src (V.has.perm (l' := l1 ++ (lr ++ (lj ++ l2))) po)
    obtain ⟨b1, off1, rfl, hc1⟩ := hS1.form (by rw [n64s_length, List.length_map]; omega)
    have q1 := hc1 i _ (n64s_at (l := hs.map (·.2)) (v := x.2) (by rw [List.getElem?_map, hx]; rfl))
    have hS2 := Hrl.out.src (V.has.perm (l' := l2 ++ (lr ++ (lj ++ l1))) po)
    obtain ⟨b2, off2, rfl, hc2⟩ := hS2.form (by rw [n64s_length, List.length_map]; omega)
    have q2 := hc2 i _ (n64s_at (l := hs.map (·.1)) (v := x.1) (by rw [List.getElem?_map, hx]; rfl))
    have Hr2 := uh hr2
    have HL := uh (fun u (hk : Below wr.heap.size wr u) => (⟨HBl.out u (V.below.trans (hk.mono V.size)), (hk.cell (p := ⟨b1, off1 + i, none⟩) (World.block_lt_of_cell? wr _ q1)).trans q1⟩ : u.cell? ⟨bl, 0, none⟩ = some (.func (.func 78) #[] #[.pointer (some ⟨bs, 0, none⟩)]) ∧ u.cell? ⟨b1, off1 + i, none⟩ = some (.int .u64 x.2)))
    have hV := V
    have V := uh hV
    clear hr2 hV hx hS1 hS2 hc1 hc2
    go_wp2_with fail
    clear q1 q2
    refine wp_region_noPanic ?_
    have hS : Below wr.heap.size wr wr.drew := (Turn.refl (Has.nil wr)).drew.below
    refine wp_region_listed (S := fun u => Below wr.heap.size wr u) 7 [false, false, false, false, false, false, false] rfl rfl (by kernel_rfl) ?_
    generalize wr.drew = u0 at *
    refine tkB 0 16 hS (fun w hSw => (HL.out w hSw).1) ?_
    refine tkA 1 17 hS ?_
    refine tkA 2 18 hS ?_
    refine tkA 3 19 hS ?_
    refine tkB 4 20 hS (fun w hSw => (HL.out w hSw).2) ?_
    refine rdyA 5 (fun K hK => ?_)
    go_simp
    refine (Hal.out u0 (V.out.below.trans (hS.mono V.out.size)) x.2 hx2).mono ?_
    rintro e w4 ⟨rfl, hB4⟩
    have hB5 : Below wr.heap.size wr w4 := hS.trans (hB4.mono hS.size)
    have V4 := uh (V.out.call hB5)
    clear hB4 hS
    refine hK.out _ _ hB5 fun _ => ?_
    clear hK K
    simp only [st0, st1, st2]
    refine tkA 6 22 hB5 ?_
    refine wpAnyH_done (by kernel_rfl) ?_ _
    refine NoPanic.normal ?_
    clear hB5
    by_cases hlv : lives cs x.2 = true
    · rw [if_pos hlv, List.append_nil] at hsn
      have HSn := uh hsn
      rw [hlv]
      clear hsn hlv
      go_wp2_with fail
      go_roundw
      case rel => exact ⟨i + 1, a2, p2, lr, lj, by omega, by go_num, by rw [HSn.out], by rw [HSn.out]; exact Hr2.out, V4.out⟩
      case measure => simp [intOf]; omega
    · rw [if_neg hlv] at hsn
      have HSn := uh hsn
      rw [Bool.eq_false_iff.2 hlv]
      clear hsn hlv
      go_wp2_with (first
       | (at_builtin; have T6 := uh (V4.out.alloc (.cells #[.int .u8 3, .int .i64 0, .int .i64 0, .int .u64 x.1, .int .i64 0] 60)); refine wpList_append_row rfl _ _ rfl el_breach rfl Hr2.out (R := (w4.heap.size, .cells #[.int .u8 3, .int .i64 0, .int .i64 0, .int .u64 x.1, .int .i64 0] 60) :: (lj ++ (l2 ++ l1))) (T6.out.perm po).has rfl (news := [.int .u8 3, .int .i64 0, .int .i64 0, .int .u64 x.1, .int .i64 0]) rfl (news_of (heap_alloc_new _ _)) (by simp [Value.oneCell']) h63 hby ?_; intro a9 p9 l9 w8 hr9 V9 hno; have HV9 := uh ((T6.out.perm po).trans V9); have Hr9 := uh hr9; clear V9 hr9 hno)
       | fail)
      go_roundw
      case rel =>
       have hl1 : (lost 3 cs (hs.take (i + 1))).length = (lost 3 cs (hs.take i)).length + 1 := by rw [HSn.out]; simp
       refine ⟨i + 1, a9, p9, l9, _ :: lj, by omega, by go_num, by rw [hl1], ?_, HV9.out⟩
       rw [hl1, HSn.out, brs_append]
       exact Hr9.out
      case measure => simp [intOf]; omega
  · obtain rfl : i = hs.length := by omega
    have hnl : ¬ ((hs.length : Nat) : Int) < (hs.length : Int) := by omega
    rw [List.take_length] at hr2 ⊢
    have Hr2 := uh hr2
    have HV := uh V
    clear hr2 V
    go_wp2_with fail
    go_ret
    exact ⟨a2, p2, rfl, lr, Hr2.out, HV.out.sub (List.sublist_append_left ..)⟩
theorem cpins (w : World) (sb a aw tb bb : Nat) {W B : List Nat} (bo : Option Addr) (bcap : Nat) (tao : Option Addr) (tcap : Nat) (L : List Ty) (cs : List Ce) (hA : SbAt w sb a aw tb bb W B bo bcap tao tcap L) (hI : SdIn L W B cs) (bs bl bh : Nat) (p : Option Addr) (hs : List (Nat × Nat)) (hbs : w.cell? ⟨bs, 0, none⟩ = some (.pointer (some ⟨sb, 0, none⟩)))
  (hbl : w.cell? ⟨bl, 0, none⟩ = some (.func (.func 78) #[] #[.pointer (some ⟨bs, 0, none⟩)])) (hbh : w.cell? ⟨bh, 0, none⟩ = some (.pointer p)) (hx : ∀ x ∈ hs, x.2 < 18446744073709551616) (hln : hs.length ≤ 65536)
  (hLi : Tells 84 47 p w (hs.map (·.2))) (h12 : ∀ x ∈ hs, x.1 = x.2) :
  Calls Tryz.prog 83 #[.pointer (some ⟨bh, 0, none⟩), .pointer (some ⟨bl, 0, none⟩)] w fun e w' => ∃ ao cap l, e = .returned (.slice ao (lost 4 cs hs).length cap) ∧ Row 60 5 ao (lost 4 cs hs).length cap (brs (lost 4 cs hs)) l ∧ Turn [] w l w' := by
 have Hal := uh (fun w' (hk : Below w.heap.size w w') (v : Nat) (hv : v < 18446744073709551616) => alives w' sb a aw tb bb bo bcap tao tcap L cs (hA.below hk) hI bs ((hk.cell (p := ⟨bs, 0, none⟩) (World.block_lt_of_cell? w _ hbs)).trans hbs) v hv)
 have HBl := uh (fun w' (hk : Below w.heap.size w w') => (hk.cell (p := ⟨bl, 0, none⟩) (World.block_lt_of_cell? w _ hbl)).trans hbl)
 have HBh := uh (fun w' (hk : Below w.heap.size w w') => (hk.cell (p := ⟨bh, 0, none⟩) (World.block_lt_of_cell? w _ hbh)).trans hbh)
 have Hx := uh (fun (i : Nat) (x : Nat × Nat) (h : hs[i]? = some x) => hx x (List.mem_of_getElem? h))
 have Hsn := uh (fun (i : Nat) (x : Nat × Nat) (h : hs[i]? = some x) => lost_next (k := 4) (cs := cs) h)
 have Hle := uh (lost_le 4 cs hs)
 have HLi := uh (hLi w (Below.refl _ _))
 have H12 := uh (fun (i : Nat) (x : Nat × Nat) (h : hs[i]? = some x) => h12 x (List.mem_of_getElem? h))
 clear hA hI hbs hbl hx hLi h12
 go_enter Tryz.func83, Tryz.ntmps83
 go_wp2_with fail
 refine HLi.out.mono ?_
 rintro e w2 ⟨a3, p3, l1, rfl, hr1, T2⟩
 have Hr1 := uh hr1
 have HT2 := uh T2
 have hln2 : (hs.map (·.2)).length = hs.length := List.length_map ..
 rw [hln2] at Hr1
 try simp only [List.length_map]
 clear hr1 T2 HLi hbh hln2
 go_wp2_with fail
 go_loopw [2, 8] (fun v2 vi wr => ∃ (i : Nat) (a2 : Option Addr) (p2 : Nat) (lr lj : List Blk), i ≤ hs.length ∧ vi = .int .i64 i ∧ v2 = .slice a2 (lost 4 cs (hs.take i)).length p2 ∧ Row 60 5 a2 (lost 4 cs (hs.take i)).length p2 (brs (lost 4 cs (hs.take i))) lr ∧ Turn [] w (lr ++ (lj ++ l1)) wr) (fun _ vi _ => hs.length - (intOf vi).toNat)
 case atStart => exact ⟨0, none, 0, [], [], Nat.zero_le _, by go_num, rfl, Row.nil _ _, HT2.out⟩
 case round =>
  clear HT2
  obtain ⟨i, a2, p2, lr, lj, hi, rfl, rfl, hr2, V⟩ := hrel
  by_cases hlt : i < hs.length
  · have hlt' : (i : Int) < (hs.length : Int) := by omega
    obtain ⟨x, hx⟩ : ∃ x, hs[i]? = some x := ⟨hs[i], List.getElem?_eq_getElem hlt⟩
    have hx2 := Hx.out i x hx
    have hle := Hle.out i
    have hsn := Hsn.out i x hx
    have h63 : (lost 4 cs (hs.take i)).length + 1 ≤ maxLen := by unfold maxLen; omega
    have hby : ((lost 4 cs (hs.take i)).length + 1) * 40 ≤ 140737488355328 := by omega
    have hS1 := Hr1.out.src (V.has.perm (l' := l1 ++ (lr ++ (lj ++ []))) po)
    obtain ⟨b1, off1, rfl, hc1⟩ := hS1.form (by rw [n64s_length, List.length_map]; omega)
    have q1 := hc1 i _ (n64s_at (l := hs.map (·.2)) (v := x.2) (by rw [List.getElem?_map, hx]; rfl))
    have h12 := H12.out i x hx
    have Hr2 := uh hr2
    have HL := uh (fun u (hk : Below wr.heap.size wr u) => (⟨HBl.out u (V.below.trans (hk.mono V.size)), (hk.cell (p := ⟨b1, off1 + i, none⟩) (World.block_lt_of_cell? wr _ q1)).trans q1⟩ : u.cell? ⟨bl, 0, none⟩ = some (.func (.func 78) #[] #[.pointer (some ⟨bs, 0, none⟩)]) ∧ u.cell? ⟨b1, off1 + i, none⟩ = some (.int .u64 x.2)))
    have hV := V
    have V := uh hV
    clear hr2 hV hx hS1 hc1
    have ql := (HL.out wr (Below.refl _ _)).1
    have hsn2 : (4, 0, 0, x.1, 0) = ((4, 0, 0, x.2, 0) : Br) := by rw [h12]
    rw [hsn2] at hsn
    clear hsn2 h12
    go_wp2_with fail
    refine (Hal.out wr V.out.below x.2 hx2).mono ?_
    rintro e w4 ⟨rfl, hB4⟩
    have V4 := uh (V.out.call hB4)
    clear hB4 q1 ql V
    by_cases hlv : lives cs x.2 = true
    · rw [if_pos hlv, List.append_nil] at hsn
      have HSn := uh hsn
      rw [hlv]
      clear hsn hlv
      go_wp2_with fail
      go_roundw
      case rel => exact ⟨i + 1, a2, p2, lr, lj, by omega, by go_num, by rw [HSn.out], by rw [HSn.out]; exact Hr2.out, V4.out⟩
      case measure => simp [intOf]; omega
    · rw [if_neg hlv] at hsn
      have HSn := uh hsn
      rw [Bool.eq_false_iff.2 hlv]
      clear hsn hlv
      go_wp2_with (first
       | (at_builtin; have T6 := uh (V4.out.alloc (.cells #[.int .u8 4, .int .i64 0, .int .i64 0, .int .u64 x.2, .int .i64 0] 60)); refine wpList_append_row rfl _ _ rfl el_breach rfl Hr2.out (R := (w4.heap.size, .cells #[.int .u8 4, .int .i64 0, .int .i64 0, .int .u64 x.2, .int .i64 0] 60) :: (lj ++ l1)) (T6.out.perm po).has rfl (news := [.int .u8 4, .int .i64 0, .int .i64 0, .int .u64 x.2, .int .i64 0]) rfl (news_of (heap_alloc_new _ _)) (by simp [Value.oneCell']) h63 hby ?_; intro a9 p9 l9 w8 hr9 V9 hno; have HV9 := uh ((T6.out.perm po).trans V9); have Hr9 := uh hr9; clear V9 hr9 hno)
       | fail)
      go_roundw
      case rel =>
       have hl1 : (lost 4 cs (hs.take (i + 1))).length = (lost 4 cs (hs.take i)).length + 1 := by rw [HSn.out]; simp
       refine ⟨i + 1, a9, p9, l9, _ :: lj, by omega, by go_num, by rw [hl1], ?_, HV9.out⟩
       rw [hl1, HSn.out, brs_append]
       exact Hr9.out
      case measure => simp [intOf]; omega
  · obtain rfl : i = hs.length := by omega
    have hnl : ¬ ((hs.length : Nat) : Int) < (hs.length : Int) := by omega
    rw [List.take_length] at hr2 ⊢
    have Hr2 := uh hr2
    have HV := uh V
    clear hr2 V
    go_wp2_with fail
    go_ret
    exact ⟨a2, p2, rfl, lr, Hr2.out, HV.out.sub (List.sublist_append_left ..)⟩
theorem cweaks (w : World) (sb a aw tb bb : Nat) {W B : List Nat} (bo : Option Addr) (bcap : Nat) (tao : Option Addr) (tcap : Nat) (L : List Ty) (cs : List Ce) (hA : SbAt w sb a aw tb bb W B bo bcap tao tcap L) (hI : SdIn L W B cs) (bs bl bh : Nat) (p : Option Addr) (hs : List (Nat × Nat)) (hbs : w.cell? ⟨bs, 0, none⟩ = some (.pointer (some ⟨sb, 0, none⟩)))
  (hbl : w.cell? ⟨bl, 0, none⟩ = some (.func (.func 78) #[] #[.pointer (some ⟨bs, 0, none⟩)])) (hbh : w.cell? ⟨bh, 0, none⟩ = some (.pointer p)) (hx : ∀ x ∈ hs, x.2 < 18446744073709551616) (hln : hs.length ≤ 65536)
  (hR : Tells 87 47 p w (hs.map (·.2))) (hLi : Tells 86 86 p w (hs.map (·.1))) :
  Calls Tryz.prog 85 #[.pointer (some ⟨bh, 0, none⟩), .pointer (some ⟨bl, 0, none⟩)] w fun e w' => ∃ ao cap l, e = .returned (.slice ao (lostW cs hs).length cap) ∧ Row 60 5 ao (lostW cs hs).length cap (brs (lostW cs hs)) l ∧ Turn [] w l w' := by
 have Hal := uh (fun w' (hk : Below w.heap.size w w') (v : Nat) (hv : v < 18446744073709551616) => alives w' sb a aw tb bb bo bcap tao tcap L cs (hA.below hk) hI bs ((hk.cell (p := ⟨bs, 0, none⟩) (World.block_lt_of_cell? w _ hbs)).trans hbs) v hv)
 have HBl := uh (fun w' (hk : Below w.heap.size w w') => (hk.cell (p := ⟨bl, 0, none⟩) (World.block_lt_of_cell? w _ hbl)).trans hbl)
 have HBh := uh (fun w' (hk : Below w.heap.size w w') => (hk.cell (p := ⟨bh, 0, none⟩) (World.block_lt_of_cell? w _ hbh)).trans hbh)
 have Hx := uh (fun (i : Nat) (x : Nat × Nat) (h : hs[i]? = some x) => hx x (List.mem_of_getElem? h))
 have Hsn := uh (fun (i : Nat) (x : Nat × Nat) (h : hs[i]? = some x) => lostW_next (cs := cs) h)
 have Hle := uh (lostW_le cs hs)
 have HR := uh (hLi w (Below.refl _ _))
 have HLi := uh (fun w' (hk : Below w.heap.size w w') => hR w' hk)
 clear hA hI hbs hbl hx hR hLi
 go_enter Tryz.func85, Tryz.ntmps85
 go_wp2_with fail
 refine HR.out.mono ?_
 rintro e w1 ⟨a3, p3, l1, rfl, hr1, T1⟩
 have hbh1 := HBh.out w1 T1.below
 have HL1 := uh (HLi.out w1 T1.below)
 have Hr1 := uh hr1
 have HT1 := uh T1
 clear hr1 T1 HR HLi hbh
 go_wp2_with fail
 refine HL1.out.mono ?_
 rintro e w2 ⟨a9, p9, l2, rfl, hrl, T2⟩
 have Hrl := uh hrl
 have HT2 := uh (HT1.out.grow T2)
 have hln1 : (hs.map (·.1)).length = hs.length := List.length_map ..
 have hln2 : (hs.map (·.2)).length = hs.length := List.length_map ..
 rw [hln2] at Hrl
 rw [hln1] at Hr1
 try simp only [List.length_map]
 clear hrl T2 HT1 HL1 hbh1 hln1 hln2
 go_wp2_with fail
 go_loopw [2, 11] (fun v2 vi wr => ∃ (i : Nat) (a2 : Option Addr) (p2 : Nat) (lr lj : List Blk), i ≤ hs.length ∧ vi = .int .i64 i ∧ v2 = .slice a2 (lostW cs (hs.take i)).length p2 ∧ Row 60 5 a2 (lostW cs (hs.take i)).length p2 (brs (lostW cs (hs.take i))) lr ∧ Turn [] w (lr ++ (lj ++ (l2 ++ l1))) wr) (fun _ vi _ => hs.length - (intOf vi).toNat)
 case atStart => exact ⟨0, none, 0, [], [], Nat.zero_le _, by go_num, rfl, Row.nil _ _, HT2.out⟩
 case round =>
  clear HT2
  obtain ⟨i, a2, p2, lr, lj, hi, rfl, rfl, hr2, V⟩ := hrel
  by_cases hlt : i < hs.length
  · have hlt' : (i : Int) < (hs.length : Int) := by omega
    obtain ⟨x, hx⟩ : ∃ x, hs[i]? = some x := ⟨hs[i], List.getElem?_eq_getElem hlt⟩
    have hx2 := Hx.out i x hx
    have hle := Hle.out i
    have hsn := Hsn.out i x hx
    have h63 : (lostW cs (hs.take i)).length + 1 ≤ maxLen := by unfold maxLen; omega
    have hby : ((lostW cs (hs.take i)).length + 1) * 40 ≤ 140737488355328 := by omega
    have hS1 := Hr1.out.src (V.has.perm (l' := l1 ++ (lr ++ (lj ++ l2))) po)
    obtain ⟨b1, off1, rfl, hc1⟩ := hS1.form (by rw [n64s_length, List.length_map]; omega)
    have q1 := hc1 i _ (n64s_at (l := hs.map (·.1)) (v := x.1) (by rw [List.getElem?_map, hx]; rfl))
    have hS2 := Hrl.out.src (V.has.perm (l' := l2 ++ (lr ++ (lj ++ l1))) po)
    obtain ⟨b2, off2, rfl, hc2⟩ := hS2.form (by rw [n64s_length, List.length_map]; omega)
    have q2 := hc2 i _ (n64s_at (l := hs.map (·.2)) (v := x.2) (by rw [List.getElem?_map, hx]; rfl))
    have Hr2 := uh hr2
    have HL := uh (fun u (hk : Below wr.heap.size wr u) => (⟨HBl.out u (V.below.trans (hk.mono V.size)), (hk.cell (p := ⟨b1, off1 + i, none⟩) (World.block_lt_of_cell? wr _ q1)).trans q1⟩ : u.cell? ⟨bl, 0, none⟩ = some (.func (.func 78) #[] #[.pointer (some ⟨bs, 0, none⟩)]) ∧ u.cell? ⟨b1, off1 + i, none⟩ = some (.int .u64 x.1)))
    have hV := V
    have V := uh hV
    clear hr2 hV hS1 hS2 hc1 hc2
    have ql := (HL.out wr (Below.refl _ _)).1
    have HQ2 := uh (fun u (hk : Below wr.heap.size wr u) => (HL.out u hk).2)
    clear q1 hx
    by_cases h0 : x.2 = 0
    · have h0z : ((x.2 : Nat) : Int) = 0 := by omega
      rw [if_pos (Or.inl h0), List.append_nil] at hsn
      have HSn := uh hsn
      clear hsn h0
      go_wp2_with fail
      go_roundw
      case rel => exact ⟨i + 1, a2, p2, lr, lj, by omega, by go_num, by rw [HSn.out], by rw [HSn.out]; exact Hr2.out, V.out⟩
      case measure => simp [intOf]; omega
    · have h0z : ¬ ((x.2 : Nat) : Int) = 0 := by omega
      go_wp2_with fail
      refine (Hal.out wr V.out.below x.2 hx2).mono ?_
      rintro e w4 ⟨rfl, hB4⟩
      have V4 := uh (V.out.call hB4)
      have q4 := HQ2.out w4 hB4
      clear hB4 q2 ql V HQ2
      by_cases hlv : lives cs x.2 = true
      · rw [if_pos (Or.inr hlv), List.append_nil] at hsn
        have HSn := uh hsn
        rw [hlv]
        clear hsn hlv
        go_wp2_with fail
        go_roundw
        case rel => exact ⟨i + 1, a2, p2, lr, lj, by omega, by go_num, by rw [HSn.out], by rw [HSn.out]; exact Hr2.out, V4.out⟩
        case measure => simp [intOf]; omega
      · rw [if_neg (fun h => h.elim h0 hlv)] at hsn
        have HSn := uh hsn
        rw [Bool.eq_false_iff.2 hlv]
        clear hsn hlv
        go_wp2_with (first
         | (at_builtin; have T6 := uh (V4.out.alloc (.cells #[.int .u8 5, .int .i64 0, .int .i64 0, .int .u64 x.1, .int .i64 0] 60)); refine wpList_append_row rfl _ _ rfl el_breach rfl Hr2.out (R := (w4.heap.size, .cells #[.int .u8 5, .int .i64 0, .int .i64 0, .int .u64 x.1, .int .i64 0] 60) :: (lj ++ (l2 ++ l1))) (T6.out.perm po).has rfl (news := [.int .u8 5, .int .i64 0, .int .i64 0, .int .u64 x.1, .int .i64 0]) rfl (news_of (heap_alloc_new _ _)) (by simp [Value.oneCell']) h63 hby ?_; intro a9 p9 l9 w8 hr9 V9 hno; have HV9 := uh ((T6.out.perm po).trans V9); have Hr9 := uh hr9; clear V9 hr9 hno)
         | fail)
        go_roundw
        case rel =>
         have hl1 : (lostW cs (hs.take (i + 1))).length = (lostW cs (hs.take i)).length + 1 := by rw [HSn.out]; simp
         refine ⟨i + 1, a9, p9, l9, _ :: lj, by omega, by go_num, by rw [hl1], ?_, HV9.out⟩
         rw [hl1, HSn.out, brs_append]
         exact Hr9.out
        case measure => simp [intOf]; omega
  · obtain rfl : i = hs.length := by omega
    have hnl : ¬ ((hs.length : Nat) : Int) < (hs.length : Int) := by omega
    rw [List.take_length] at hr2 ⊢
    have Hr2 := uh hr2
    have HV := uh V
    clear hr2 V
    go_wp2_with fail
    go_ret
    exact ⟨a2, p2, rfl, lr, Hr2.out, HV.out.sub (List.sublist_append_left ..)⟩
theorem cblack (w : World) (bs bh : Nat) (hbh : w.cell? ⟨bh, 0, none⟩ = some (.pointer none)) :
  Calls Tryz.prog 88 #[.pointer (some ⟨bh, 0, none⟩), .pointer (some ⟨bs, 0, none⟩)] w fun e w' => e = .returned (.slice none 0 0) ∧ Below w.heap.size w w' := by
 go_enter Tryz.func88, Tryz.ntmps88
 go_wp2_with fail
 go_quiet (fail)
 go_wp2_with fail
 go_ret
 exact ⟨rfl, below_drewN (Below.refl _ _) _⟩
theorem cblack2 (w : World) (bs bh : Nat) (hbh : w.cell? ⟨bh, 0, none⟩ = some (.pointer none)) :
  Calls Tryz.prog 88 #[.pointer (some ⟨bh, 0, none⟩), .pointer (some ⟨bs, 0, none⟩)] w fun e w' => ∃ ao cap l, e = .returned (.slice ao ([] : List Br).length cap) ∧ Row 60 5 ao ([] : List Br).length cap (brs []) l ∧ Turn [] w l w' := by
 refine (cblack w bs bh hbh).mono ?_
 rintro e w' ⟨rfl, hB⟩
 exact ⟨none, 0, [], rfl, Row.nil _ _, Turn.of_below (Has.nil w) hB⟩
def wrongs (L : List Ty) (W : List Nat) (cs : List Ce) (hh hp hw : List (Nat × Nat)) : List Br := (badsOf L W cs).map refBr ++ (lost 3 cs hh ++ (lost 4 cs hp ++ lostW cs hw))
theorem lost_len (k : Nat) (cs : List Ce) (l : List (Nat × Nat)) : (lost k cs l).length ≤ l.length := by have h := lost_le k cs l l.length; rwa [List.take_length] at h
theorem lostW_len (cs : List Ce) (l : List (Nat × Nat)) : (lostW cs l).length ≤ l.length := by have h := lostW_le cs l l.length; rwa [List.take_length] at h
def parts (E A B C : List Br) : Nat → List Br
 | 0 => E
 | 1 => E ++ A
 | 2 => E ++ (A ++ B)
 | _ => E ++ (A ++ (B ++ C))
theorem parts_0 (E A B C : List Br) : parts E A B C 1 = parts E A B C 0 ++ A := rfl
theorem parts_1 (E A B C : List Br) : parts E A B C 2 = parts E A B C 1 ++ B := by simp [parts]
theorem parts_2 (E A B C : List Br) : parts E A B C 3 = parts E A B C 2 ++ C := by simp [parts]
theorem parts_3 (E A B C : List Br) : parts E A B C 4 = parts E A B C 3 ++ [] := by simp [parts]
theorem parts_len (E A B C : List Br) (i : Nat) : (parts E A B C i).length ≤ E.length + (A.length + (B.length + C.length)) := by
 match i with
 | 0 | 1 | 2 | i + 3 => simp [parts] <;> omega
theorem sames_no (m : Nat) : decide (1 ∈ sames m 2) = false := by
 unfold sames
 rw [decide_eq_false_iff_not, List.mem_replicate]
 omega
theorem aof (w : World) (sb a aw tb bb : Nat) {W B : List Nat} (bo : Option Addr) (bcap : Nat) (tao : Option Addr) (tcap : Nat) (L : List Ty) (cs : List Ce) (hA : SbAt w sb a aw tb bb W B bo bcap tao tcap L) (hI : SdIn L W B cs) (hN : noTouch cs)
  (ph pw pp : Option Addr) (hh hw hp : List (Nat × Nat)) (hxh : ∀ x ∈ hh, x.2 < 18446744073709551616) (hxw : ∀ x ∈ hw, x.2 < 18446744073709551616) (hxp : ∀ x ∈ hp, x.2 < 18446744073709551616) (hlh : hh.length ≤ 65536) (hlw : hw.length ≤ 65536) (hlp : hp.length ≤ 65536) (h12 : ∀ x ∈ hp, x.1 = x.2)
  (hT1 : Tells 81 47 ph w (hh.map (·.2))) (hT2 : Tells 82 83 ph w (hh.map (·.1))) (hT3 : Tells 84 47 pp w (hp.map (·.2)))
  (hT4 : Tells 87 47 pw w (hw.map (·.2))) (hT5 : Tells 86 86 pw w (hw.map (·.1))) :
  Calls Tryz.prog 25 #[.pointer (some ⟨sb, 0, none⟩), .pointer ph, .pointer pw, .pointer pp, .pointer none] w fun e w' => ∃ ao cap l, e = .returned (.tuple #[.slice ao (wrongs L W cs hh hp hw).length cap, .int .i64 0]) ∧ Row 60 5 ao (wrongs L W cs hh hp hw).length cap (brs (wrongs L W cs hh hp hw)) l ∧ Turn [] w l w' := by
 have Hce := uh (fun w' (hk : Below w.heap.size w w') => acells w' sb a aw tb bb bo bcap tao tcap L cs (hA.below hk) hI)
 have Hga := uh (fun w' (hk : Below w.heap.size w w') => agaps w' sb a aw tb tao tcap L (hA.below hk).sp hI.few hI.u64 hI.ty hI.lt cs hI.chain hN)
 have Hki := uh (fun w' ao cap (hS : Src w' ao ((badsOf L W cs).map refBr).length cap 5 (brs ((badsOf L W cs).map refBr))) => akinds w' ((badsOf L W cs).map refBr) 2 (fun b hb => by obtain ⟨x, -, rfl⟩ := List.mem_map.1 hb; rfl) ao cap hS (by rw [List.length_map]; exact bads_len hI))
 have Hch := uh (fun w' (hk : Below w.heap.size w w') bs bl bh hbs hbl hbh => chands w' sb a aw tb bb bo bcap tao tcap L cs (hA.below hk) hI bs bl bh ph hh hbs hbl hbh hxh hlh (hT1.below hk) (hT2.below hk))
 have Hcp := uh (fun w' (hk : Below w.heap.size w w') bs bl bh hbs hbl hbh => cpins w' sb a aw tb bb bo bcap tao tcap L cs (hA.below hk) hI bs bl bh pp hp hbs hbl hbh hxp hlp (hT3.below hk) h12)
 have Hcw := uh (fun w' (hk : Below w.heap.size w w') bs bl bh hbs hbl hbh => cweaks w' sb a aw tb bb bo bcap tao tcap L cs (hA.below hk) hI bs bl bh pw hw hbs hbl hbh hxw hlw (hT4.below hk) (hT5.below hk))
 have hbl := bads_len hI
 have hl1 := lost_len 3 cs hh
 have hl2 := lost_len 4 cs hp
 have hl3 := lostW_len cs hw
 have hml : ((badsOf L W cs).map refBr).length = (badsOf L W cs).length := List.length_map ..
 unfold wrongs
 rw [← hml] at hbl Hce
 obtain ⟨E, hE⟩ : ∃ E, (badsOf L W cs).map refBr = E := ⟨_, rfl⟩
 obtain ⟨A1, hA1⟩ : ∃ A, lost 3 cs hh = A := ⟨_, rfl⟩
 obtain ⟨A2, hA2⟩ : ∃ A, lost 4 cs hp = A := ⟨_, rfl⟩
 obtain ⟨A3, hA3⟩ : ∃ A, lostW cs hw = A := ⟨_, rfl⟩
 rw [hE] at Hce Hki hbl ⊢
 rw [hA1] at Hch hl1 ⊢
 rw [hA2] at Hcp hl2 ⊢
 rw [hA3] at Hcw hl3 ⊢
 clear hml hE hA1 hA2 hA3 hA hI hN hxh hxw hxp h12 hT1 hT2 hT3 hT4 hT5
 have T0 := (((((Turn.refl (Has.nil w)).alloc (.cells #[.pointer (some ⟨sb, 0, none⟩)] 26)).alloc (.cells #[.pointer ph] 73)).alloc (.cells #[.pointer pw] 68)).alloc (.cells #[.pointer pp] 74)).alloc (.cells #[.pointer none] 103)
 simp only [World.size_alloc] at T0
 go_enter Tryz.func25, Tryz.ntmps25
 have q5 := T0.has.cell (b := w.heap.size) (c := #[.pointer (some ⟨sb, 0, none⟩)]) (e := 26) (f := (0, 0)) (by simp) 0
 have HT0 := uh T0
 have Hce2 := uh (Hce.out _ T0.below)
 clear T0
 go_wp2_with fail
 generalize ((((w.alloc (.cells #[.pointer (some ⟨sb, 0, none⟩)] 26)).alloc (.cells #[.pointer ph] 73)).alloc (.cells #[.pointer pw] 68)).alloc (.cells #[.pointer pp] 74)).alloc (.cells #[.pointer none] 103) = W0 at *
 obtain ⟨n0, hn0⟩ : ∃ n0, w.heap.size = n0 := ⟨_, rfl⟩
 rw [hn0] at HT0 q5 ⊢
 refine Hce2.out.mono ?_
 rintro e w1 ⟨ao, cap, lc, rfl, hrow, T1⟩
 have HT1 := uh (HT0.out.grow T1)
 have Hrow := uh hrow
 have Hk := uh (Hki.out w1 ao cap (hrow.src (R := []) (by rw [List.append_nil]; exact T1.has)))
 have HB1 := uh (T1.below.cell (p := ⟨n0, 0, none⟩) (World.block_lt_of_cell? W0 _ q5) |>.trans q5)
 clear hrow T1 HT0 Hce2 Hce Hki q5
 go_wp2_with fail
 refine Hk.out.mono ?_
 rintro e w2 ⟨m, a2, p2, lk, hm, rfl, hs2, T2⟩
 have Hct := uh (contains8 w2 (sames m 2) a2 p2 (by have h := hs2; unfold sames; rw [List.length_replicate]; exact h) (by unfold sames; rw [List.length_replicate]; omega) 1)
 rw [sames_no, show (sames m 2).length = m from by unfold sames; exact List.length_replicate ..] at Hct
 have q5 := (T2.below.cell (p := ⟨n0, 0, none⟩) (World.block_lt_of_cell? w1 _ HB1.out)).trans HB1.out
 have HT2 := uh (HT1.out.grow T2)
 have Hg := uh (Hga.out w2 HT2.out.below)
 clear hs2 T2 HT1 Hk Hga HB1
 go_wp2_with (first
  | (go_at_call 76; refine Hct.out.mono ?_; rintro e w' ⟨rfl, hw⟩; rw [hw]; clear hw w')
  | fail)
 refine Hg.out.mono ?_
 rintro e w3 ⟨rfl, hB3⟩
 have HT3 := uh (HT2.out.call hB3)
 clear hB3 HT2 Hg Hct q5
 go_wp2_with (first
  | (at_builtin; refine wpList_append_src rfl _ _ rfl el_breach rfl rfl Hrow.out (R := lk ++ [(n0 + 1 + 1 + 1 + 1, .cells #[.pointer none] 103), (n0 + 1 + 1 + 1, .cells #[.pointer pp] 74), (n0 + 1 + 1, .cells #[.pointer pw] 68), (n0 + 1, .cells #[.pointer ph] 73), (n0, .cells #[.pointer (some ⟨sb, 0, none⟩)] 26)]) (HT3.out.perm po).has (news := []) ⟨rfl, fun _ => ⟨rfl, rfl⟩, fun ad h => by cases h⟩ (fun u hu => by cases hu) (by unfold maxLen; omega) (by omega) ?_; intro a9 p9 l9 w4 hr9 V9; have HV9 := uh ((HT3.out.perm po).trans V9); have Hr9 := uh hr9; clear V9 hr9 HT3)
  | fail)
 -- four
 have T5 : Turn [] w ((w4.heap.size + 1, .cells #[.func (.func 80) #[] #[.pointer (some ⟨n0 + 1, 0, none⟩), .pointer (some ⟨w4.heap.size, 0, none⟩)], .func (.func 83) #[] #[.pointer (some ⟨n0 + 1 + 1 + 1, 0, none⟩), .pointer (some ⟨w4.heap.size, 0, none⟩)], .func (.func 85) #[] #[.pointer (some ⟨n0 + 1 + 1, 0, none⟩), .pointer (some ⟨w4.heap.size, 0, none⟩)], .func (.func 88) #[] #[.pointer (some ⟨n0 + 1 + 1 + 1 + 1, 0, none⟩), .pointer (some ⟨n0, 0, none⟩)]] 167) :: (w4.heap.size, .cells #[.func (.func 78) #[] #[.pointer (some ⟨n0, 0, none⟩)]] 163) :: (l9 ++ (lk ++ [(n0 + 1 + 1 + 1 + 1, .cells #[.pointer none] 103), (n0 + 1 + 1 + 1, .cells #[.pointer pp] 74), (n0 + 1 + 1, .cells #[.pointer pw] 68), (n0 + 1, .cells #[.pointer ph] 73), (n0, .cells #[.pointer (some ⟨sb, 0, none⟩)] 26)]))) ((w4.alloc (.cells #[.func (.func 78) #[] #[.pointer (some ⟨n0, 0, none⟩)]] 163)).alloc (.cells #[.func (.func 80) #[] #[.pointer (some ⟨n0 + 1, 0, none⟩), .pointer (some ⟨w4.heap.size, 0, none⟩)], .func (.func 83) #[] #[.pointer (some ⟨n0 + 1 + 1 + 1, 0, none⟩), .pointer (some ⟨w4.heap.size, 0, none⟩)], .func (.func 85) #[] #[.pointer (some ⟨n0 + 1 + 1, 0, none⟩), .pointer (some ⟨w4.heap.size, 0, none⟩)], .func (.func 88) #[] #[.pointer (some ⟨n0 + 1 + 1 + 1 + 1, 0, none⟩), .pointer (some ⟨n0, 0, none⟩)]] 167)) := by
  have h := (HV9.out.alloc (.cells #[.func (.func 78) #[] #[.pointer (some ⟨n0, 0, none⟩)]] 163)).alloc (.cells #[.func (.func 80) #[] #[.pointer (some ⟨n0 + 1, 0, none⟩), .pointer (some ⟨w4.heap.size, 0, none⟩)], .func (.func 83) #[] #[.pointer (some ⟨n0 + 1 + 1 + 1, 0, none⟩), .pointer (some ⟨w4.heap.size, 0, none⟩)], .func (.func 85) #[] #[.pointer (some ⟨n0 + 1 + 1, 0, none⟩), .pointer (some ⟨w4.heap.size, 0, none⟩)], .func (.func 88) #[] #[.pointer (some ⟨n0 + 1 + 1 + 1 + 1, 0, none⟩), .pointer (some ⟨n0, 0, none⟩)]] 167)
  simp only [World.size_alloc] at h
  exact h
 generalize (w4.alloc (.cells #[.func (.func 78) #[] #[.pointer (some ⟨n0, 0, none⟩)]] 163)).alloc (.cells #[.func (.func 80) #[] #[.pointer (some ⟨n0 + 1, 0, none⟩), .pointer (some ⟨w4.heap.size, 0, none⟩)], .func (.func 83) #[] #[.pointer (some ⟨n0 + 1 + 1 + 1, 0, none⟩), .pointer (some ⟨w4.heap.size, 0, none⟩)], .func (.func 85) #[] #[.pointer (some ⟨n0 + 1 + 1, 0, none⟩), .pointer (some ⟨w4.heap.size, 0, none⟩)], .func (.func 88) #[] #[.pointer (some ⟨n0 + 1 + 1 + 1 + 1, 0, none⟩), .pointer (some ⟨n0, 0, none⟩)]] 167) = W5 at *
 generalize w4.heap.size = bl at *
 have Hr0 := Hr9.out
 rw [List.append_nil] at Hr0
 have HR0 := uh Hr0
 obtain ⟨RS, hRS⟩ : ∃ RS : List Blk, RS = ((bl + 1, .cells #[.func (.func 80) #[] #[.pointer (some ⟨n0 + 1, 0, none⟩), .pointer (some ⟨bl, 0, none⟩)], .func (.func 83) #[] #[.pointer (some ⟨n0 + 1 + 1 + 1, 0, none⟩), .pointer (some ⟨bl, 0, none⟩)], .func (.func 85) #[] #[.pointer (some ⟨n0 + 1 + 1, 0, none⟩), .pointer (some ⟨bl, 0, none⟩)], .func (.func 88) #[] #[.pointer (some ⟨n0 + 1 + 1 + 1 + 1, 0, none⟩), .pointer (some ⟨n0, 0, none⟩)]] 167) :: (bl, .cells #[.func (.func 78) #[] #[.pointer (some ⟨n0, 0, none⟩)]] 163) :: [(n0 + 1 + 1 + 1 + 1, .cells #[.pointer none] 103), (n0 + 1 + 1 + 1, .cells #[.pointer pp] 74), (n0 + 1 + 1, .cells #[.pointer pw] 68), (n0 + 1, .cells #[.pointer ph] 73), (n0, .cells #[.pointer (some ⟨sb, 0, none⟩)] 26)]) := ⟨_, rfl⟩
 have HRS := uh hRS
 have HT5 := uh (T5.perm (l2 := l9 ++ (lk ++ RS)) (perm_of fun c => by rw [hRS]; simp <;> omega))
 clear hRS
 clear Hr0 T5 HV9 Hr9
 go_loopw [12, 50] (fun v12 v50 wr => ∃ (i : Nat) (a2 : Option Addr) (p2 : Nat) (lr lj : List Blk), i ≤ 4 ∧ v50 = .int .i64 i ∧ v12 = .slice a2 (parts E A1 A2 A3 i).length p2 ∧ Row 60 5 a2 (parts E A1 A2 A3 i).length p2 (brs (parts E A1 A2 A3 i)) lr ∧ Turn [] w (lr ++ (lj ++ RS)) wr) (fun _ v50 _ => 4 - (intOf v50).toNat)
 case atStart => exact ⟨0, a9, p9, l9, lk, by omega, by go_num, rfl, HR0.out, HT5.out⟩
 case round =>
  clear HT5 HR0
  obtain ⟨i, a2, p2, lr, lj, hi, rfl, rfl, hr2, V⟩ := hrel
  have Hr2 := uh hr2
  have hq0 : wr.cell? ⟨n0, 0, none⟩ = some (.pointer (some ⟨sb, 0, none⟩)) := V.has.cell (b := n0) (c := #[.pointer (some ⟨sb, 0, none⟩)]) (e := 26) (f := (0, 0)) (by rw [HRS.out]; simp) 0
  have hqb : wr.cell? ⟨bl, 0, none⟩ = some (.func (.func 78) #[] #[.pointer (some ⟨n0, 0, none⟩)]) := V.has.cell (b := bl) (c := #[.func (.func 78) #[] #[.pointer (some ⟨n0, 0, none⟩)]]) (e := 163) (f := (0, 0)) (by rw [HRS.out]; simp) 0
  have hqh : wr.cell? ⟨n0 + 1, 0, none⟩ = some (.pointer ph) := V.has.cell (b := n0 + 1) (c := #[.pointer ph]) (e := 73) (f := (0, 0)) (by rw [HRS.out]; simp) 0
  have hqw : wr.cell? ⟨n0 + 1 + 1, 0, none⟩ = some (.pointer pw) := V.has.cell (b := n0 + 1 + 1) (c := #[.pointer pw]) (e := 68) (f := (0, 0)) (by rw [HRS.out]; simp) 0
  have hqp : wr.cell? ⟨n0 + 1 + 1 + 1, 0, none⟩ = some (.pointer pp) := V.has.cell (b := n0 + 1 + 1 + 1) (c := #[.pointer pp]) (e := 74) (f := (0, 0)) (by rw [HRS.out]; simp) 0
  have hqk : wr.cell? ⟨n0 + 1 + 1 + 1 + 1, 0, none⟩ = some (.pointer none) := V.has.cell (b := n0 + 1 + 1 + 1 + 1) (c := #[.pointer none]) (e := 103) (f := (0, 0)) (by rw [HRS.out]; simp) 0
  have Hh := uh (Hch.out wr V.below n0 bl (n0 + 1) hq0 hqb hqh)
  have Hp := uh (Hcp.out wr V.below n0 bl (n0 + 1 + 1 + 1) hq0 hqb hqp)
  have Hw := uh (Hcw.out wr V.below n0 bl (n0 + 1 + 1) hq0 hqb hqw)
  have Hb := uh (cblack2 wr n0 (n0 + 1 + 1 + 1 + 1) hqk)
  have hpl := parts_len E A1 A2 A3 i
  clear hr2 hq0 hqb hqh hqw hqp hqk
  obtain rfl | rfl | rfl | rfl | rfl : i = 0 ∨ i = 1 ∨ i = 2 ∨ i = 3 ∨ i = 4 := by omega
  · have q : wr.cell? ⟨bl + 1, 0, none⟩ = some (.func (.func 80) #[] #[.pointer (some ⟨n0 + 1, 0, none⟩), .pointer (some ⟨bl, 0, none⟩)]) := V.has.cell (b := bl + 1) (c := #[.func (.func 80) #[] #[.pointer (some ⟨n0 + 1, 0, none⟩), .pointer (some ⟨bl, 0, none⟩)], .func (.func 83) #[] #[.pointer (some ⟨n0 + 1 + 1 + 1, 0, none⟩), .pointer (some ⟨bl, 0, none⟩)], .func (.func 85) #[] #[.pointer (some ⟨n0 + 1 + 1, 0, none⟩), .pointer (some ⟨bl, 0, none⟩)], .func (.func 88) #[] #[.pointer (some ⟨n0 + 1 + 1 + 1 + 1, 0, none⟩), .pointer (some ⟨n0, 0, none⟩)]]) (e := 167) (f := (0, 0)) (by rw [HRS.out]; simp) 0
    have HP := uh (parts_0 E A1 A2 A3)
    have HV := uh V
    generalize parts E A1 A2 A3 0 = P at *
    clear V
    go_wp2_with fail
    refine Hh.out.mono ?_
    rintro e w5 ⟨a5, p5, l5, rfl, hr5, T5⟩
    have HV5 := uh (HV.out.grow T5)
    have h63 : P.length + A1.length ≤ maxLen := by unfold maxLen; omega
    have hby : (P.length + A1.length) * 40 ≤ 140737488355328 := by omega
    have HS5 := uh (hr5.src HV5.out.has)
    clear hr5 T5 HV q Hh Hp Hw Hb
    go_wp2_with (first
     | (at_builtin; refine wpList_append_src rfl _ _ rfl el_breach rfl rfl Hr2.out (R := l5 ++ (lj ++ RS)) (HV5.out.perm po).has HS5.out (brs_one _) h63 hby ?_; intro a9 p9 l9 w8 hr9 V9; have HV9 := uh ((HV5.out.perm po).trans V9); have Hr9 := uh hr9; clear V9 hr9)
     | fail)
    go_roundw
    case rel =>
     refine ⟨1, a9, p9, l9, l5 ++ lj, by omega, by go_num, by rw [HP.out, List.length_append] <;> rfl, ?_, ?_⟩
     · rw [HP.out, List.length_append, brs_append]
       exact Hr9.out
     · rw [List.append_assoc]
       exact HV9.out
    case measure => simp [intOf]
  · have q : wr.cell? ⟨bl + 1, 1, none⟩ = some (.func (.func 83) #[] #[.pointer (some ⟨n0 + 1 + 1 + 1, 0, none⟩), .pointer (some ⟨bl, 0, none⟩)]) := V.has.cell (b := bl + 1) (c := #[.func (.func 80) #[] #[.pointer (some ⟨n0 + 1, 0, none⟩), .pointer (some ⟨bl, 0, none⟩)], .func (.func 83) #[] #[.pointer (some ⟨n0 + 1 + 1 + 1, 0, none⟩), .pointer (some ⟨bl, 0, none⟩)], .func (.func 85) #[] #[.pointer (some ⟨n0 + 1 + 1, 0, none⟩), .pointer (some ⟨bl, 0, none⟩)], .func (.func 88) #[] #[.pointer (some ⟨n0 + 1 + 1 + 1 + 1, 0, none⟩), .pointer (some ⟨n0, 0, none⟩)]]) (e := 167) (f := (0, 0)) (by rw [HRS.out]; simp) 1
    have HP := uh (parts_1 E A1 A2 A3)
    have HV := uh V
    generalize parts E A1 A2 A3 1 = P at *
    clear V
    go_wp2_with fail
    refine Hp.out.mono ?_
    rintro e w5 ⟨a5, p5, l5, rfl, hr5, T5⟩
    have HV5 := uh (HV.out.grow T5)
    have h63 : P.length + A2.length ≤ maxLen := by unfold maxLen; omega
    have hby : (P.length + A2.length) * 40 ≤ 140737488355328 := by omega
    have HS5 := uh (hr5.src HV5.out.has)
    clear hr5 T5 HV q Hh Hp Hw Hb
    go_wp2_with (first
     | (at_builtin; refine wpList_append_src rfl _ _ rfl el_breach rfl rfl Hr2.out (R := l5 ++ (lj ++ RS)) (HV5.out.perm po).has HS5.out (brs_one _) h63 hby ?_; intro a9 p9 l9 w8 hr9 V9; have HV9 := uh ((HV5.out.perm po).trans V9); have Hr9 := uh hr9; clear V9 hr9)
     | fail)
    go_roundw
    case rel =>
     refine ⟨2, a9, p9, l9, l5 ++ lj, by omega, by go_num, by rw [HP.out, List.length_append] <;> rfl, ?_, ?_⟩
     · rw [HP.out, List.length_append, brs_append]
       exact Hr9.out
     · rw [List.append_assoc]
       exact HV9.out
    case measure => simp [intOf]
  · have q : wr.cell? ⟨bl + 1, 2, none⟩ = some (.func (.func 85) #[] #[.pointer (some ⟨n0 + 1 + 1, 0, none⟩), .pointer (some ⟨bl, 0, none⟩)]) := V.has.cell (b := bl + 1) (c := #[.func (.func 80) #[] #[.pointer (some ⟨n0 + 1, 0, none⟩), .pointer (some ⟨bl, 0, none⟩)], .func (.func 83) #[] #[.pointer (some ⟨n0 + 1 + 1 + 1, 0, none⟩), .pointer (some ⟨bl, 0, none⟩)], .func (.func 85) #[] #[.pointer (some ⟨n0 + 1 + 1, 0, none⟩), .pointer (some ⟨bl, 0, none⟩)], .func (.func 88) #[] #[.pointer (some ⟨n0 + 1 + 1 + 1 + 1, 0, none⟩), .pointer (some ⟨n0, 0, none⟩)]]) (e := 167) (f := (0, 0)) (by rw [HRS.out]; simp) 2
    have HP := uh (parts_2 E A1 A2 A3)
    have HV := uh V
    generalize parts E A1 A2 A3 2 = P at *
    clear V
    go_wp2_with fail
    refine Hw.out.mono ?_
    rintro e w5 ⟨a5, p5, l5, rfl, hr5, T5⟩
    have HV5 := uh (HV.out.grow T5)
    have h63 : P.length + A3.length ≤ maxLen := by unfold maxLen; omega
    have hby : (P.length + A3.length) * 40 ≤ 140737488355328 := by omega
    have HS5 := uh (hr5.src HV5.out.has)
    clear hr5 T5 HV q Hh Hp Hw Hb
    go_wp2_with (first
     | (at_builtin; refine wpList_append_src rfl _ _ rfl el_breach rfl rfl Hr2.out (R := l5 ++ (lj ++ RS)) (HV5.out.perm po).has HS5.out (brs_one _) h63 hby ?_; intro a9 p9 l9 w8 hr9 V9; have HV9 := uh ((HV5.out.perm po).trans V9); have Hr9 := uh hr9; clear V9 hr9)
     | fail)
    go_roundw
    case rel =>
     refine ⟨3, a9, p9, l9, l5 ++ lj, by omega, by go_num, by rw [HP.out, List.length_append] <;> rfl, ?_, ?_⟩
     · rw [HP.out, List.length_append, brs_append]
       exact Hr9.out
     · rw [List.append_assoc]
       exact HV9.out
    case measure => simp [intOf]
  · have q : wr.cell? ⟨bl + 1, 3, none⟩ = some (.func (.func 88) #[] #[.pointer (some ⟨n0 + 1 + 1 + 1 + 1, 0, none⟩), .pointer (some ⟨n0, 0, none⟩)]) := V.has.cell (b := bl + 1) (c := #[.func (.func 80) #[] #[.pointer (some ⟨n0 + 1, 0, none⟩), .pointer (some ⟨bl, 0, none⟩)], .func (.func 83) #[] #[.pointer (some ⟨n0 + 1 + 1 + 1, 0, none⟩), .pointer (some ⟨bl, 0, none⟩)], .func (.func 85) #[] #[.pointer (some ⟨n0 + 1 + 1, 0, none⟩), .pointer (some ⟨bl, 0, none⟩)], .func (.func 88) #[] #[.pointer (some ⟨n0 + 1 + 1 + 1 + 1, 0, none⟩), .pointer (some ⟨n0, 0, none⟩)]]) (e := 167) (f := (0, 0)) (by rw [HRS.out]; simp) 3
    have HP := uh (parts_3 E A1 A2 A3)
    have HV := uh V
    generalize parts E A1 A2 A3 3 = P at *
    clear V
    go_wp2_with fail
    refine Hb.out.mono ?_
    rintro e w5 ⟨a5, p5, l5, rfl, hr5, T5⟩
    have HV5 := uh (HV.out.grow T5)
    have h63 : P.length + ([] : List Br).length ≤ maxLen := by unfold maxLen; simp only [List.length_nil]; omega
    have hby : (P.length + ([] : List Br).length) * 40 ≤ 140737488355328 := by simp only [List.length_nil]; omega
    have HS5 := uh (hr5.src HV5.out.has)
    clear hr5 T5 HV q Hh Hp Hw Hb
    go_wp2_with (first
     | (at_builtin; refine wpList_append_src rfl _ _ rfl el_breach rfl rfl Hr2.out (R := l5 ++ (lj ++ RS)) (HV5.out.perm po).has HS5.out (brs_one _) h63 hby ?_; intro a9 p9 l9 w8 hr9 V9; have HV9 := uh ((HV5.out.perm po).trans V9); have Hr9 := uh hr9; clear V9 hr9)
     | fail)
    go_roundw
    case rel =>
     refine ⟨4, a9, p9, l9, l5 ++ lj, by omega, by go_num, by rw [HP.out, List.length_append] <;> rfl, ?_, ?_⟩
     · rw [HP.out, List.length_append, brs_append]
       exact Hr9.out
     · rw [List.append_assoc]
       exact HV9.out
    case measure => simp [intOf]
  · have HV := uh V
    have HP := uh (show parts E A1 A2 A3 4 = E ++ (A1 ++ (A2 ++ A3)) from rfl)
    clear V Hh Hp Hw Hb
    rw [HP.out] at Hr2 ⊢
    go_wp2_with fail
    refine bodyPost_ret (results_tmp2 rfl _ _ _) rfl ?_
    exact ⟨a2, p2, lr, rfl, Hr2.out, HV.out.sub (List.sublist_append_left ..)⟩
def kpc (t o g s r n : Nat) : Array Value := #[.int .i64 t, .int .i64 o, .int .i64 g, .int .i64 s, .int .i64 r, .int .i64 n]
def zAt (W : List Nat) (g s : Nat) : Bool := W.getD (2 * g + 1 + s) 0 == 0
def oRefs (L : List Ty) (c : Ce) : List Nat := (tyAt L c.2.typ).refs c.2.len
def oSlots (L : List Ty) (c : Ce) : Nat := (tyAt L c.2.typ).slots c.2.len
def oNils (L : List Ty) (W : List Nat) (c : Ce) : Nat := (oRefs L c).countP (zAt W c.1)
end
section
open Go Go.RowKit Go.Maps Go.IntWalk
theorem Turn.of_owns {L : List Blk} {w w' : World} {e : TypeId} {size k : Nat} {v : Value} {xs : List Value} (hH : Has w L) (hB : Below w.heap.size w w') (ho : w'.ownsRow w.heap.size e size v k xs) :
  ∃ ao cap l', v = .slice ao k cap ∧ Row e size ao k cap xs l' ∧ Turn L w (l' ++ L) w' := by
 have T := Turn.of_below hH hB
 obtain ⟨hl, ⟨rfl, rfl⟩ | ⟨g, cap, cur, rfl, hg, hgb, hk, hc, hs, ht⟩⟩ := ho
 · have hx : xs = [] := List.eq_nil_of_length_eq_zero (by simpa using hl)
   subst hx
   exact ⟨none, 0, [], rfl, Row.nil _ _, T⟩
 · refine ⟨some ⟨g, 0, none⟩, cap, [(g, .cells cur e)], rfl, ⟨hl, hk, hc, .inr ⟨g, cur, rfl, rfl, by omega, ht⟩⟩, T.os, T.tape, T.output, T.size, ⟨?_, fun b o hm => ?_⟩, fun b hb => ?_, T.same⟩
   · rw [List.singleton_append, keys_cons, List.nodup_cons]
     refine ⟨fun hm => ?_, hH.nd⟩
     have := hH.lt hm
     omega
   · rw [List.singleton_append] at hm
     rcases List.mem_cons.1 hm with h | h
     · cases h; exact hgb
     · exact T.has.own b o h
   · rw [List.singleton_append, keys_cons] at hb
     rcases List.mem_cons.1 hb with rfl | h
     · exact .inr hg
     · exact .inl h
def mpk (ks : List Nat) (bl : Nat → Nat) : List (Int × Value) := ks.map fun (k : Nat) => ((k : Int), Value.pointer (some ⟨bl k, 0, none⟩))
def kpv (k : Nat) (K : Kp) : List Value := [.int .i64 k, .int .i64 K.objects, .int .i64 K.granules, .int .i64 K.slots, .int .i64 K.refs, .int .i64 K.nils]
end
end Go.Proofs.YtbecgkejdacidaaGreatDoor
namespace Go.Proofs.YtbecgkejdacidaaGreatDoor
open Go Go.RowKit
theorem flatMap_get {α β : Type} {f : α → List β} {sz : Nat} (hf : ∀ a, (f a).length = sz) (S : List α) (i j : Nat) (hj : j < sz) : (S.flatMap f)[i * sz + j]? = S[i]?.bind fun a => (f a)[j]? := by
 induction S generalizing i with
 | nil => simp
 | cons a S ih =>
  rw [List.flatMap_cons]
  cases i with
  | zero =>
   rw [Nat.zero_mul, Nat.zero_add, List.getElem?_append_left (by rw [hf]; exact hj)]
   rfl
  | succ i =>
   have e : (i + 1) * sz + j = sz + (i * sz + j) := by rw [Nat.add_mul]; omega
   rw [e, List.getElem?_append_right (by rw [hf]; omega), hf, Nat.add_sub_cancel_left, ih]
   rfl
theorem flatMap_set {α β : Type} {f : α → List β} {sz : Nat} (hf : ∀ a, (f a).length = sz) (S : List α) (i j : Nat) (hj : j < sz) (a a' : α) (v : β) (h : S[i]? = some a) (ha : f a' = (f a).set j v) :
  (S.flatMap f).set (i * sz + j) v = (S.set i a').flatMap f := by
 induction S generalizing i with
 | nil => simp at h
 | cons b S ih =>
  rw [List.flatMap_cons]
  cases i with
  | zero =>
   have hb : b = a := by simpa using h
   subst hb
   rw [Nat.zero_mul, Nat.zero_add, List.set_append_left _ _ (by rw [hf]; exact hj), List.set_cons_zero, List.flatMap_cons, ha]
  | succ i =>
   have e : (i + 1) * sz + j = sz + (i * sz + j) := by rw [Nat.add_mul]; omega
   rw [e, List.set_append_right _ _ (by rw [hf]; omega), hf, Nat.add_sub_cancel_left, ih i (by simpa using h), List.set_cons_succ, List.flatMap_cons]
theorem flatMap_length {α β : Type} {f : α → List β} {sz : Nat} (hf : ∀ a, (f a).length = sz) (S : List α) : (S.flatMap f).length = S.length * sz := by
 induction S with
 | nil => simp
 | cons a S ih => rw [List.flatMap_cons, List.length_append, hf, ih, List.length_cons, Nat.add_mul]; omega
structure Slot where
 st : Nat
 addr : Int
 given : Nat
def Slot.vals (s : Slot) : List Value := [.int .i64 s.st, .int .u64 s.addr, .int .u64 s.given]
structure WkOk (S : List Slot) : Prop where
 len : S.length ≤ 4096
 small : ∀ s ∈ S, s.given < 4294967295
 states : ∀ s ∈ S, s.st ≤ 2
def WeaksIs (b : Nat) (S : List Slot) (l : List Blk) : Prop :=
 WkOk S ∧ ∃ g cur, l = [(b, .cells #[.slice (some ⟨g, 0, none⟩) S.length S.length] 179), (g, .cells cur 190)] ∧ cur.toList = S.flatMap Slot.vals
def wh (i given : Nat) : Int := ((given * 4294967296 + i : Nat) : Int)
theorem or_handle (g i : Nat) (hi : i < 4294967296) : (g * 4294967296) ||| i = g * 4294967296 + i := by
 have h := Nat.two_pow_add_eq_or_of_lt (i := 32) (b := i) (by simpa using hi) g
 rw [show (2 ^ 32 : Nat) = 4294967296 from rfl, Nat.mul_comm] at h
 exact h.symm
theorem or_wh (g i : Nat) (hg : g < 4294967295) (hi : i < 4294967296) : bits .or .u64 ((g : Int) * 4294967296) (i : Int) = wh i g := by
 have h := u64_or_nat (g * 4294967296) i (by omega) (by omega)
 rw [Int.natCast_mul] at h
 rw [show ((4294967296 : Nat) : Int) = 4294967296 from rfl] at h
 rw [h, or_handle g i hi]
 rfl
section
variable {b : Nat} {S : List Slot} {l R : List Blk}
end
end Go.Proofs.YtbecgkejdacidaaGreatDoor
namespace Go.Proofs.YtbecgkejdacidaaGreatDoor
open Go Go.RowKit
theorem made_rows {α : Type} {f : α → List Value} {sz : Nat} (hf : ∀ a, (f a).length = sz) (hsz : 0 < sz) (a : α) (n : Nat) : (madeCells (f a).toArray (n * sz)).toList = (List.replicate n a).flatMap f := by
 refine List.ext_getElem? fun m => ?_
 by_cases hm : m < n * sz
 · have h1 : m / sz < n := (Nat.div_lt_iff_lt_mul hsz).2 hm
   have h2 : m % sz < sz := Nat.mod_lt _ hsz
   have h3 : m = m / sz * sz + m % sz := (Nat.div_add_mod' m sz).symm
   have hr : ((List.replicate n a).flatMap f)[m]? = (f a)[m % sz]? := by
    conv => lhs; rw [h3]
    rw [flatMap_get hf _ _ _ h2]
    simp [h1]
   rw [hr]
   simp [madeCells, hm, hf]
   rw [List.getElem?_eq_getElem (by rw [hf]; exact h2)]
   rfl
 · rw [List.getElem?_eq_none (by simp [madeCells]; omega), List.getElem?_eq_none (by rw [flatMap_length hf]; simp; omega)]
section
variable {b : Nat} {S : List Slot} {l R : List Blk}
end
end Go.Proofs.YtbecgkejdacidaaGreatDoor
namespace Go.Proofs.YtbecgkejdacidaaGreatDoor
open Go Go.RowKit
structure HSlot where
 given : Nat
 addr : Int
def HSlot.vals (s : HSlot) : List Value := [.int .u64 s.given, .int .u64 s.addr]
theorem HSlot.vals_length (s : HSlot) : s.vals.length = 2 := rfl
def zeroHSlot : HSlot := ⟨0, 0⟩
structure HdOk (S : List HSlot) : Prop where
 len : S.length ≤ 4096
 small : ∀ s ∈ S, s.given < 4294967295
def HandsIs (b : Nat) (S : List HSlot) (l : List Blk) : Prop :=
 HdOk S ∧ ∃ g cur, l = [(b, .cells #[.slice (some ⟨g, 0, none⟩) S.length S.length] 182), (g, .cells cur 186)] ∧ cur.toList = S.flatMap HSlot.vals
structure HCells (w : World) (b g : Nat) (S : List HSlot) : Prop where
 c0 : w.cell? ⟨b, 0, none⟩ = some (.slice (some ⟨g, 0, none⟩) S.length S.length)
 at_ : ∀ i s, S[i]? = some s → w.cell? ⟨g, i * 2, none⟩ = some (.int .u64 s.given) ∧ w.cell? ⟨g, i * 2 + 1, none⟩ = some (.int .u64 s.addr)
 free : ∀ i, w.frozen? ⟨g, i, none⟩ = false
 ne : g ≠ b
theorem hcells {w : World} {b g : Nat} {S : List HSlot} {cur : Array Value} {R : List Blk} (hc : cur.toList = S.flatMap HSlot.vals)
  (h : Has w ([(b, .cells #[.slice (some ⟨g, 0, none⟩) S.length S.length] 182), (g, .cells cur 186)] ++ R)) : HCells w b g S := by
 have hg : (g, Obj.cells cur 186 (0, 0)) ∈ [(b, Obj.cells #[.slice (some ⟨g, 0, none⟩) S.length S.length] 182 (0, 0)), (g, Obj.cells cur 186 (0, 0))] ++ R := by simp
 have hat : ∀ i s j, S[i]? = some s → j < 2 → w.cell? ⟨g, i * 2 + j, none⟩ = s.vals[j]? := by
  intro i s j hi hj
  rw [h.cell hg, ← Array.getElem?_toList, hc, flatMap_get HSlot.vals_length S i j hj, hi]
  rfl
 have hb : (b, Obj.cells #[.slice (some ⟨g, 0, none⟩) S.length S.length] 182 (0, 0)) ∈ [(b, Obj.cells #[.slice (some ⟨g, 0, none⟩) S.length S.length] 182 (0, 0)), (g, Obj.cells cur 186 (0, 0))] ++ R := by simp
 refine ⟨h.cell hb 0, fun i s hi => ⟨hat i s 0 hi (by omega), hat i s 1 hi (by omega)⟩, fun i => h.free hg i, ?_⟩
 have := h.nd
 intro e
 subst e
 simp at this
theorem hset_toList {cur : Array Value} {S : List HSlot} (hc : cur.toList = S.flatMap HSlot.vals) (i j : Nat) (hj : j < 2) (s s' : HSlot) (v : Value) (hi : S[i]? = some s) (hv : s'.vals = s.vals.set j v) :
  (cur.setIfInBounds (i * 2 + j) v).toList = (S.set i s').flatMap HSlot.vals := by
 rw [Array.toList_setIfInBounds, hc, flatMap_set HSlot.vals_length S i j hj s s' v hi hv]
section
variable {b : Nat} {S : List HSlot} {l R : List Blk}
theorem handle_any (w : World) (hS : HandsIs b S l) (hH : Has w (l ++ R)) (i : Nat) (s : HSlot) (hi : S[i]? = some s) :
  Calls Tryz.prog 96 #[.pointer (some ⟨b, 0, none⟩), .int .i64 i] w fun e w' => e = .returned (.int .u64 (wh i s.given)) ∧ w = w' := by
 obtain ⟨hok, g, cur, rfl, hc⟩ := hS
 have W := hcells hc hH
 have hlt : i < S.length := (List.getElem?_eq_some_iff.1 hi).1
 have hlt' : (i : Int) < (S.length : Int) := by omega
 obtain ⟨c0, at_, -, -⟩ := W
 obtain ⟨a0, a1⟩ := at_ i s hi
 have hsm := hok.small s (List.mem_of_getElem? hi)
 have hl := hok.len
 have hor := or_wh s.given i hsm (by omega)
 clear at_ hi
 go_enter Tryz.func96, Tryz.ntmps96
 go_wp2
 go_ret
 exact ⟨rfl, rfl⟩
theorem el_hslot : Elem Tryz.prog 180 186 2 16 (.agg #[.int .u64 0, .int .u64 0]) := Elem.of Tryz.underlying180 (by kernel_rfl) rfl
theorem hNew_any (w : World) (m : Nat) (hm : m ≤ 4096) (hH : Has w R) :
  Calls Tryz.prog 74 #[.int .i64 m] w fun e w' => ∃ b l', e = .returned (.tuple #[.pointer (some ⟨b, 0, none⟩), .int .i64 0]) ∧ HandsIs b (List.replicate m zeroHSlot) l' ∧ Turn R w (l' ++ R) w' := by
 obtain ⟨i, hi, hz, hsz, hby⟩ := el_hslot.info
 have hmk := fun W : World => run_make_rows (P := Tryz.prog) 180 186 i _ el_hslot.ht hi hz .i64 .i64 m (by rw [hby]; omega) (by omega) W
 rw [hsz] at hmk
 have hcells : (madeCells (Value.agg #[.int .u64 0, .int .u64 0]).cells (m * 2)).toList = (List.replicate m zeroHSlot).flatMap HSlot.vals := made_rows HSlot.vals_length (by omega) zeroHSlot m
 generalize madeCells (Value.agg #[.int .u64 0, .int .u64 0]).cells (m * 2) = cur at *
 have T := ((Turn.refl hH).alloc (.cells cur 186)).alloc (.cells #[.slice (some ⟨w.heap.size, 0, none⟩) m m] 182)
 have Hcells := uh hcells
 clear hi hz hsz hby hcells
 go_enter Tryz.func74, Tryz.ntmps74
 go_wp2
 go_ret2
 rw [World.size_alloc] at T
 have hok : HdOk (List.replicate m zeroHSlot) := ⟨by simpa using hm, fun s hs => by rw [List.eq_of_mem_replicate hs]; exact (by decide)⟩
 exact ⟨w.heap.size + 1, [(w.heap.size + 1, .cells #[.slice (some ⟨w.heap.size, 0, none⟩) m m] 182), (w.heap.size, .cells cur 186)], rfl, ⟨hok, w.heap.size, cur, by simp, Hcells.out⟩, T⟩
theorem HandsIs.mk' {g : Nat} {cur : Array Value} {n : Nat} (hok : HdOk S) (hn : n = S.length) (hc : cur.toList = S.flatMap HSlot.vals) :
  HandsIs b S [(b, .cells #[.slice (some ⟨g, 0, none⟩) n n] 182), (g, .cells cur 186)] := by
 subst hn
 exact ⟨hok, g, cur, rfl, hc⟩
theorem HdOk.set (h : HdOk S) (i : Nat) (s : HSlot) (h1 : s.given < 4294967295) : HdOk (S.set i s) :=
 ⟨by simpa using h.len, fun x hx => by rcases List.mem_or_eq_of_mem_set hx with hm | rfl; exact h.small x hm; exact h1⟩
end
end Go.Proofs.YtbecgkejdacidaaGreatDoor
namespace Go.Proofs.YtbecgkejdacidaaGreatDoor
open Go Go.RowKit
section
variable {b : Nat} {S : List HSlot} {l R : List Blk}
end
end Go.Proofs.YtbecgkejdacidaaGreatDoor
namespace Go.Proofs.YtbecgkejdacidaaGreatDoor
open Go Go.RowKit
section
variable {b : Nat} {S : List HSlot} {l R : List Blk}
end
end Go.Proofs.YtbecgkejdacidaaGreatDoor
namespace Go.Proofs.YtbecgkejdacidaaGreatDoor
open Go Go.RowKit
section
variable {b : Nat} {S : List HSlot} {l R : List Blk}
end
end Go.Proofs.YtbecgkejdacidaaGreatDoor
namespace Go.Proofs.YtbecgkejdacidaaGreatDoor
open Go Go.RowKit
section
variable {b : Nat} {S : List HSlot} {l R : List Blk}
def HAddPost (b : Nat) (S : List HSlot) (a : Int) (l R : List Blk) (w : World) (e : Ending) (w' : World) : Prop :=
 (∃ i s l', S[i]? = some s ∧ s.addr = 0 ∧ (∀ (j : Nat) (t : HSlot), j < i → S[j]? = some t → t.addr ≠ 0) ∧ e = .returned (.tuple #[.int .u64 (wh i (s.given + 1)), .int .i64 0]) ∧ HandsIs b (S.set i ⟨s.given + 1, a⟩) l' ∧ Turn (l ++ R) w (l' ++ R) w') ∨
 ((∀ (j : Nat) (t : HSlot), S[j]? = some t → t.addr ≠ 0) ∧ e = .returned (.tuple #[.int .u64 0, .int .i64 4]) ∧ Turn (l ++ R) w (l ++ R) w')
theorem hset2_toList {cur : Array Value} (hc : cur.toList = S.flatMap HSlot.vals) (i : Nat) (s : HSlot) (hi : S[i]? = some s) (a : Int) (g : Nat) :
  ((cur.setIfInBounds (i * 2 + 1) (.int .u64 a)).setIfInBounds (i * 2) (.int .u64 g)).toList = (S.set i ⟨g, a⟩).flatMap HSlot.vals := by
 have hlt : i < S.length := (List.getElem?_eq_some_iff.1 hi).1
 have h1 := hset_toList hc i 1 (by omega) s { s with addr := a } (.int .u64 a) hi rfl
 have h2 := hset_toList (S := S.set i { s with addr := a }) h1 i 0 (by omega) { s with addr := a } ⟨g, a⟩ (.int .u64 g) (List.getElem?_set_self hlt) rfl
 rw [Nat.add_zero, List.set_set] at h2
 exact h2
theorem hAdd_any (w : World) (hS : HandsIs b S l) (hH : Has w (l ++ R)) (a : Int) (ha : a ≠ 0) (hsm : ∀ s ∈ S, s.given < 4294967294) :
  Calls Tryz.prog 31 #[.pointer (some ⟨b, 0, none⟩), .int .u64 a] w (HAddPost b S a l R w) := by
 obtain ⟨hok, g, cur, rfl, hc⟩ := hS
 have hl := hok.len
 have W := hcells hc hH
 have HW := uh W
 have c0 := W.c0
 have hb0 : (a == 0) = false := by simpa using ha
 have T := Turn.refl hH
 clear W
 go_enter Tryz.func31, Tryz.ntmps31
 go_wp2_with fail
 go_loop [18] (fun q => ∃ k : Nat, k ≤ S.length ∧ q = .int .i64 k ∧ ∀ (j : Nat) (t : HSlot), j < k → S[j]? = some t → t.addr ≠ 0) (fun q => S.length - (intOf q).toNat)
 case atStart => exact ⟨0, Nat.zero_le _, rfl, fun j t hj => absurd hj (Nat.not_lt_zero _)⟩
 case round =>
  obtain ⟨k, hk, rfl, hall⟩ := hrel
  have Hall := uh hall
  clear hall
  by_cases hlt : k < S.length
  · have hlt' : (k : Int) < (S.length : Int) := by omega
    obtain ⟨s, hs⟩ : ∃ s, S[k]? = some s := ⟨S[k]'hlt, List.getElem?_eq_getElem _⟩
    obtain ⟨a0, a1⟩ := HW.out.at_ k s hs
    have f0 := HW.out.free (k * 2)
    have f1 := HW.out.free (k * 2 + 1)
    have hne := HW.out.ne
    have hg := hsm s (List.mem_of_getElem? hs)
    have Hs := uh hs
    clear hs
    by_cases hz : s.addr = 0
    · rw [hz] at a1
      have hb1 : ((0 : Int) != 0) = false := rfl
      have hok' := hok.set k ⟨s.given + 1, a⟩ (show s.given + 1 < _ by omega)
      have hc' := hset2_toList hc k s Hs.out a (s.given + 1)
      have T2 := (((T.perm (l2 := (g, .cells cur 186) :: ((b, .cells #[.slice (some ⟨g, 0, none⟩) S.length S.length] 182) :: R)) po).setCell (k * 2 + 1) (.int .u64 a)).setCell (k * 2) (.int .u64 ((s.given + 1 : Nat) : Int))).perm (l2 := [(b, .cells #[.slice (some ⟨g, 0, none⟩) S.length S.length] 182), (g, .cells ((cur.setIfInBounds (k * 2 + 1) (.int .u64 a)).setIfInBounds (k * 2) (.int .u64 ((s.given + 1 : Nat) : Int))) 186)] ++ R) po
      have hS2 : HandsIs b (S.set k ⟨s.given + 1, a⟩) [(b, .cells #[.slice (some ⟨g, 0, none⟩) S.length S.length] 182), (g, .cells ((cur.setIfInBounds (k * 2 + 1) (.int .u64 a)).setIfInBounds (k * 2) (.int .u64 ((s.given + 1 : Nat) : Int))) 186)] := HandsIs.mk' hok' (by simp) hc'
      have hh := handle_any _ hS2 T2.has k ⟨s.given + 1, a⟩ (List.getElem?_set_self hlt)
      have Hh := uh hh
      have HT2 := uh T2
      have hcast : ((s.given + 1 : Nat) : Int) = (s.given : Int) + 1 := by omega
      rw [hcast] at Hh
      clear hh T2 hc' hok' hcast
      go_wp2_with (go_at_call 96; refine Hh.out.mono ?_; rintro e w' ⟨rfl, rfl⟩)
      go_ret2
      exact .inl ⟨k, s, _, Hs.out, hz, Hall.out, rfl, hS2, HT2.out⟩
    · have hb1 : (s.addr != 0) = true := by simpa using hz
      go_wp2
      go_round
      case rel => exact ⟨k + 1, by omega, by go_num, fun j t hj ht => by
       by_cases hjk : j = k
       · subst hjk; rw [Hs.out] at ht; cases ht; exact hz
       · exact Hall.out j t (by omega) ht⟩
      case measure => simp [intOf]; omega
  · have hge : ¬ (k : Int) < (S.length : Int) := by omega
    go_wp2
    go_ret2
    exact .inr ⟨fun j t ht => Hall.out j t (by have := (List.getElem?_eq_some_iff.1 ht).1; omega) ht, rfl, T⟩
end
end Go.Proofs.YtbecgkejdacidaaGreatDoor
namespace Go.Proofs.YtbecgkejdacidaaGreatDoor.handNil
open Go Go.RowKit
end Go.Proofs.YtbecgkejdacidaaGreatDoor.handNil
namespace Go.Proofs.YtbecgkejdacidaaGreatDoor
open Go Go.RowKit Go.Shelf
attribute [local go_sem] Oper.semAt_some
def livingOf (S : List HSlot) (k : Nat) : List Nat := (List.range k).filter fun i => (S[i]?.map fun s => s.addr != 0).getD false
theorem livingOf_yes {S : List HSlot} {k : Nat} {s : HSlot} (h : S[k]? = some s) (ha : s.addr ≠ 0) : livingOf S (k + 1) = livingOf S k ++ [k] := by
 simp [livingOf, List.range_succ, List.filter_append, h, ha]
theorem livingOf_no {S : List HSlot} {k : Nat} {s : HSlot} (h : S[k]? = some s) (ha : s.addr = 0) : livingOf S (k + 1) = livingOf S k := by
 simp [livingOf, List.range_succ, List.filter_append, h, ha]
theorem living_in (F : Fence) (n : Nat) (hf : F.fn 161) (hro : F.round = none) (p : Option Addr) (w : World) :
  CallsIn F n Tryz.prog 161 #[.pointer p] w fun e w' => e = .returned (.func (.func 212) #[] #[.pointer (some ⟨w.heap.size, 0, none⟩)]) ∧ w' = w.alloc (.cells #[.pointer p] 73) := by
 refine callsIn_of_wp Tryz.func161 rfl hf ?_ hro
 simp only [Tryz.ntmps161, List.size_toArray, List.length_cons, List.length_nil, Nat.reduceAdd, Nat.reduceSub, Array.replicate_succ, Array.replicate_zero, List.push_toArray, List.append_toArray, List.nil_append, List.cons_append]
 gi_wp2
 go_ret
 exact ⟨rfl, rfl⟩
theorem living1_nil (F : Fence) (n : Nat) (hf : F.fn 212) (hro : F.round = none) (l Bs : Nat) (J : List Nat → World → Prop) (W : World) (hBs : W.cell? ⟨Bs, 0, none⟩ = some (.pointer none)) (h0 : J [] W) :
  CallsIn F n Tryz.prog 212 #[.func (.yield l) #[] #[], .pointer (some ⟨Bs, 0, none⟩)] W fun e W' => (∃ v, e = .returned v) ∧ J [] W' := by
 refine callsIn_of_wp Tryz.func212 rfl hf ?_ hro
 simp only [Tryz.ntmps212, List.size_toArray, List.length_cons, List.length_nil, Nat.reduceAdd, Nat.reduceSub, Array.replicate_succ, Array.replicate_zero, List.push_toArray, List.append_toArray, List.nil_append, List.cons_append]
 gi_wp2
 refine bodyPost_ret (results_none rfl _ _ _) rfl ?_
 exact ⟨⟨_, rfl⟩, h0⟩
theorem livingOf_length (S : List HSlot) (k : Nat) : (livingOf S k).length ≤ k := by
 unfold livingOf
 exact Nat.le_trans (List.length_filter_le _ _) (by simp)
theorem HCells.below {W W' : World} {b g n₀ : Nat} {S : List HSlot} (h : HCells W b g S) (hb : b < n₀) (hg : g < n₀) (hk : Below n₀ W W') : HCells W' b g S :=
 ⟨(hk.cell (p := ⟨b, 0, none⟩) hb).trans h.c0, fun i s hi => ⟨(hk.cell (p := ⟨g, i * 2, none⟩) hg).trans (h.at_ i s hi).1, (hk.cell (p := ⟨g, i * 2 + 1, none⟩) hg).trans (h.at_ i s hi).2⟩,
  fun i => by have := h.free i; unfold World.frozen? at this ⊢; rw [hk.block g hg]; exact this, h.ne⟩
theorem living1_in (F : Fence) (n : Nat) (hf : F.fn 212) (hro : F.round = none) (hn : 1 ≤ n) (l Bs n₀ b g : Nat) (S : List HSlot) (hlen : S.length ≤ 4096) (hb : b < n₀) (hg : g < n₀) (J Jx : List Nat → World → Prop)
  (W : World) (hn₀ : n₀ ≤ W.heap.size) (hJ : AbidesFrom W.heap.size J)
  (hY : ∀ pre (x : Nat) W, x < S.length → J pre W → pre.length < S.length → YieldAt F (n - 1) Tryz.prog l #[.int .i64 (x : Nat)] W fun e W' =>
    (e = .returned (.bool true) ∧ J (pre ++ [x]) W' ∧ Below n₀ W W') ∨ (e = .returned (.bool false) ∧ Jx (pre ++ [x]) W'))
  (hBs : W.cell? ⟨Bs, 0, none⟩ = some (.pointer (some ⟨b, 0, none⟩))) (hc : HCells W b g S) (h0 : J [] W) :
  CallsIn F n Tryz.prog 212 #[.func (.yield l) #[] #[], .pointer (some ⟨Bs, 0, none⟩)] W fun e W' => (∃ v, e = .returned v) ∧
   ((∃ ys, ys = livingOf S S.length ∧ J ys W') ∨ (∃ pre, (∃ k, k ≤ S.length ∧ pre = livingOf S k) ∧ Jx pre W')) := by
 have c0 := hc.c0
 refine callsIn_of_wp Tryz.func212 rfl hf ?_ hro
 simp only [Tryz.ntmps212, List.size_toArray, List.length_cons, List.length_nil, Nat.reduceAdd, Nat.reduceSub, Array.replicate_succ, Array.replicate_zero, List.push_toArray, List.append_toArray, List.nil_append, List.cons_append]
 gi_wp2
 gi_loopw [12] (fun i wr => ∃ k : Nat, k ≤ S.length ∧ i = .int .i64 k ∧ J (livingOf S k) wr ∧ Below n₀ W wr)
  (fun i _ => S.length - (intOf i).toNat)
 case atStart => exact ⟨0, Nat.zero_le _, rfl, h0, Below.refl _ _⟩
 case round =>
  obtain ⟨k, hk, rfl, hJs, hnx⟩ := hrel
  by_cases hlt : k < S.length
  · have hlt' : (k : Int) < (S.length : Int) := by omega
    obtain ⟨s, hs⟩ : ∃ s, S[k]? = some s := ⟨S[k]'hlt, List.getElem?_eq_getElem _⟩
    obtain ⟨a0, a1⟩ := (hc.below hb hg hnx).at_ k s hs
    have hsz := hnx.size
    have hJ2 : J (livingOf S k) (wr.alloc (.cells #[.int .u64 s.given, .int .u64 s.addr] 186)) := hJ _ _ _ none hJs (World.grownBy_alloc wr _ none) (fun r e => by cases e)
    have hB2 : Below n₀ W (wr.alloc (.cells #[.int .u64 s.given, .int .u64 s.addr] 186)) := hnx.alloc (by omega) _
    have Hs := uh hs
    clear hs
    by_cases hz : s.addr = 0
    · have hl2 := livingOf_no Hs.out hz
      rw [hz] at a1 hJ2 hB2
      gi_wp2
      refine ⟨fun _ h => (by cases h), ?_⟩
      gi_wp2
      go_roundw
      case rel => exact ⟨k + 1, by omega, by simp, by rw [hl2]; exact hJ2, hB2⟩
      case measure => simp [intOf]; omega
    · have hl2 := livingOf_yes Hs.out hz
      have hb1 : (s.addr != 0) = true := by simpa using hz
      obtain ⟨fn, tmps, assign, body, hy, hR⟩ := hY _ k _ hlt hJ2 (Nat.lt_of_le_of_lt (livingOf_length S k) hlt)
      gi_wp2
      refine hR.mono ?_
      rintro e W3 (⟨rfl, hJ3, hk3⟩ | ⟨rfl, hJx3⟩)
      · gi_wp2
        go_roundw
        case rel => exact ⟨k + 1, by omega, by simp, by rw [hl2]; exact hJ3, hB2.trans hk3⟩
        case measure => simp [intOf]; omega
      · gi_wp2
        refine bodyPost_ret (results_none rfl _ _ _) rfl ?_
        exact ⟨⟨_, rfl⟩, .inr ⟨_, ⟨k + 1, by omega, hl2.symm⟩, hJx3⟩⟩
  · obtain rfl : k = S.length := by omega
    gi_wp2
    go_end0
    exact ⟨⟨_, rfl⟩, .inl ⟨_, rfl, hJs⟩⟩
end Go.Proofs.YtbecgkejdacidaaGreatDoor
namespace Go.Proofs.YtbecgkejdacidaaGreatDoor
open Go Go.RowKit Go.Shelf
attribute [local go_sem] Oper.semAt_some
def Pointed (n₀ : Nat) (W : World) (p : Option Addr) (S : List HSlot) : Prop := (p = none ∧ S = []) ∨ ∃ b g, p = some ⟨b, 0, none⟩ ∧ b < n₀ ∧ g < n₀ ∧ HCells W b g S
theorem Pointed.below {n₀ : Nat} {A B : World} {p : Option Addr} {S : List HSlot} (hk : Below n₀ A B) : Pointed n₀ A p S → Pointed n₀ B p S
 | .inl h => .inl h
 | .inr ⟨b, g, h1, h2, h3, h4⟩ => .inr ⟨b, g, h1, h2, h3, h4.below h2 h3 hk⟩
theorem living_stops (F : Fence) (n : Nat) (hf : F.fn 212) (hro : F.round = none) (hn : 1 ≤ n) (Bs n₀ : Nat) (p : Option Addr) (S : List HSlot) (hlen : S.length ≤ 4096) (w : World) (hBs : Bs < w.heap.size) (hn₀ : n₀ ≤ w.heap.size)
  (hc : w.cell? ⟨Bs, 0, none⟩ = some (.pointer p)) (hP : Pointed n₀ w p S) :
  SeqStopsK F n Tryz.prog 212 #[.pointer (some ⟨Bs, 0, none⟩)] (fun x : Fin S.length => #[Value.int .i64 (x.val : Int)]) (Below n₀) (fun ys => ys.map Fin.val = livingOf S S.length) (fun _ => True) S.length w := fun l J Jx W hW hJ hJx hY h0 => by
 have hc' := (hW.cell (p := ⟨Bs, 0, none⟩) hBs).trans hc
 rcases hP.below (hW.mono hn₀) with ⟨rfl, rfl⟩ | ⟨b, g, rfl, hb, hg, hcs⟩
 · exact (living1_nil F n hf hro l Bs (fun _ W => J [] W) W hc' h0).mono fun e W' ⟨he, hj⟩ => ⟨he, .inl ⟨[], rfl, hj⟩⟩
 · refine (living1_in F n hf hro hn l Bs n₀ b g S hlen hb hg (fun q W => ∃ y : List (Fin S.length), y.map Fin.val = q ∧ J y W) (fun _ W => ∃ y, Jx y W) W (Nat.le_trans hn₀ hW.size) (fun q A B row ⟨y, hy, h⟩ h1 h2 => ⟨y, hy, hJ y A B row h h1 h2⟩) ?_ hc' hcs ⟨[], rfl, h0⟩).mono ?_
   · rintro pre x W1 hx ⟨y, rfl, hj⟩ hl
     exact (hY y ⟨x, hx⟩ W1 hj (by simpa using hl)).mono fun e W' h => h.imp (fun ⟨h1, h2, h3⟩ => ⟨h1, ⟨y ++ [⟨x, hx⟩], by simp, h2⟩, h3⟩) (fun ⟨h1, h2⟩ => ⟨h1, _, h2⟩)
   · rintro e W' ⟨he, ⟨ys, rfl, y, hy, hj⟩ | ⟨pre, -, y, hj⟩⟩
     · exact ⟨he, .inl ⟨y, hy, hj⟩⟩
     · exact ⟨he, .inr ⟨y, trivial, hj⟩⟩
end Go.Proofs.YtbecgkejdacidaaGreatDoor
namespace Go.Proofs.YtbecgkejdacidaaGreatDoor
section
open Go Go.RowKit Go.Shelf
attribute [local go_sem] Oper.semAt_some
theorem info_u64 : (Tryz.prog.info? 47).map (fun i => (i.zero, i.size, i.bytes)) = some (some (.int .u64 0), 1, 8) := by kernel_rfl
theorem cell_alloc {w : World} {a : Addr} {v : Value} {o : Obj} (h : w.cell? a = some v) : (w.alloc o).cell? a = some v := (World.cell?_alloc_lt _ _ _ (World.block_lt_of_cell? _ _ h)).trans h
def addrsOf (S : List HSlot) (is : List Nat) : List Int := is.map fun i => (S[i]?.map HSlot.addr).getD 0
theorem hRefs_in (F : Fence) (n : Nat) (hF : F = Fence.wide) (hro : F.round = none) (hn : 3 ≤ n) (p : Option Addr) (S : List HSlot) (hlen : S.length ≤ 4096) (w : World) (hP : Pointed w.heap.size w p S) :
  CallsIn F n Tryz.prog 81 #[.pointer p] w fun e W' => ∃ v, e = .returned v ∧ W'.ownsRow w.heap.size 47 1 v (livingOf S S.length).length ((addrsOf S (livingOf S S.length)).map (Value.int .u64)) ∧ (v = .slice none 0 0 ↔ livingOf S S.length = []) ∧ Below w.heap.size w W' := by
 have h1 : 1 ≤ n := by omega
 have hfn : ∀ k, F.fn k := by subst hF; exact fun _ => trivial
 have HF := uh hF
 clear hF
 have h5 := hfn 161
 have h7 := hfn 212
 obtain ⟨i0, hi, hz0, hz1, hz2⟩ := info_parts info_u64
 refine callsIn_of_wp_marks Tryz.func81 rfl (hfn _) ?_ hro
 simp only [Tryz.ntmps81, List.size_toArray, List.length_cons, List.length_nil, Nat.reduceAdd, Nat.reduceSub, Array.replicate_succ, Array.replicate_zero, List.push_toArray, List.append_toArray, List.nil_append, List.cons_append]
 gi_wp2_with (gi_at_call 161; refine (living_in F (n - 1) h5 hro _ _).mono ?_; rintro e w' ⟨rfl, rfl⟩)
 have bH := ((Boxed.new w 73 (.pointer p)).alloc (.cells #[.slice none 0 0] 61)).alloc (.cells #[.pointer p] 73)
 have bO := (Boxed.new (w.alloc (.cells #[.pointer p] 73)) 61 (.slice none 0 0)).alloc (.cells #[.pointer p] 73)
 have bN := Boxed.new ((w.alloc (.cells #[.pointer p] 73)).alloc (.cells #[.slice none 0 0] 61)) 73 (.pointer p)
 simp only [World.size_alloc] at bO bN
 have hB0 : Below w.heap.size w (((w.alloc (.cells #[.pointer p] 73)).alloc (.cells #[.slice none 0 0] 61)).alloc (.cells #[.pointer p] 73)) := (((Below.refl _ w).alloc (Nat.le_refl _) _).alloc (by simp) _).alloc (by simp; omega) _
 have hsz : (((w.alloc (.cells #[.pointer p] 73)).alloc (.cells #[.slice none 0 0] 61)).alloc (.cells #[.pointer p] 73)).heap.size = w.heap.size + 3 := by simp
 obtain ⟨W0, hW0⟩ : ∃ W0, ((w.alloc (.cells #[.pointer p] 73)).alloc (.cells #[.slice none 0 0] 61)).alloc (.cells #[.pointer p] 73) = W0 := ⟨_, rfl⟩
 rw [hW0] at bH bO bN hB0 hsz ⊢
 clear hW0
 refine wpIn_rangeFunc_ownG hro h1 (gf := 212) (lb := #[.pointer (some ⟨w.heap.size + 1 + 1, 0, none⟩)]) rfl h7 (enters_of Tryz.func212 (by kernel_rfl) rfl)
  (living_stops F (n - 1) h7 hro (by omega) (w.heap.size + 1 + 1) w.heap.size p S hlen W0 (by omega) (by omega) bN.cell (hP.below hB0)) belowK_t (belowK_b (by omega)) (Below.refl _ _) (fun _ => rfl)
  (fun pre W => (Boxed W w.heap.size 73 (.pointer p) ∧ ∃ v, Boxed W (w.heap.size + 1) 61 v ∧ W.ownsRow w.heap.size 47 1 v pre.length ((addrsOf S (pre.map Fin.val)).map (Value.int .u64)) ∧ (v = .slice none 0 0 ↔ pre = [])) ∧ Below w.heap.size w W)
  (fun _ _ _ => False)
  (OwnFrom.and (OwnFrom.and (Own.from (boxed_own _ _ _) _) (Own.from (holdsRow_own w.heap.size (w.heap.size + 1) 61 47 1 (fun pre => pre.length) (fun pre => (addrsOf S (pre.map Fin.val)).map (Value.int .u64)) (fun pre v => v = .slice none 0 0 ↔ pre = [])) _)) (ownFrom_below (Nat.le_refl _) (by omega)))
  (fun _ _ _ _ _ hs _ _ => hs)
  ⟨⟨bH, _, bO, World.ownsRow_nil _ _ _ _, by simp⟩, hB0⟩
  (fun x => { tmps := #[.pointer p, .pointer (some ⟨w.heap.size, 0, none⟩), .pointer (some ⟨w.heap.size + 1, 0, none⟩), .int .i64 (x.val : Int), .pointer p, .func (.func 212) #[] #[.pointer (some ⟨w.heap.size + 1 + 1, 0, none⟩)], .int .i64 (x.val : Int), undef, undef, undef, undef, undef, undef, undef, undef, undef, undef, undef, undef], defers := [] }) ?assign ?body ?done ?stop
 case assign =>
  intro l x W K hK
  gi_wp2
  simpa using hK
 case body =>
  rintro l pre x W ⟨⟨bx, v, hv, hrow, hnil⟩, hB⟩ hlt
  rcases hP.below hB with ⟨rfl, rfl⟩ | ⟨b, g, rfl, hb, hg, hcs⟩
  · exact x.elim0
  have hc := hv.cell
  have hx := bx.cell
  have c0 := hcs.c0
  obtain ⟨x, hxl⟩ := x
  obtain ⟨s, hs⟩ : ∃ s, S[x]? = some s := ⟨S[x]'hxl, List.getElem?_eq_getElem _⟩
  obtain ⟨a0, a1⟩ := hcs.at_ x s hs
  have hlt' : (x : Int) < (S.length : Int) := by omega
  have Hs := uh hs
  clear hs
  gi_wp2_with fail
  have hF := HF.out
  subst hF
  refine wpIn_region_round (S := fun w' => w'.cell? ⟨w.heap.size, 0, none⟩ = some (.pointer (some ⟨b, 0, none⟩)) ∧ w'.cell? ⟨b, 0, none⟩ = some (.slice (some ⟨g, 0, none⟩) S.length S.length) ∧ w'.cell? ⟨g, x * 2 + 1, none⟩ = some (.int .u64 s.addr)) 12 [false, false, false, false, false, false, false, false, false, false, false, false] rfl rfl (by kernel_rfl) (by rfl) (by rintro ⟨a, w, h⟩; exact h) ?_
  have hS0 : W.drew.cell? ⟨w.heap.size, 0, none⟩ = some (.pointer (some ⟨b, 0, none⟩)) ∧ W.drew.cell? ⟨b, 0, none⟩ = some (.slice (some ⟨g, 0, none⟩) S.length S.length) ∧ W.drew.cell? ⟨g, x * 2 + 1, none⟩ = some (.int .u64 s.addr) := ⟨hx, c0, a1⟩
  refine takeH 1 8 rfl rfl rfl (by kernel_rfl) (by kernel_rfl) (by kernel_rfl) (fun _ _ _ _ h => h) hS0 (by (intro w hSw; go_simp; try rfl)) ?_
  simp only [st1, st2]
  refine takeH 2 9 rfl rfl rfl (by kernel_rfl) (by kernel_rfl) (by kernel_rfl) (fun _ _ _ _ h => h) hS0 (by (intro w hSw; go_simp; try rfl)) ?_
  simp only [st1, st2]
  refine takeH 3 10 rfl rfl rfl (by kernel_rfl) (by kernel_rfl) (by kernel_rfl) (fun _ _ _ _ h => h) hS0 (by (intro w hSw; go_simp; try rfl)) ?_
  simp only [st1, st2]
  refine takeH 4 11 rfl rfl rfl (by kernel_rfl) (by kernel_rfl) (by kernel_rfl) (fun _ _ _ _ h => h) hS0 (by (intro w hSw; go_simp; try rfl)) ?_
  simp only [st1, st2]
  refine takeH 5 12 rfl rfl rfl (by kernel_rfl) (by kernel_rfl) (by kernel_rfl) (fun _ _ _ _ h => h) hS0 (by (intro w hSw; go_simp; try rfl)) ?_
  simp only [st1, st2]
  refine takeH 6 13 rfl rfl rfl (by kernel_rfl) (by kernel_rfl) (by kernel_rfl) (fun _ _ _ _ h => h) hS0 (by (intro w hSw; go_simp; try rfl)) ?_
  simp only [st1, st2]
  refine takeH 7 14 rfl rfl rfl (by kernel_rfl) (by kernel_rfl) (by kernel_rfl) (fun _ _ _ _ h => h) hS0 (by (intro w hSw; go_simp; try rfl)) ?_
  simp only [st1, st2]
  refine takeH 8 15 rfl rfl rfl (by kernel_rfl) (by kernel_rfl) (by kernel_rfl) (fun _ _ _ _ h => h) hS0 (by (intro w hSw; go_simp; try rfl)) ?_
  simp only [st1, st2]
  have hl1 : pre.length + 1 ≤ maxLen := by unfold maxLen; omega
  have hrowd : (W.drew.alloc (.cells #[.int .u64 s.addr] 47)).ownsRow w.heap.size 47 1 v pre.length ((addrsOf S (pre.map Fin.val)).map (Value.int .u64)) := World.ownsRow.alloc (w := W.drew) hrow _
  have hS1 : (W.drew.alloc (.cells #[.int .u64 s.addr] 47)).cell? ⟨w.heap.size, 0, none⟩ = some (.pointer (some ⟨b, 0, none⟩)) ∧ (W.drew.alloc (.cells #[.int .u64 s.addr] 47)).cell? ⟨b, 0, none⟩ = some (.slice (some ⟨g, 0, none⟩) S.length S.length) ∧ (W.drew.alloc (.cells #[.int .u64 s.addr] 47)).cell? ⟨g, x * 2 + 1, none⟩ = some (.int .u64 s.addr) := by
   obtain ⟨q1, q2, q3⟩ := hS0
   exact ⟨cell_alloc q1, cell_alloc q2, cell_alloc q3⟩
  have hlast : ∀ v' w1, w1.ownsRow w.heap.size 47 1 v' (pre.length + 1) ((addrsOf S (pre.map Fin.val)).map (Value.int .u64) ++ [.int .u64 s.addr]) → (W.drew.alloc (.cells #[.int .u64 s.addr] 47)).grownBy w1 v.ownBlock →
    ∃ g' cap', v' = .slice (some ⟨g', 0, none⟩) (pre.length + 1) cap' ∧ w1.cell? ⟨w.heap.size + 1, 0, none⟩ = some v ∧ w1.frozen? ⟨w.heap.size + 1, 0, none⟩ = false ∧
     (w1.cell? ⟨w.heap.size, 0, none⟩ = some (.pointer (some ⟨b, 0, none⟩)) ∧ w1.cell? ⟨b, 0, none⟩ = some (.slice (some ⟨g, 0, none⟩) S.length S.length) ∧ w1.cell? ⟨g, x * 2 + 1, none⟩ = some (.int .u64 s.addr)) ∧
     ((w1.setCell ⟨w.heap.size + 1, 0, none⟩ v').cell? ⟨w.heap.size, 0, none⟩ = some (.pointer (some ⟨b, 0, none⟩)) ∧ (w1.setCell ⟨w.heap.size + 1, 0, none⟩ v').cell? ⟨b, 0, none⟩ = some (.slice (some ⟨g, 0, none⟩) S.length S.length) ∧ (w1.setCell ⟨w.heap.size + 1, 0, none⟩ v').cell? ⟨g, x * 2 + 1, none⟩ = some (.int .u64 s.addr)) ∧
     KeepsFrom W0.heap.size W (w1.setCell ⟨w.heap.size + 1, 0, none⟩ v') ∧ Below w.heap.size W (w1.setCell ⟨w.heap.size + 1, 0, none⟩ v') ∧
     ((Boxed (w1.setCell ⟨w.heap.size + 1, 0, none⟩ v') w.heap.size 73 (.pointer (some ⟨b, 0, none⟩)) ∧ ∃ u, Boxed (w1.setCell ⟨w.heap.size + 1, 0, none⟩ v') (w.heap.size + 1) 61 u ∧ (w1.setCell ⟨w.heap.size + 1, 0, none⟩ v').ownsRow w.heap.size 47 1 u (pre ++ [(⟨x, hxl⟩ : Fin S.length)]).length ((addrsOf S ((pre ++ [(⟨x, hxl⟩ : Fin S.length)]).map Fin.val)).map (Value.int .u64)) ∧ (u = .slice none 0 0 ↔ pre ++ [(⟨x, hxl⟩ : Fin S.length)] = [])) ∧ Below w.heap.size w (w1.setCell ⟨w.heap.size + 1, 0, none⟩ v')) := by
   intro v' w1 hown' hgrow
   obtain ⟨g', cap', rfl⟩ := ownsRow_succ hown'
   have hvd : Boxed W.drew (w.heap.size + 1) 61 v := hv
   have hbd : Boxed W.drew w.heap.size 73 (.pointer (some ⟨b, 0, none⟩)) := bx
   have hrd : W.drew.ownsRow w.heap.size 47 1 v pre.length ((addrsOf S (pre.map Fin.val)).map (Value.int .u64)) := hrow
   have hBd : Below w.heap.size W W.drew := (Below.refl _ W).drew
   obtain ⟨hv1, hv2, hr2, hk2, hb2⟩ := hvd.appended (by decide) hrd hB.size (Nat.le_succ _) hown' hgrow
   have hb1 : Boxed w1 w.heap.size 73 (.pointer (some ⟨b, 0, none⟩)) := (hbd.alloc _).kept hgrow (hbd.not_row (by decide) hrd)
   have hB1 : Below w.heap.size W.drew w1 := by
    refine ((Below.refl _ W.drew).alloc hB.size _).grown hgrow (by simp; have := hB.size; omega) fun j ej => ?_
    rcases hrd.2 with ⟨rfl, _⟩ | ⟨q, cap, cur, rfl, hb, _, _⟩
    · simp [Value.ownBlock] at ej
    · obtain rfl : q = j := by simpa [Value.ownBlock] using ej
      exact hb
   have hb3 := hb1.other (B' := w.heap.size + 1) (by omega) (.slice (some ⟨g', 0, none⟩) (pre.length + 1) cap')
   have hx1 : addrsOf S ((pre ++ [(⟨x, hxl⟩ : Fin S.length)]).map Fin.val) = addrsOf S (pre.map Fin.val) ++ [s.addr] := by simp [addrsOf, Hs.out]
   refine ⟨g', cap', rfl, hv1.cell, hv1.frozen, ⟨hb1.cell, (hB1.cell (p := ⟨b, 0, none⟩) hb).trans c0, (hB1.cell (p := ⟨g, x * 2 + 1, none⟩) hg).trans a1⟩, ⟨hb3.cell, (hb2.cell (p := ⟨b, 0, none⟩) hb).trans c0, (hb2.cell (p := ⟨g, x * 2 + 1, none⟩) hg).trans a1⟩, ((KeepsOthers.drew W).trans hk2).from _, hBd.trans hb2, ⟨hb3, _, hv2, ?_, ?_⟩, hB.trans (hBd.trans hb2)⟩
   · rw [hx1, List.length_append, List.map_append]
     exact hr2
   · simp
  refine wpAnyH_ready (rs := [0, 9]) (by kernel_rfl) (by simp) (AllReadyH.cons rfl (fun K hK => ?_) (AllReadyH.cons rfl (fun K hK => ?_) AllReadyH.nil))
  · go_simp
    refine hK.out _ _ hS0 fun _ => ?_
    simp only [List.setIfInBounds_toArray, List.set_cons_zero]
    refine rdyA 9 (fun K hK => ?_)
    go_simp
    refine hK.out _ _ hS1 fun _ => ?_
    simp only [st0, st1, st2]
    refine rdyA 10 (fun K hK => ?_)
    refine step_append_own _ 17 rfl rfl _ _ 61 rfl w.heap.size 47 i0 (.int .u64 0) 1 8 Tryz.underlying61 hi hz0 hz1 hz2 rfl (by decide) _ _ _ rfl hrowd ⟨W.heap.size, 0, none⟩ 1 1 [.int .u64 s.addr] rfl rfl (cell_one_new _ _ _) (by simp [Value.oneCell']) hl1 (by omega) (by have := hB.size; simp; omega) ?_
    intro v' w1 hown' hgrow _
    obtain ⟨g', cap', rfl, hc1, hf1, hS2, hS3, hend⟩ := hlast v' w1 hown' hgrow
    refine hK.out _ _ hS2 fun _ => ?_
    simp only [st0, st1, st2]
    refine rdyA 11 (fun K hK => ?_)
    go_simp
    refine hK.out _ _ hS3 fun _ => ?_
    exact wpAnyH_done (by kernel_rfl) hend _
  · go_simp
    refine hK.out _ _ hS1 fun _ => ?_
    simp only [st0, st1, st2]
    refine rdyA 0 (fun K hK => ?_)
    have hcd : (W.alloc (.cells #[.int .u64 s.addr] 47)).drew.cell? ⟨w.heap.size + 1, 0, none⟩ = some v := cell_alloc (w := W.drew) hc
    go_simp
    refine hK.out _ _ hS1 fun _ => ?_
    simp only [List.setIfInBounds_toArray, List.set_cons_zero]
    refine rdyA 10 (fun K hK => ?_)
    refine step_append_own _ 17 rfl rfl _ _ 61 rfl w.heap.size 47 i0 (.int .u64 0) 1 8 Tryz.underlying61 hi hz0 hz1 hz2 rfl (by decide) _ _ _ rfl hrowd ⟨W.heap.size, 0, none⟩ 1 1 [.int .u64 s.addr] rfl rfl (cell_one_new _ _ _) (by simp [Value.oneCell']) hl1 (by omega) (by have := hB.size; simp; omega) ?_
    intro v' w1 hown' hgrow _
    obtain ⟨g', cap', rfl, hc1, hf1, hS2, hS3, hend⟩ := hlast v' w1 hown' hgrow
    refine hK.out _ _ hS2 fun _ => ?_
    simp only [st0, st1, st2]
    refine rdyA 11 (fun K hK => ?_)
    go_simp
    refine hK.out _ _ hS3 fun _ => ?_
    exact wpAnyH_done (by kernel_rfl) hend _
 case done =>
  rintro D ys W hD hys ⟨⟨bx, v, hv, hrow, hnil⟩, hB⟩ hK
  have hyl : ys.length = (livingOf S S.length).length := by rw [← hys, List.length_map]
  have hyn : ys = [] ↔ livingOf S S.length = [] := by rw [← hys, List.map_eq_nil_iff]
  rw [hyl, hys] at hrow
  rw [hyn] at hnil
  obtain ⟨av, nv, cv, rfl⟩ : ∃ av nv cv, v = .slice av nv cv := by
   rcases hrow.2 with ⟨h, -⟩ | ⟨g, cap, cur, h, -⟩
   · exact ⟨_, _, _, h⟩
   · exact ⟨_, _, _, h⟩
  have hc := hv.cell
  have hf := hv.frozen
  gi_wp2
  have hK2 := (KeepsOthers.setCell W ⟨w.heap.size + 1, 0, none⟩ (.slice av nv cv)).same D _ hK rfl
  have hc2 := (hv.set (.slice av nv cv)).cell
  refine ⟨by simp, .inl ⟨_, _, rfl, run_takeDeferred hK2, ?_⟩⟩
  have hc3 := cell_kept hc2 (grownBy_putObj' _ D (.deferred none)) (fun r e => by cases e; exact ⟨_, hK2, rfl⟩)
  refine ⟨.slice av nv cv, ?_, _, rfl, ?_, hnil, ?_⟩
  · simp [results, Tryz.results81, go_sem, hc3]
  · exact ownsRow_putObj (hrow.kept (grownBy_setCell' W (w.heap.size + 1) (.slice av nv cv)) (.inr (hv.not_row (by decide) hrow).symm)) _ hK2 rfl
  · exact (hB.setCell (p := ⟨w.heap.size + 1, 0, none⟩) (Nat.le_succ _) _).trans (belowK_b (w := w) (Nat.le_refl _) _ D _ _ (by omega) hK2 rfl rfl)
 case stop =>
  rintro D c pre W _ _ h _
  exact h.elim
theorem hRefs_any (p : Option Addr) (S : List HSlot) (hlen : S.length ≤ 4096) (w : World) (hP : Pointed w.heap.size w p S) :
  Calls Tryz.prog 81 #[.pointer p] w fun e W' => ∃ v, e = .returned v ∧ W'.ownsRow w.heap.size 47 1 v (livingOf S S.length).length ((addrsOf S (livingOf S S.length)).map (Value.int .u64)) ∧ (v = .slice none 0 0 ↔ livingOf S S.length = []) ∧ Below w.heap.size w W' :=
 (callsIn_wide (n := 3)).1 (hRefs_in Fence.wide 3 rfl rfl (Nat.le_refl _) p S hlen w hP)
end
section
open Go Go.RowKit Go.Shelf
attribute [local go_sem] Oper.semAt_some
theorem info_handle : (Tryz.prog.info? 83).map (fun i => (i.zero, i.size, i.bytes)) = some (some (.int .u64 0), 1, 8) := by kernel_rfl
theorem HCells.drew {w : World} {b g : Nat} {S : List HSlot} (h : HCells w b g S) : HCells w.drew b g S := ⟨h.c0, h.at_, h.free, h.ne⟩
theorem handle_cells (w : World) {b g : Nat} {S : List HSlot} (W : HCells w b g S) (hl : S.length ≤ 4096) (i : Nat) (s : HSlot) (hi : S[i]? = some s) (hsm : s.given < 4294967295) :
  Calls Tryz.prog 96 #[.pointer (some ⟨b, 0, none⟩), .int .i64 i] w fun e w' => e = .returned (.int .u64 (wh i s.given)) ∧ w = w' := by
 have hlt : i < S.length := (List.getElem?_eq_some_iff.1 hi).1
 have hlt' : (i : Int) < (S.length : Int) := by omega
 obtain ⟨c0, at_, -, -⟩ := W
 obtain ⟨a0, a1⟩ := at_ i s hi
 have hor := or_wh s.given i hsm (by omega)
 clear at_ hi
 go_enter Tryz.func96, Tryz.ntmps96
 go_wp2
 go_ret
 exact ⟨rfl, rfl⟩
def handsOf (S : List HSlot) (is : List Nat) : List Int := is.map fun i => wh i ((S[i]?.map HSlot.given).getD 0)
theorem hList_in (F : Fence) (n : Nat) (hF : F = Fence.wide) (hro : F.round = none) (hn : 3 ≤ n) (p : Option Addr) (S : List HSlot) (hlen : S.length ≤ 4096) (hsm : ∀ s ∈ S, s.given < 4294967295) (w : World) (hP : Pointed w.heap.size w p S) :
  CallsIn F n Tryz.prog 82 #[.pointer p] w fun e W' => ∃ v, e = .returned v ∧ W'.ownsRow w.heap.size 83 1 v (livingOf S S.length).length ((handsOf S (livingOf S S.length)).map (Value.int .u64)) ∧ (v = .slice none 0 0 ↔ livingOf S S.length = []) ∧ Below w.heap.size w W' := by
 have h1 : 1 ≤ n := by omega
 have hfn : ∀ k, F.fn k := by subst hF; exact fun _ => trivial
 have HF := uh hF
 clear hF
 have h5 := hfn 161
 have h7 := hfn 212
 obtain ⟨i0, hi, hz0, hz1, hz2⟩ := info_parts info_handle
 refine callsIn_of_wp_marks Tryz.func82 rfl (hfn _) ?_ hro
 simp only [Tryz.ntmps82, List.size_toArray, List.length_cons, List.length_nil, Nat.reduceAdd, Nat.reduceSub, Array.replicate_succ, Array.replicate_zero, List.push_toArray, List.append_toArray, List.nil_append, List.cons_append]
 gi_wp2_with (gi_at_call 161; refine (living_in F (n - 1) h5 hro _ _).mono ?_; rintro e w' ⟨rfl, rfl⟩)
 have bH := ((Boxed.new w 73 (.pointer p)).alloc (.cells #[.slice none 0 0] 165)).alloc (.cells #[.pointer p] 73)
 have bO := (Boxed.new (w.alloc (.cells #[.pointer p] 73)) 165 (.slice none 0 0)).alloc (.cells #[.pointer p] 73)
 have bN := Boxed.new ((w.alloc (.cells #[.pointer p] 73)).alloc (.cells #[.slice none 0 0] 165)) 73 (.pointer p)
 simp only [World.size_alloc] at bO bN
 have hB0 : Below w.heap.size w (((w.alloc (.cells #[.pointer p] 73)).alloc (.cells #[.slice none 0 0] 165)).alloc (.cells #[.pointer p] 73)) := (((Below.refl _ w).alloc (Nat.le_refl _) _).alloc (by simp) _).alloc (by simp; omega) _
 have hsz : (((w.alloc (.cells #[.pointer p] 73)).alloc (.cells #[.slice none 0 0] 165)).alloc (.cells #[.pointer p] 73)).heap.size = w.heap.size + 3 := by simp
 obtain ⟨W0, hW0⟩ : ∃ W0, ((w.alloc (.cells #[.pointer p] 73)).alloc (.cells #[.slice none 0 0] 165)).alloc (.cells #[.pointer p] 73) = W0 := ⟨_, rfl⟩
 rw [hW0] at bH bO bN hB0 hsz ⊢
 clear hW0
 refine wpIn_rangeFunc_ownG hro h1 (gf := 212) (lb := #[.pointer (some ⟨w.heap.size + 1 + 1, 0, none⟩)]) rfl h7 (enters_of Tryz.func212 (by kernel_rfl) rfl)
  (living_stops F (n - 1) h7 hro (by omega) (w.heap.size + 1 + 1) w.heap.size p S hlen W0 (by omega) (by omega) bN.cell (hP.below hB0)) belowK_t (belowK_b (by omega)) (Below.refl _ _) (fun _ => rfl)
  (fun pre W => (Boxed W w.heap.size 73 (.pointer p) ∧ ∃ v, Boxed W (w.heap.size + 1) 165 v ∧ W.ownsRow w.heap.size 83 1 v pre.length ((handsOf S (pre.map Fin.val)).map (Value.int .u64)) ∧ (v = .slice none 0 0 ↔ pre = [])) ∧ Below w.heap.size w W)
  (fun _ _ _ => False)
  (OwnFrom.and (OwnFrom.and (Own.from (boxed_own _ _ _) _) (Own.from (holdsRow_own w.heap.size (w.heap.size + 1) 165 83 1 (fun pre => pre.length) (fun pre => (handsOf S (pre.map Fin.val)).map (Value.int .u64)) (fun pre v => v = .slice none 0 0 ↔ pre = [])) _)) (ownFrom_below (Nat.le_refl _) (by omega)))
  (fun _ _ _ _ _ hs _ _ => hs)
  ⟨⟨bH, _, bO, World.ownsRow_nil _ _ _ _, by simp⟩, hB0⟩
  (fun x => { tmps := #[.pointer p, .pointer (some ⟨w.heap.size, 0, none⟩), .pointer (some ⟨w.heap.size + 1, 0, none⟩), .int .i64 (x.val : Int), .pointer p, .func (.func 212) #[] #[.pointer (some ⟨w.heap.size + 1 + 1, 0, none⟩)], .int .i64 (x.val : Int), undef, undef, undef, undef, undef, undef, undef], defers := [] }) ?assign ?body ?done ?stop
 case assign =>
  intro l x W K hK
  gi_wp2
  simpa using hK
 case body =>
  rintro l pre x W ⟨⟨bx, v, hv, hrow, hnil⟩, hB⟩ hlt
  rcases hP.below hB with ⟨rfl, rfl⟩ | ⟨b, g, rfl, hb, hg, hcs⟩
  · exact x.elim0
  have hc := hv.cell
  have hx := bx.cell
  have c0 := hcs.c0
  obtain ⟨x, hxl⟩ := x
  obtain ⟨s, hs⟩ : ∃ s, S[x]? = some s := ⟨S[x]'hxl, List.getElem?_eq_getElem _⟩
  have Hs := uh hs
  clear hs
  gi_wp2_with fail
  have hF := HF.out
  subst hF
  refine wpIn_region_round (S := fun w' => w'.cell? ⟨w.heap.size, 0, none⟩ = some (.pointer (some ⟨b, 0, none⟩))) 7 [false, false, false, false, false, false, false] rfl rfl (by kernel_rfl) (by rfl) (by rintro ⟨a, w, h⟩; exact h) ?_
  have hS0 : W.drew.cell? ⟨w.heap.size, 0, none⟩ = some (.pointer (some ⟨b, 0, none⟩)) := hx
  refine takeH 1 8 rfl rfl rfl (by kernel_rfl) (by kernel_rfl) (by kernel_rfl) (fun _ _ _ _ h => h) hS0 (by (intro w hSw; go_simp; try rfl)) ?_
  simp only [st1, st2]
  refine takeH 2 9 rfl rfl rfl (by kernel_rfl) (by kernel_rfl) (by kernel_rfl) (fun _ _ _ _ h => h) hS0 (by (intro w hSw; go_simp; try rfl)) ?_
  simp only [st1, st2]
  have hl1 : pre.length + 1 ≤ maxLen := by unfold maxLen; omega
  have hrowd : (W.drew.alloc (.cells #[.int .u64 (wh x s.given)] 83)).ownsRow w.heap.size 83 1 v pre.length ((handsOf S (pre.map Fin.val)).map (Value.int .u64)) := World.ownsRow.alloc (w := W.drew) hrow _
  have hS1 : (W.drew.alloc (.cells #[.int .u64 (wh x s.given)] 83)).cell? ⟨w.heap.size, 0, none⟩ = some (.pointer (some ⟨b, 0, none⟩)) := cell_alloc hS0
  have hcd : (W.alloc (.cells #[.int .u64 (wh x s.given)] 83)).drew.cell? ⟨w.heap.size + 1, 0, none⟩ = some v := cell_alloc (w := W.drew) hc
  have hcall := handle_cells W.drew hcs.drew hlen x s Hs.out (hsm s (List.mem_of_getElem? Hs.out))
  have Hcall := uh hcall
  clear hcall
  have hlast : ∀ v' w1, w1.ownsRow w.heap.size 83 1 v' (pre.length + 1) ((handsOf S (pre.map Fin.val)).map (Value.int .u64) ++ [.int .u64 (wh x s.given)]) → (W.drew.alloc (.cells #[.int .u64 (wh x s.given)] 83)).grownBy w1 v.ownBlock →
    ∃ g' cap', v' = .slice (some ⟨g', 0, none⟩) (pre.length + 1) cap' ∧ w1.cell? ⟨w.heap.size + 1, 0, none⟩ = some v ∧ w1.frozen? ⟨w.heap.size + 1, 0, none⟩ = false ∧
     (w1.cell? ⟨w.heap.size, 0, none⟩ = some (.pointer (some ⟨b, 0, none⟩))) ∧
     ((w1.setCell ⟨w.heap.size + 1, 0, none⟩ v').cell? ⟨w.heap.size, 0, none⟩ = some (.pointer (some ⟨b, 0, none⟩))) ∧
     KeepsFrom W0.heap.size W (w1.setCell ⟨w.heap.size + 1, 0, none⟩ v') ∧ Below w.heap.size W (w1.setCell ⟨w.heap.size + 1, 0, none⟩ v') ∧
     ((Boxed (w1.setCell ⟨w.heap.size + 1, 0, none⟩ v') w.heap.size 73 (.pointer (some ⟨b, 0, none⟩)) ∧ ∃ u, Boxed (w1.setCell ⟨w.heap.size + 1, 0, none⟩ v') (w.heap.size + 1) 165 u ∧ (w1.setCell ⟨w.heap.size + 1, 0, none⟩ v').ownsRow w.heap.size 83 1 u (pre ++ [(⟨x, hxl⟩ : Fin S.length)]).length ((handsOf S ((pre ++ [(⟨x, hxl⟩ : Fin S.length)]).map Fin.val)).map (Value.int .u64)) ∧ (u = .slice none 0 0 ↔ pre ++ [(⟨x, hxl⟩ : Fin S.length)] = [])) ∧ Below w.heap.size w (w1.setCell ⟨w.heap.size + 1, 0, none⟩ v')) := by
   intro v' w1 hown' hgrow
   obtain ⟨g', cap', rfl⟩ := ownsRow_succ hown'
   have hvd : Boxed W.drew (w.heap.size + 1) 165 v := hv
   have hbd : Boxed W.drew w.heap.size 73 (.pointer (some ⟨b, 0, none⟩)) := bx
   have hrd : W.drew.ownsRow w.heap.size 83 1 v pre.length ((handsOf S (pre.map Fin.val)).map (Value.int .u64)) := hrow
   have hBd : Below w.heap.size W W.drew := (Below.refl _ W).drew
   obtain ⟨hv1, hv2, hr2, hk2, hb2⟩ := hvd.appended (by decide) hrd hB.size (Nat.le_succ _) hown' hgrow
   have hb1 : Boxed w1 w.heap.size 73 (.pointer (some ⟨b, 0, none⟩)) := (hbd.alloc _).kept hgrow (hbd.not_row (by decide) hrd)
   have hB1 : Below w.heap.size W.drew w1 := by
    refine ((Below.refl _ W.drew).alloc hB.size _).grown hgrow (by simp; have := hB.size; omega) fun j ej => ?_
    rcases hrd.2 with ⟨rfl, _⟩ | ⟨q, cap, cur, rfl, hb, _, _⟩
    · simp [Value.ownBlock] at ej
    · obtain rfl : q = j := by simpa [Value.ownBlock] using ej
      exact hb
   have hb3 := hb1.other (B' := w.heap.size + 1) (by omega) (.slice (some ⟨g', 0, none⟩) (pre.length + 1) cap')
   have hx1 : handsOf S ((pre ++ [(⟨x, hxl⟩ : Fin S.length)]).map Fin.val) = handsOf S (pre.map Fin.val) ++ [wh x s.given] := by simp [handsOf, Hs.out]
   refine ⟨g', cap', rfl, hv1.cell, hv1.frozen, hb1.cell, hb3.cell, ((KeepsOthers.drew W).trans hk2).from _, hBd.trans hb2, ⟨hb3, _, hv2, ?_, ?_⟩, hB.trans (hBd.trans hb2)⟩
   · rw [hx1, List.length_append, List.map_append]
     exact hr2
   · simp
  refine wpAnyH_ready (rs := [0, 3]) (by kernel_rfl) (by simp) (AllReadyH.cons rfl (fun K hK => ?_) (AllReadyH.cons rfl (fun K hK => ?_) AllReadyH.nil))
  · go_simp
    refine hK.out _ _ hS0 fun _ => ?_
    simp only [List.setIfInBounds_toArray, List.set_cons_zero]
    refine rdyA 3 (fun K hK => ?_)
    go_simp
    refine (Hcall.out).mono ?_
    rintro e w' ⟨rfl, rfl⟩
    refine hK.out _ _ hS0 fun _ => ?_
    simp only [st0, st1, st2]
    refine rdyA 4 (fun K hK => ?_)
    go_simp
    refine hK.out _ _ hS1 fun _ => ?_
    simp only [st0, st1, st2]
    refine rdyA 5 (fun K hK => ?_)
    refine step_append_own _ 12 rfl rfl _ _ 165 rfl w.heap.size 83 i0 (.int .u64 0) 1 8 Tryz.underlying165 hi hz0 hz1 hz2 rfl (by decide) _ _ _ rfl hrowd ⟨W.heap.size, 0, none⟩ 1 1 [.int .u64 (wh x s.given)] rfl rfl (cell_one_new _ _ _) (by simp [Value.oneCell']) hl1 (by omega) (by have := hB.size; simp; omega) ?_
    intro v' w1 hown' hgrow _
    obtain ⟨g', cap', rfl, hc1, hf1, hS2, hS3, hend⟩ := hlast v' w1 hown' hgrow
    refine hK.out _ _ hS2 fun _ => ?_
    simp only [st0, st1, st2]
    refine rdyA 6 (fun K hK => ?_)
    go_simp
    refine hK.out _ _ hS3 fun _ => ?_
    exact wpAnyH_done (by kernel_rfl) hend _
  · go_simp
    refine (Hcall.out).mono ?_
    rintro e w' ⟨rfl, rfl⟩
    refine hK.out _ _ hS0 fun _ => ?_
    simp only [st0, st1, st2]
    refine wpAnyH_ready (rs := [0, 4]) (by kernel_rfl) (by simp) (AllReadyH.cons rfl (fun K hK => ?_) (AllReadyH.cons rfl (fun K hK => ?_) AllReadyH.nil))
    · go_simp
      refine hK.out _ _ hS0 fun _ => ?_
      simp only [List.setIfInBounds_toArray, List.set_cons_zero]
      refine rdyA 4 (fun K hK => ?_)
      go_simp
      refine hK.out _ _ hS1 fun _ => ?_
      simp only [st0, st1, st2]
      refine rdyA 5 (fun K hK => ?_)
      refine step_append_own _ 12 rfl rfl _ _ 165 rfl w.heap.size 83 i0 (.int .u64 0) 1 8 Tryz.underlying165 hi hz0 hz1 hz2 rfl (by decide) _ _ _ rfl hrowd ⟨W.heap.size, 0, none⟩ 1 1 [.int .u64 (wh x s.given)] rfl rfl (cell_one_new _ _ _) (by simp [Value.oneCell']) hl1 (by omega) (by have := hB.size; simp; omega) ?_
      intro v' w1 hown' hgrow _
      obtain ⟨g', cap', rfl, hc1, hf1, hS2, hS3, hend⟩ := hlast v' w1 hown' hgrow
      refine hK.out _ _ hS2 fun _ => ?_
      simp only [st0, st1, st2]
      refine rdyA 6 (fun K hK => ?_)
      go_simp
      refine hK.out _ _ hS3 fun _ => ?_
      exact wpAnyH_done (by kernel_rfl) hend _
    · go_simp
      refine hK.out _ _ hS1 fun _ => ?_
      simp only [st0, st1, st2]
      refine rdyA 0 (fun K hK => ?_)
      go_simp
      refine hK.out _ _ hS1 fun _ => ?_
      simp only [List.setIfInBounds_toArray, List.set_cons_zero]
      refine rdyA 5 (fun K hK => ?_)
      refine step_append_own _ 12 rfl rfl _ _ 165 rfl w.heap.size 83 i0 (.int .u64 0) 1 8 Tryz.underlying165 hi hz0 hz1 hz2 rfl (by decide) _ _ _ rfl hrowd ⟨W.heap.size, 0, none⟩ 1 1 [.int .u64 (wh x s.given)] rfl rfl (cell_one_new _ _ _) (by simp [Value.oneCell']) hl1 (by omega) (by have := hB.size; simp; omega) ?_
      intro v' w1 hown' hgrow _
      obtain ⟨g', cap', rfl, hc1, hf1, hS2, hS3, hend⟩ := hlast v' w1 hown' hgrow
      refine hK.out _ _ hS2 fun _ => ?_
      simp only [st0, st1, st2]
      refine rdyA 6 (fun K hK => ?_)
      go_simp
      refine hK.out _ _ hS3 fun _ => ?_
      exact wpAnyH_done (by kernel_rfl) hend _
 case done =>
  rintro D ys W hD hys ⟨⟨bx, v, hv, hrow, hnil⟩, hB⟩ hK
  have hyl : ys.length = (livingOf S S.length).length := by rw [← hys, List.length_map]
  have hyn : ys = [] ↔ livingOf S S.length = [] := by rw [← hys, List.map_eq_nil_iff]
  rw [hyl, hys] at hrow
  rw [hyn] at hnil
  obtain ⟨av, nv, cv, rfl⟩ : ∃ av nv cv, v = .slice av nv cv := by
   rcases hrow.2 with ⟨h, -⟩ | ⟨g, cap, cur, h, -⟩
   · exact ⟨_, _, _, h⟩
   · exact ⟨_, _, _, h⟩
  have hc := hv.cell
  have hf := hv.frozen
  gi_wp2
  have hK2 := (KeepsOthers.setCell W ⟨w.heap.size + 1, 0, none⟩ (.slice av nv cv)).same D _ hK rfl
  have hc2 := (hv.set (.slice av nv cv)).cell
  refine ⟨by simp, .inl ⟨_, _, rfl, run_takeDeferred hK2, ?_⟩⟩
  have hc3 := cell_kept hc2 (grownBy_putObj' _ D (.deferred none)) (fun r e => by cases e; exact ⟨_, hK2, rfl⟩)
  refine ⟨.slice av nv cv, ?_, _, rfl, ?_, hnil, ?_⟩
  · simp [results, Tryz.results82, go_sem, hc3]
  · exact ownsRow_putObj (hrow.kept (grownBy_setCell' W (w.heap.size + 1) (.slice av nv cv)) (.inr (hv.not_row (by decide) hrow).symm)) _ hK2 rfl
  · exact (hB.setCell (p := ⟨w.heap.size + 1, 0, none⟩) (Nat.le_succ _) _).trans (belowK_b (w := w) (Nat.le_refl _) _ D _ _ (by omega) hK2 rfl rfl)
 case stop =>
  rintro D c pre W _ _ h _
  exact h.elim
theorem hList_any (p : Option Addr) (S : List HSlot) (hlen : S.length ≤ 4096) (hsm : ∀ s ∈ S, s.given < 4294967295) (w : World) (hP : Pointed w.heap.size w p S) :
  Calls Tryz.prog 82 #[.pointer p] w fun e W' => ∃ v, e = .returned v ∧ W'.ownsRow w.heap.size 83 1 v (livingOf S S.length).length ((handsOf S (livingOf S S.length)).map (Value.int .u64)) ∧ (v = .slice none 0 0 ↔ livingOf S S.length = []) ∧ Below w.heap.size w W' :=
 (callsIn_wide (n := 3)).1 (hList_in Fence.wide 3 rfl rfl (Nat.le_refl _) p S hlen hsm w hP)
end
end Go.Proofs.YtbecgkejdacidaaGreatDoor
namespace Go.Proofs.YtbecgkejdacidaaGreatDoor
open Go Go.RowKit Go.Shelf
section
variable {b : Nat} {S : List HSlot} {l R : List Blk}
theorem HandsIs.pointed {w : World} (hS : HandsIs b S l) (hH : Has w (l ++ R)) : Pointed w.heap.size w (some ⟨b, 0, none⟩) S := by
 obtain ⟨hok, g, cur, rfl, hc⟩ := hS
 exact .inr ⟨b, g, rfl, hH.lt (by simp), hH.lt (by simp), hcells hc hH⟩
def SlicePost (e : TypeId) (xs : List Int) (L : List Blk) (w : World) (en : Ending) (w' : World) : Prop :=
 ∃ ao cap l', en = .returned (.slice ao xs.length cap) ∧ Row e 1 ao xs.length cap (xs.map (Value.int .u64)) l' ∧ Turn L w (l' ++ L) w'
end
namespace handNil
variable {R : List Blk}
theorem nRefs (w : World) (hH : Has w R) : Calls Tryz.prog 81 #[.pointer none] w fun e w' => e = .returned (.slice none 0 0) ∧ Turn R w R w' :=
 (hRefs_any none [] (Nat.zero_le _) w (.inl ⟨rfl, rfl⟩)).mono fun _ _ ⟨v, he, _, hn, hB⟩ => ⟨by rw [he, hn.2 rfl], Turn.of_below hH hB⟩
theorem nList (w : World) (hH : Has w R) : Calls Tryz.prog 82 #[.pointer none] w fun e w' => e = .returned (.slice none 0 0) ∧ Turn R w R w' :=
 (hList_any none [] (Nat.zero_le _) (fun s h => by cases h) w (.inl ⟨rfl, rfl⟩)).mono fun _ _ ⟨v, he, _, hn, hB⟩ => ⟨by rw [he, hn.2 rfl], Turn.of_below hH hB⟩
end handNil
end Go.Proofs.YtbecgkejdacidaaGreatDoor
namespace Go.Proofs.YtbecgkejdacidaaGreatDoor
open Go Go.RowKit
section
variable {b : Nat} {S : List HSlot} {l R : List Blk}
theorem hAdd_at (w : World) (hS : HandsIs b S l) (hH : Has w (l ++ R)) (a : Int) (ha : a ≠ 0) (hsm : ∀ s ∈ S, s.given < 4294967294) (i : Nat) (s : HSlot) (hi : S[i]? = some s) (hst : s.addr = 0) (hf : ∀ (j : Nat) (t : HSlot), j < i → S[j]? = some t → t.addr ≠ 0) :
  Calls Tryz.prog 31 #[.pointer (some ⟨b, 0, none⟩), .int .u64 a] w fun e w' => e = .returned (.tuple #[.int .u64 (wh i (s.given + 1)), .int .i64 0]) ∧ ∃ l', HandsIs b (S.set i ⟨s.given + 1, a⟩) l' ∧ Turn (l ++ R) w (l' ++ R) w' := by
 refine (hAdd_any w hS hH a ha hsm).mono ?_
 rintro e w' (⟨i', s', l', hi', hst', hf', rfl, hS', T⟩ | ⟨hall, -⟩)
 · have hii : i = i' := by
     rcases Nat.lt_trichotomy i i' with h | h | h
     · exact absurd hst (hf' i s h hi)
     · exact h
     · exact absurd hst' (hf i' s' h hi')
   subst hii
   have hss := hi.symm.trans hi'
   cases hss
   exact ⟨rfl, l', hS', T⟩
 · exact absurd hst (hall i s hi)
end
end Go.Proofs.YtbecgkejdacidaaGreatDoor
namespace Go.Proofs.YtbecgkejdacidaaGreatDoor
section
open Go Go.RowKit Go.Shelf Go.IntWalk
attribute [local go_sem] Oper.semAt_some
theorem neach (w : World) (f : Value) : Calls Tryz.prog 164 #[.pointer none, f] w fun e w' => e = .returned (.tuple #[]) ∧ w' = w := by
 go_enter Tryz.func164, Tryz.ntmps164
 go_wp2
 (try simp only [Exit.inBlock, Exit.then]); refine bodyPost_ret (results_none rfl _ _ _) rfl ?_
 exact ⟨rfl, rfl⟩
theorem nwRefs (w : World) : Calls Tryz.prog 87 #[.pointer none] w fun e w' => e = .returned (.slice none 0 0) ∧ Below w.heap.size w w' := by
 have T0 := (Turn.refl (Has.nil w)).alloc (.cells #[.slice none 0 0] 61)
 have q0 := T0.cell1 0
 have f0 := T0.free1 0
 have HT := uh T0
 clear T0
 go_enter Tryz.func87, Tryz.ntmps87
 go_wp2_with (first
  | (go_at_call 164; refine (neach _ _).mono ?_; rintro e w' ⟨rfl, hw⟩; rw [hw]; clear hw w')
  | fail)
 have q1 := HT.out.cell1 0
 refine bodyPost_ret (v := .slice none 0 0) ?_ rfl ?_
 · simp [results, Tryz.results87, go_sem]
 · exact ⟨rfl, HT.out.below⟩
theorem nwList (w : World) : Calls Tryz.prog 86 #[.pointer none] w fun e w' => e = .returned (.slice none 0 0) ∧ Below w.heap.size w w' := by
 have T0 := ((Turn.refl (Has.nil w)).alloc (.cells #[.pointer none] 68)).alloc (.cells #[.slice none 0 0] 168)
 rw [World.size_alloc] at T0
 have q0 := T0.cell1 0
 have f0 := T0.free1 0
 have q9 := T0.cell2 0
 have HT := uh T0
 clear T0
 go_enter Tryz.func86, Tryz.ntmps86
 go_wp2_with (first
  | (go_at_call 164; refine (neach _ _).mono ?_; rintro e w' ⟨rfl, hw⟩; rw [hw]; clear hw w')
  | fail)
 have q1 := HT.out.cell1 0
 refine bodyPost_ret (v := .slice none 0 0) ?_ rfl ?_
 · simp [results, Tryz.results86, go_sem]
 · exact ⟨rfl, HT.out.below⟩
theorem npall (n : Nat) (Bs : Nat) (w : World) (hBs : w.heap[Bs]? = some (.cells #[.pointer none] 74)) :
  SeqG Fence.wide n Tryz.prog 214 #[.pointer (some ⟨Bs, 0, none⟩)] (fun x : Nat => #[.int .u64 x]) (fun _ _ => True) (fun _ _ => False) (fun xs => xs = []) (fun _ => True) w := fun l J W0 hW hJ hG hY h0 => by
 have hB0 : W0.heap[Bs]? = some (.cells #[.pointer none] 74) := (hW.block Bs (lt_of_block hBs)).trans hBs
 have q : W0.cell? ⟨Bs, 0, none⟩ = some (.pointer none) := (Has.one hB0).cell (List.mem_cons_self ..) 0
 have hFl : Fence.wide.fn 214 := trivial
 have H0 := uh h0
 clear hY hG hJ h0 hB0
 refine callsIn_of_wp Tryz.func214 rfl hFl ?_ rfl
 simp only [Tryz.ntmps214, List.size_toArray, List.length_cons, List.length_nil, Nat.reduceAdd, Nat.reduceSub, Array.replicate_succ, Array.replicate_zero, List.push_toArray, List.append_toArray, List.nil_append, List.cons_append]
 gi_wp2_with fail
 (try simp only [Exit.inBlock, Exit.then]); refine bodyPost_ret (results_none rfl _ _ _) rfl ?_
 exact ⟨⟨_, rfl⟩, [], rfl, H0.out⟩
theorem npapp (w : World) (Bs : Nat) (hBs : w.heap[Bs]? = some (.cells #[.pointer none] 74)) :
  Calls Tryz.prog 213 #[.slice none 0 0, .func (.func 214) #[] #[.pointer (some ⟨Bs, 0, none⟩)]] w fun e w' => e = .returned (.slice none 0 0) ∧ Below w.heap.size w w' := by
 refine (callsIn_wide (n := 4)).1 ?_
 have h3 : Fence.wide.fn 213 := trivial
 have h6 : Fence.wide.fn 214 := trivial
 have hro : Fence.wide.round = none := rfl
 have T0 := (Turn.refl (Has.nil w)).alloc (.cells #[.slice none 0 0] 61)
 refine callsIn_of_wp_marks Tryz.func213 rfl h3 ?_ hro
 simp only [Tryz.ntmps213, List.size_toArray, List.length_cons, List.length_nil, Nat.reduceAdd, Nat.reduceSub, Array.replicate_succ, Array.replicate_zero, List.push_toArray, List.append_toArray, List.nil_append, List.cons_append]
 gi_wp2_with fail
 generalize hW : w.alloc (.cells #[.slice none 0 0] 61) = W0 at *
 have hBs0 : W0.heap[Bs]? = some (.cells #[.pointer none] 74) := (T0.below.block Bs (lt_of_block hBs)).trans hBs
 refine wpIn_rangeFunc_g (α := Nat) (β := Nat) (FA := fun _ _ => { tmps := #[], defers := [] }) hro (by omega) (gf := 214) (lb := #[.pointer (some ⟨Bs, 0, none⟩)]) rfl h6 (enters_of Tryz.func214 (by kernel_rfl) rfl) (npall _ Bs W0 hBs0)
  (fun _ _ => trivial) (fun _ _ _ _ _ _ _ _ => trivial) (Below.refl _ _) (fun _ => rfl) (fun _ W' => Turn [] w [(w.heap.size, .cells #[.slice none 0 0] 61)] W') (fun _ _ _ _ => False) (fun s A D row hT hg hr => hT.grownC T0.size (fun y hy => .inl (by rw [List.mem_singleton.1 hy]; rfl)) hg hr) (fun _ _ _ _ _ _ h => h.elim) T0 (fun _ _ _ => trivial) (fun _ _ _ _ h => h.elim) (fun _ _ _ _ _ h => h.elim) ?_
 rintro D xs W2 hD - hT hK
 have q0 := hT.cell1 0
 have T10 := hT.grownC (B := W0.heap.size) T0.size (fun y hy => .inl (by rw [List.mem_singleton.1 hy]; rfl)) (grownBy_putObj' _ D (.deferred none)) (fun r e => by cases e; exact ⟨hD, _, hK, rfl⟩)
 have HT10 := uh T10
 have HK := uh hK
 clear hT hK T10
 gi_wp2_with fail
 refine ⟨by simp, .inl ⟨_, _, rfl, run_takeDeferred HK.out, ?_⟩⟩
 refine ⟨.slice none 0 0, ?_, rfl, HT10.out.below⟩
 simp [results, Tryz.results213, go_sem]
theorem npList (w : World) : Calls Tryz.prog 84 #[.pointer none] w fun e w' => e = .returned (.slice none 0 0) ∧ Below w.heap.size w w' := by
 have Hall : ∀ w, Calls Tryz.prog 163 #[.pointer none] w fun e w' => e = .returned (.func (.func 214) #[] #[.pointer (some ⟨w.heap.size, 0, none⟩)]) ∧ w' = w.alloc (.cells #[.pointer none] 74) := fun w => by
  go_enter Tryz.func163, Tryz.ntmps163
  go_wp2
  go_ret
  exact ⟨rfl, rfl⟩
 have HA := uh (Hall w)
 have T0 := (Turn.refl (Has.nil w)).alloc (.cells #[.pointer none] 74)
 have Happ := uh (npapp (w.alloc (.cells #[.pointer none] 74)) w.heap.size (T0.has.own _ _ (List.mem_cons_self ..)))
 have HT := uh T0
 have Hcol : Calls Tryz.prog 162 #[.func (.func 214) #[] #[.pointer (some ⟨w.heap.size, 0, none⟩)]] (w.alloc (.cells #[.pointer none] 74)) fun e w' => e = .returned (.slice none 0 0) ∧ Below (w.alloc (.cells #[.pointer none] 74)).heap.size (w.alloc (.cells #[.pointer none] 74)) w' := by
  go_enter Tryz.func162, Tryz.ntmps162
  go_wp2_with fail
  refine Happ.out.mono ?_
  rintro e w2 ⟨rfl, hB⟩
  have HB := uh hB
  clear hB
  go_wp2_with fail
  go_ret
  exact ⟨rfl, HB.out⟩
 have HC := uh Hcol
 clear Hall Hcol T0 Happ
 go_enter Tryz.func84, Tryz.ntmps84
 go_wp2_with fail
 refine HA.out.mono ?_
 rintro e w1 ⟨rfl, hw⟩
 rw [hw]
 clear hw w1 HA
 go_wp2_with fail
 refine HC.out.mono ?_
 rintro e w2 ⟨rfl, hB⟩
 have HB := uh (HT.out.below.trans (hB.mono HT.out.size))
 clear hB HC
 go_wp2_with fail
 go_ret
 exact ⟨rfl, HB.out⟩
end
section
open Go Go.RowKit Go.IntWalk
theorem tells_none {f : Nat} {e : TypeId} (w : World) (h : ∀ w, Calls Tryz.prog f #[.pointer none] w fun en w' => en = .returned (.slice none 0 0) ∧ Below w.heap.size w w') : Tells f e none w [] := fun w' _ => by
 refine (h w').mono ?_
 rintro en w2 ⟨rfl, hB⟩
 exact ⟨none, 0, [], rfl, Row.nil _ _, Turn.of_below (Has.nil w') hB⟩
theorem nhRefs (w : World) : Calls Tryz.prog 81 #[.pointer none] w fun en w' => en = .returned (.slice none 0 0) ∧ Below w.heap.size w w' := (handNil.nRefs w (Has.nil w)).mono fun _ _ ⟨h1, h2⟩ => ⟨h1, h2.below⟩
theorem nhList (w : World) : Calls Tryz.prog 82 #[.pointer none] w fun en w' => en = .returned (.slice none 0 0) ∧ Below w.heap.size w w' := (handNil.nList w (Has.nil w)).mono fun _ _ ⟨h1, h2⟩ => ⟨h1, h2.below⟩
theorem sbat_pl {w1 : World} (w : World) {sb tb rb lcap : Nat} {lao : Option Addr} {L : List Ty} {W B Wr : List Nat} {X : List Blk} {cs : List Ce} (hb : PlBase w1 tb L lao lcap) (hP : PlAt w1 w sb tb rb lao lcap L W B Wr X) (h : Pl L W B cs) :
  ∃ a aw bb bo bcap tao tcap, SbAt w sb a aw tb bb W B bo bcap tao tcap L ∧ SdIn L W B cs := by
 obtain ⟨tao, tcap, hTab⟩ := hb.tab
 have hsm := h.good.small
 have hfew := h.good.few
 obtain ⟨ls, lr, ⟨a, aw, bb, cw, lb, hbit, rfl⟩, hR, hX, T⟩ := hP
 have hA := spAt_of T hTab hb.fields (by omega)
 obtain ⟨bo, bcap, hBit⟩ := hbit.at_ (R := arBlks a aw W cw ++ (spBlk sb a tb bb :: (lr ++ X))) (T.has.perm po)
 exact ⟨a, aw, bb, bo, bcap, tao, tcap, ⟨hA, T.has.cell (b := sb) (c := #[.pointer (some ⟨a, 0, none⟩), .pointer (some ⟨tb, 0, none⟩), .pointer (some ⟨bb, 0, none⟩)]) (e := 146) (f := (0, 0)) (by simp [spBlk]) 2, hBit⟩,
  ⟨by omega, h.good.u64, hb.ty, by omega, h.good.chain, h.bu, h.bl, h.bits⟩⟩
end
section
open Go Go.RowKit
def hAt (S : List HSlot) (i : Nat) : Nat × Nat := (((S[i]?.map HSlot.given).getD 0) * 4294967296 + i, ((S[i]?.map HSlot.addr).getD 0).toNat)
def hdl (S : List HSlot) : List (Nat × Nat) := (livingOf S S.length).map (hAt S)
theorem addr_nat {S : List HSlot} (h0 : ∀ s ∈ S, 0 ≤ s.addr) (i : Nat) : 0 ≤ (S[i]?.map HSlot.addr).getD 0 := by
 cases h : S[i]? with
 | none => simp
 | some s => simpa using h0 s (List.mem_of_getElem? h)
theorem hdl_refs {S : List HSlot} (h0 : ∀ s ∈ S, 0 ≤ s.addr) : (addrsOf S (livingOf S S.length)).map (Value.int .u64) = n64s ((hdl S).map (·.2)) := by
 unfold addrsOf n64s hdl
 simp only [List.map_map]
 refine List.map_congr_left fun i _ => ?_
 have := addr_nat h0 i
 simp only [Function.comp, hAt]
 rw [Int.toNat_of_nonneg this]
theorem hdl_list (S : List HSlot) : (handsOf S (livingOf S S.length)).map (Value.int .u64) = n64s ((hdl S).map (·.1)) := by
 unfold handsOf n64s hdl
 simp only [List.map_map]
 refine List.map_congr_left fun i _ => ?_
 simp only [Function.comp, hAt, wh]
theorem hdl_len (S : List HSlot) : (hdl S).length = (livingOf S S.length).length := List.length_map ..
theorem Pointed.more {n₀ n1 : Nat} {W : World} {p : Option Addr} {S : List HSlot} (h : Pointed n₀ W p S) (hn : n₀ ≤ n1) : Pointed n1 W p S := by
 rcases h with h | ⟨b, g, h1, h2, h3, h4⟩
 · exact .inl h
 · exact .inr ⟨b, g, h1, by omega, by omega, h4⟩
theorem tells_hrefs (w : World) (p : Option Addr) (S : List HSlot) (hlen : S.length ≤ 4096) (h0 : ∀ s ∈ S, 0 ≤ s.addr) (hP : Pointed w.heap.size w p S) : Tells 81 47 p w ((hdl S).map (·.2)) := fun w' hk => by
 refine (hRefs_any p S hlen w' ((hP.below hk).more hk.size)).mono ?_
 rintro e w2 ⟨v, rfl, ho, -, hB⟩
 obtain ⟨ao, cap, l', rfl, hr, T⟩ := Turn.of_owns (Has.nil w') hB ho
 rw [hdl_refs h0] at hr
 have hl : ((hdl S).map (·.2)).length = (livingOf S S.length).length := by rw [List.length_map, hdl_len]
 rw [hl]
 exact ⟨ao, cap, l', rfl, hr, by simpa using T⟩
theorem tells_hlist (w : World) (p : Option Addr) (S : List HSlot) (hlen : S.length ≤ 4096) (hsm : ∀ s ∈ S, s.given < 4294967295) (hP : Pointed w.heap.size w p S) : Tells 82 83 p w ((hdl S).map (·.1)) := fun w' hk => by
 refine (hList_any p S hlen hsm w' ((hP.below hk).more hk.size)).mono ?_
 rintro e w2 ⟨v, rfl, ho, -, hB⟩
 obtain ⟨ao, cap, l', rfl, hr, T⟩ := Turn.of_owns (Has.nil w') hB ho
 rw [hdl_list] at hr
 have hl : ((hdl S).map (·.1)).length = (livingOf S S.length).length := by rw [List.length_map, hdl_len]
 rw [hl]
 exact ⟨ao, cap, l', rfl, hr, by simpa using T⟩
end
section
open Go Go.RowKit Go.Shelf
theorem bcheck_fresh (b : Nat) (w : World) (h0 : w.cell? ⟨b, 0, none⟩ = some (.pointer none)) (hsh : w.shape? b = some (242, 2)) (hfz : w.frozen? ⟨b, 0, none⟩ = false) :
  Calls Tryz.prog 190 #[.pointer (some ⟨b, 0, none⟩)] w fun e w' => e = .returned (.tuple #[]) ∧ w' = w.setCell ⟨b, 0, none⟩ (.pointer (some ⟨b, 0, none⟩)) := by
 obtain ⟨j, hj, hjs⟩ := Option.map_eq_some_iff.1 (show (Tryz.prog.info? 242).map (·.size) = some 2 by kernel_rfl)
 go_enter Tryz.func190, Tryz.ntmps190
 go_wp2
 rw [Lib.run_to_unsafe w ⟨b, 0, none⟩ Tryz.underlying240 Tryz.underlying362 hj (by rw [hjs]; decide) hsh (Nat.zero_lt_succ 1)]
 simp only [Result.andThen]
 rw [Oper.upon_value]
 go_wp2
 rw [run_callFunc_extern Tryz.func234 (by kernel_rfl) (by kernel_rfl) (by kernel_rfl) (e := Extern.AbiNoEscape.same) (by kernel_rfl)]
 rw [Lib.run_noEscape]
 simp only [Result.andThen]
 rw [Oper.upon_value]
 go_wp2
 rw [Lib.run_from_unsafe w ⟨b, 0, none⟩ Tryz.underlying362 Tryz.underlying240 hj hsh (by kernel_rfl)]
 simp only [Result.andThen]
 rw [Oper.upon_value]
 go_wp2
 go_end0
 exact ⟨rfl, rfl⟩
theorem bgrow_fresh (B b n : Nat) (w : World) (hB : B ≤ b) (hbk : w.heap[b]? = some (.cells #[.pointer (some ⟨b, 0, none⟩), .slice none 0 0] 242 (0, 0))) (hBw : B ≤ w.heap.size) (hn : n ≤ 281474976710656) :
  Calls Tryz.prog 221 #[.pointer (some ⟨b, 0, none⟩), .int .i64 n] w fun e w' => e = .returned (.tuple #[]) ∧ (Lib.BuilderAt 242 5 B b (.pointer (some ⟨b, 0, none⟩)) [] w' ∧ Below B w w') := by
 obtain ⟨cs, hrun, hle, hmax⟩ := Lib.run_makeNoZero (P := Tryz.prog) w.drew #[3] 95 5 Tryz.underlying95 n hn
 have hw : IntKind.i64.wrap (IntKind.i64.wrap 0 + (n : Int)) = n := by
  rw [IntKind.wrap_i64, IntKind.wrap_i64]
  omega
 have hcall : (callFunc 259 #[.int .i64 (IntKind.i64.wrap (IntKind.i64.wrap 0 + (n : Int)))]).run Tryz.prog w.drew = .ok (.value (.slice (some ⟨w.drew.heap.size, 0, none⟩) n cs.size)) (w.drew.drew.drew.alloc (.cells cs 5)) := by
  rw [hw, run_callFunc_extern Tryz.func259 (by kernel_rfl) (by kernel_rfl) (by kernel_rfl) (e := Extern.BytealgMakeNoZero.makeNoZero #[3] #[95]) (by kernel_rfl), hrun]
  rfl
 have hlt : b < w.heap.size := by
  rcases Nat.lt_or_ge b w.heap.size with h' | h'
  · exact h'
  · simp [Array.getElem?_eq_none h'] at hbk
 have c1 : w.drew.cell? ⟨b, 1, none⟩ = some (.slice none 0 0) := by
  have : w.drew.heap[b]? = _ := hbk
  rw [Lib.cell_of_heap this]; rfl
 have c2 : (w.alloc (.cells cs 5)).cell? ⟨b, 1, none⟩ = some (.slice none 0 0) := by
  have : (w.alloc (.cells cs 5)).heap[b]? = _ := (Lib.alloc_old w _ b hlt).trans hbk
  rw [Lib.cell_of_heap this]; rfl
 have f2 : (w.alloc (.cells cs 5)).frozen? ⟨b, 1, none⟩ = false := Lib.frozen_of_heap ((Lib.alloc_old w _ b hlt).trans hbk) 1
 have hsb : ∀ W : World, (sizeOf 5).run Tryz.prog W = .ok 1 W := fun _ => by kernel_rfl
 have hcopy : ∀ W : World, (Builtin.copy_ #[95, 95] 3 #[.slice (some ⟨w.heap.size, 0, none⟩) 0 cs.size, .slice none 0 0]).run Tryz.prog W = .ok (goInt 0) W :=
  fun W => run_copy_none W 95 95 3 5 _ _ 0 cs.size 0 0 Tryz.underlying95 (by kernel_rfl) rfl
 clear hw hsb hlt
 have hfin := uh (Lib.grown_fresh (T := 242) (e := 5) (cs := cs) hB hbk hBw (hmax (by unfold maxLen; omega)) (by decide))
 go_enter Tryz.func221, Tryz.ntmps221
 go_wp2
 go_region
 all_goals (go_wp2; go_end0; exact ⟨rfl, hfin.out⟩)
theorem bGrow_fresh (B b n : Nat) (w : World) (hB : B ≤ b) (hbk : w.heap[b]? = some (.cells #[.pointer none, .slice none 0 0] 242 (0, 0))) (hBw : B ≤ w.heap.size) (hn : n ≤ 281474976710656) :
  Calls Tryz.prog 172 #[.pointer (some ⟨b, 0, none⟩), .int .i64 n] w fun e w' => e = .returned (.tuple #[]) ∧ (Lib.BuilderAt 242 5 B b (.pointer (some ⟨b, 0, none⟩)) [] w' ∧ Below B w w') := by
 have hbk1 : (w.setCell ⟨b, 0, none⟩ (.pointer (some ⟨b, 0, none⟩))).heap[b]? = some (.cells #[.pointer (some ⟨b, 0, none⟩), .slice none 0 0] 242 (0, 0)) := by
  simp [World.setCell, Array.getElem?_modify, hbk]
 have c1 : (w.setCell ⟨b, 0, none⟩ (.pointer (some ⟨b, 0, none⟩))).cell? ⟨b, 1, none⟩ = some (.slice none 0 0) := by rw [Lib.cell_of_heap hbk1]; rfl
 have hb1 : Below B w (w.setCell ⟨b, 0, none⟩ (.pointer (some ⟨b, 0, none⟩))) := (Below.refl B w).setCell (p := ⟨b, 0, none⟩) hB _
 go_enter Tryz.func172, Tryz.ntmps172
 have hU : Lib.BuilderAt 242 5 B b (.pointer (some ⟨b, 0, none⟩)) [] (w.setCell ⟨b, 0, none⟩ (.pointer (some ⟨b, 0, none⟩))) := ⟨hB, .slice none 0 0, hbk1, World.ownsRow_nil _ _ _ _, by simp [Value.ownBlock]⟩
 have c1' : (w.setCell ⟨b, 0, none⟩ (.pointer (some ⟨b, 0, none⟩))).drew.cell? ⟨b, 1, none⟩ = some (.slice none 0 0) := c1
 go_wp2_with (go_at_call 190; refine (bcheck_fresh b w (by rw [Lib.cell_of_heap hbk]; rfl) (by simp [World.shape?, hbk]) (Lib.frozen_of_heap hbk 0)).mono ?_; rintro e w' ⟨rfl, rfl⟩)
 go_region
 all_goals go_wp2_with (go_at_call 221; refine (bgrow_fresh B b n (w.setCell ⟨b, 0, none⟩ (.pointer (some ⟨b, 0, none⟩))).drew hB hbk1 (by simpa [World.setCell, World.drew, -World.drew_eq] using hBw) hn).mono ?_; rintro e w' ⟨rfl, h1, h2⟩)
 all_goals first
  | (go_end0; exact ⟨rfl, h1, hb1.drew.trans h2⟩)
  | (go_end0; exact ⟨rfl, hU.drew, hb1.drew⟩)
theorem sjoin (bk o c : Nat) (xs : List ByteArray) (sep : ByteArray) (w : World) (hcells : ∀ (j : Nat) x, xs[j]? = some x → w.cell? ⟨bk, o + j, none⟩ = some (.string x)) (hbk : bk < w.heap.size) (h2 : 2 ≤ xs.length) (hN : xs.length ≤ 140737488355328) (hcap : xs.length ≤ c)
  (hlen : (Lib.join (xs.map (·.data.toList)) sep.data.toList).length ≤ 140737488355328) :
  Calls Tryz.prog 105 #[.slice (some ⟨bk, o, none⟩) xs.length c, .string sep] w fun e w' => e = .returned (.string ⟨(Lib.join (xs.map (·.data.toList)) sep.data.toList).toArray⟩) ∧ Below w.heap.size w w' := by
 have HC := uh hcells
 clear hcells
 obtain ⟨x0, r, hxs⟩ : ∃ x0 r, xs = x0 :: r := by
  cases xs with
  | nil => simp at h2
  | cons a t => exact ⟨a, t, rfl⟩
 have hjl : sep.size * (xs.length - 1) + Lib.lens (xs.map (·.data.toList)) ≤ 140737488355328 := by
  have := Lib.join_length x0.data.toList (r.map (·.data.toList)) sep.data.toList
  rw [hxs] at hlen ⊢
  simp only [List.map_cons] at hlen ⊢
  rw [this, List.length_map] at hlen
  rw [Lib.size_eq, List.length_cons, Nat.add_sub_cancel]
  exact hlen
 have hmul : sep.size * (xs.length - 1) ≤ 140737488355328 := by omega
 generalize hM : sep.size * (xs.length - 1) = M at hjl hmul
 have hcast : ((xs.length : Int) - 1) = ((xs.length - 1 : Nat) : Int) := by omega
 have hlt : sep.size < 9223372036854775807 / (xs.length - 1) := by
  have : sep.size + 1 ≤ 9223372036854775807 / (xs.length - 1) := by
   rw [Nat.le_div_iff_mul_le (by omega), Nat.add_mul, hM]
   omega
  omega
 have hdv : ¬ (9223372036854775807 / ((xs.length : Int) - 1) ≤ (sep.size : Int)) := by
  have e : (9223372036854775807 : Int) / ((xs.length - 1 : Nat) : Int) = ((9223372036854775807 / (xs.length - 1) : Nat) : Int) := IntWalk.up_div (x := 9223372036854775807) rfl rfl
  rw [hcast, e]
  generalize 9223372036854775807 / (xs.length - 1) = q at hlt
  omega
 have hprod : wrap64 ((sep.size : Int) * ((xs.length : Int) - 1)) = (M : Int) := by
  have e : (sep.size : Int) * ((xs.length - 1 : Nat) : Int) = ((sep.size * (xs.length - 1) : Nat) : Int) := IntWalk.up_mul rfl rfl
  rw [hcast, e, hM]
  exact IntWalk.wrap64_in _ ⟨by omega, by omega⟩
 have hM0 : sep.size = 0 → M = 0 := fun h => by rw [← hM, h, Nat.zero_mul]
 clear hlt hcast
 have hne0 : ((xs.length : Int) == 0) = false := beq_eq_false_iff_ne.2 (by omega)
 have hne1 : ((xs.length : Int) == 1) = false := beq_eq_false_iff_ne.2 (by omega)
 have Hxs := uh hxs
 have Hlen := uh hlen
 clear hxs hlen
 go_enter Tryz.func105, Tryz.ntmps105
 go_wp2_with fail
 all_goals (
  go_loop [5, 41] (fun n i => ∃ k : Nat, k ≤ xs.length ∧ i = .int .i64 k ∧ n = .int .i64 ((M + Lib.lens ((xs.map (·.data.toList)).take k) : Nat) : Int)) (fun _ i => xs.length - (intOf i).toNat)
  case atStart => exact ⟨0, Nat.zero_le _, rfl, by first | (simp [Lib.lens]; done) | (have := hM0 (by omega); simp [Lib.lens, this])⟩
  case round =>
   obtain ⟨k, hk, rfl, rfl⟩ := hrel
   by_cases hkn : k < xs.length
   · obtain ⟨x, hx⟩ : ∃ x, xs[k]? = some x := ⟨xs[k], List.getElem?_eq_getElem hkn⟩
     have hc := HC.out k x hx
     have hstep := Lib.lens_take_succ (xs.map (·.data.toList)) k x.data.toList (by simp [hx])
     have hbound : Lib.lens ((xs.map (·.data.toList)).take (k + 1)) ≤ Lib.lens (xs.map (·.data.toList)) := Lib.lens_take_le _ _
     rw [← Lib.size_eq] at hstep
     generalize hA1 : Lib.lens ((xs.map (·.data.toList)).take (k + 1)) = A1 at hstep hbound
     generalize Lib.lens ((xs.map (·.data.toList)).take k) = A0 at hstep
     have HA1 := uh hA1
     clear hA1
     go_wp2
     exact ⟨⟨k + 1, by omega, by go_num, by rw [HA1.out]; refine congrArg _ ?_; omega⟩, by simp [intOf]; omega⟩
   · have hke : k = xs.length := by omega
     subst hke
     have hall : (xs.map (·.data.toList)).take xs.length = xs.map (·.data.toList) := List.take_of_length_le (by simp)
     rw [hall]
     generalize hT : Lib.lens (xs.map (·.data.toList)) = T at hjl
     have HT := uh hT
     clear hT hall
     go_wp2_with fail
     have hMT : ((M : Int) + (T : Int)) = ((M + T : Nat) : Int) := by omega
     rw [hMT]
     refine (bGrow_fresh w.heap.size w.heap.size (M + T) _ (Nat.le_refl _) (heap_alloc_new w _) (by simp) (by omega)).mono ?_
     rintro e w1 ⟨rfl, h1, hb1⟩
     have hb1' : Below w.heap.size w w1 := ((Below.refl w.heap.size w).alloc (Nat.le_refl _) _).trans hb1
     have hx0 : xs[0]? = some x0 := by rw [Hxs.out]; rfl
     have hc0 : w1.cell? ⟨bk, o, none⟩ = some (.string x0) := by
      rw [hb1'.cell (p := ⟨bk, o, none⟩) hbk]
      exact HC.out 0 x0 hx0
     have H1 := uh (Or.inr h1 : Lib.IsBuilder 242 5 w.heap.size w.heap.size [] w1)
     have Hb1 := uh hb1'
     have hBw1 : w.heap.size ≤ w1.heap.size := hb1'.size
     clear h1 hb1 hb1' hMT
     have hwhole : Lib.join (xs.map (·.data.toList)) sep.data.toList = x0.data.toList ++ Lib.joinTail sep.data.toList (r.map (·.data.toList)) := by
      rw [Hxs.out, List.map_cons, Lib.join_cons]
     have hCle : ∀ k, (x0.data.toList ++ Lib.joinTail sep.data.toList ((r.map (·.data.toList)).take k)).length ≤ 140737488355328 := fun k => by
      have h1 := Hlen.out
      rw [hwhole, List.length_append] at h1
      have h2 := Lib.joinTail_take_le sep.data.toList (r.map (·.data.toList)) k
      rw [List.length_append]
      omega
     have HCle := uh hCle
     have Hwhole := uh hwhole
     clear hCle hwhole
     go_wp2_with fail
     refine (bwrite w.heap.size w.heap.size [] x0 w1 H1.out (by have := HCle.out 0; simp [Lib.joinTail] at this ⊢; omega) hBw1).mono ?_
     rintro e w2 ⟨rfl, h2', hb2⟩
     have hstart : ([] : List Value) ++ Lib.strCells x0 = Lib.byteCells (x0.data.toList ++ Lib.joinTail sep.data.toList ((r.map (·.data.toList)).take 0)) := by
      simp [Lib.joinTail, Lib.strCells_eq]
     rw [hstart] at h2'
     have H2 := uh (Or.inr h2' : Lib.IsBuilder 242 5 w.heap.size w.heap.size _ w2)
     have Hb2 := uh (Hb1.out.trans hb2)
     clear h2' hb2 hstart
     have hrl : r.length = xs.length - 1 := by rw [Hxs.out]; simp
     go_wp2_with fail
     go_loopw [65] (fun i wr => ∃ k : Nat, k ≤ r.length ∧ i = .int .i64 k ∧ Hid (Lib.IsBuilder 242 5 w.heap.size w.heap.size (Lib.byteCells (x0.data.toList ++ Lib.joinTail sep.data.toList ((r.map (·.data.toList)).take k))) wr) ∧ Hid (Below w.heap.size w wr)) (fun i _ => r.length - (intOf i).toNat)
     case atStart => exact ⟨0, Nat.zero_le _, rfl, H2, Hb2⟩
     case round =>
      obtain ⟨k, hk', rfl, HB, HW⟩ := hrel
      by_cases hkr : k < r.length
      · obtain ⟨y, hy⟩ : ∃ y, r[k]? = some y := ⟨r[k], List.getElem?_eq_getElem hkr⟩
        have hxy : xs[k + 1]? = some y := by rw [Hxs.out]; simpa using hy
        have hcy : wr.cell? ⟨bk, o + 1 + k, none⟩ = some (.string y) := by
         rw [HW.out.cell (p := ⟨bk, o + 1 + k, none⟩) hbk, show o + 1 + k = o + (k + 1) by omega]
         exact HC.out (k + 1) y hxy
        have hBw : w.heap.size ≤ wr.heap.size := HW.out.size
        have hnext : Lib.byteCells (x0.data.toList ++ Lib.joinTail sep.data.toList ((r.map (·.data.toList)).take k)) ++ Lib.strCells sep ++ Lib.strCells y = Lib.byteCells (x0.data.toList ++ Lib.joinTail sep.data.toList ((r.map (·.data.toList)).take (k + 1))) := by
         rw [Lib.joinTail_take_succ sep.data.toList (r.map (·.data.toList)) k y.data.toList (by simp [hy]), Lib.strCells_eq, Lib.strCells_eq, ← Lib.byteCells_append, ← Lib.byteCells_append, List.append_assoc, List.append_assoc, List.append_assoc]
        have hl1 := HCle.out (k + 1)
        rw [Lib.joinTail_take_succ sep.data.toList (r.map (·.data.toList)) k y.data.toList (by simp [hy])] at hl1
        simp only [List.length_append, ← Lib.size_eq] at hl1
        have hl0 : (Lib.byteCells (x0.data.toList ++ Lib.joinTail sep.data.toList ((r.map (·.data.toList)).take k))).length = x0.size + (Lib.joinTail sep.data.toList ((r.map (·.data.toList)).take k)).length := by
         rw [Lib.byteCells_length, List.length_append, ← Lib.size_eq]
        generalize (Lib.joinTail sep.data.toList ((r.map (·.data.toList)).take k)).length = J at hl0 hl1
        have Hn := uh hnext
        clear hnext hy hxy
        go_wp2_with fail
        refine (bwrite w.heap.size w.heap.size _ sep wr HB.out (by rw [hl0]; omega) hBw).mono ?_
        rintro e w3 ⟨rfl, h3, hb3⟩
        have hBw3 : w.heap.size ≤ w3.heap.size := Nat.le_trans hBw hb3.size
        have hcy3 : w3.cell? ⟨bk, o + 1 + k, none⟩ = some (.string y) := by
         rw [hb3.cell (p := ⟨bk, o + 1 + k, none⟩) hbk]
         exact hcy
        have H3 := uh h3
        have Hb3 := uh hb3
        clear h3 hb3
        go_wp2_with fail
        refine (bwrite w.heap.size w.heap.size _ y w3 (Or.inr H3.out) (by rw [List.length_append, hl0, Lib.strCells_length]; omega) hBw3).mono ?_
        rintro e w4 ⟨rfl, h4, hb4⟩
        rw [Hn.out] at h4
        have H4 := uh (Or.inr h4 : Lib.IsBuilder 242 5 w.heap.size w.heap.size _ w4)
        have Hb4 := uh ((HW.out.trans Hb3.out).trans hb4)
        clear h4 hb4
        go_wp2
        exact ⟨⟨k + 1, by omega, by go_num, H4, Hb4⟩, by simp [intOf]; omega⟩
      · have hke : k = r.length := by omega
        subst hke
        have hfull : (r.map (·.data.toList)).take r.length = r.map (·.data.toList) := List.take_of_length_le (by simp)
        have hB' := HB.out
        rw [hfull, ← Hwhole.out] at hB'
        have hBw : w.heap.size ≤ wr.heap.size := HW.out.size
        go_wp2_with fail
        refine (Tryz.Builder_String_any w.heap.size w.heap.size _ wr hB' hBw).mono ?_
        rintro e w5 ⟨rfl, hb5⟩
        have Hb5 := uh (HW.out.trans hb5)
        clear hb5 hB'
        go_wp2
        go_ret
        exact ⟨rfl, Hb5.out⟩)
end
section
open Go Go.RowKit Go.Shelf Go.Sort Go.Lib
theorem fuint0 (u : Nat) (hu64 : u < 18446744073709551616) (w : World) (htab : TabW w) :
  Calls Tryz.prog 174 #[.int .u64 u, .int .i64 10] w fun e w' => e = .returned (.string ⟨(Lib.decDigits u).toArray⟩) ∧ ∃ k os, w' = grow (w.drewN k) os := by
 by_cases hs : u < 100
 · have hz : (u : Int) < 100 := by omega
   have hcv : IntKind.i64.wrap (u : Int) = (u : Int) := by rw [IntKind.wrap_i64]; omega
   go_enter Tryz.func174, Tryz.ntmps174
   go_wp2_with (go_at_call 223; refine (Any.internal_strconv_small { Tryz.laysM171 with } u hs _).mono ?_; rintro e w' ⟨rfl, rfl⟩)
   go_ret
   exact ⟨rfl, 0, #[], by simp [World.drewN_zero]⟩
 · have hz : ¬ (u : Int) < 100 := by omega
   have hu1 : 1 ≤ u := by omega
   have hnd20 : Lib.nDigits u ≤ 20 := by have := Lib.numDigits_eq u hu1 hu64; split at this <;> omega
   have hb3 : Lib.nDigits u ≤ 24 := by omega
   have hal : Tryz.prog.arrayLen 352 = 24 := by simp [Program.arrayLen, Tryz.underlying352]
   have hsl2 : ∀ W, (Instr.sliceAt 352 (.pointer (some ⟨w.heap.size, 0, none⟩)) none (some (.int .i64 (Lib.nDigits u : Int))) none).run Tryz.prog W = .ok (.slice (some ⟨w.heap.size, 0, none⟩) (Lib.nDigits u) 24) W := fun W => by
    rw [run_sliceAt_array_h W 352 ⟨w.heap.size, 0, none⟩ (by simp [Program.arrayLen, Program.elem, Tryz.underlying352]) .i64 (Lib.nDigits u : Int) (by omega) (by rw [hal]; omega)]
    go_simp
   have hH0 : Holds (fun (b : UInt8) => Value.int .u8 (b.toNat : Int)) (w.alloc (.cells Lib.zeros24 352)) w.heap.size 0 (Array.replicate (Lib.nDigits u) 0) := fun j hj => by
    rw [Array.size_replicate] at hj
    constructor
    · rw [Nat.zero_add, World.cell?_alloc_new, Lib.zeros24_at j (by omega)]
      simp [hj]
    · exact World.frozen?_alloc_new _ _ _ _
   have hfmt := Any.internal_strconv_formatBase10 { Tryz.laysM171 with } w.heap.size 0 24 u (Array.replicate (Lib.nDigits u) 0) (w.alloc (.cells Lib.zeros24 352)) hH0 (by rw [Array.size_replicate]; exact Lib.lt_pow_nDigits u) hu64 (by rw [Array.size_replicate]; omega)
   rw [Array.size_replicate] at hfmt
   have HH0 := uh hH0
   clear hH0 hal
   go_enter Tryz.func174, Tryz.ntmps174
   go_wp2_with (first
    | (go_at_call 224; refine (Any.internal_strconv_numDigits { Tryz.laysM171 with } u hu1 hu64 _ (Lib.tabIs_alloc htab _)).mono ?_; rintro e w' ⟨rfl, rfl⟩))
   refine hfmt.mono ?_
   rintro e w' ⟨rfl, k, v', dk, rfl, hF⟩
   have hcv : (convert 95 9 (.slice (some ⟨w.heap.size, 0, none⟩) (Lib.nDigits u) 24)).run Tryz.prog ((putRow (fun (b : UInt8) => Value.int .u8 (b.toNat : Int)) (w.alloc (.cells Lib.zeros24 352)) w.heap.size 0 dk).drewN k) = .ok (.string ⟨(Lib.decDigits u).toArray⟩) ((putRow (fun (b : UInt8) => Value.int .u8 (b.toNat : Int)) (w.alloc (.cells Lib.zeros24 352)) w.heap.size 0 dk).drewN k) := by
    have h := run_convert_bytes_back (P := Tryz.prog) ((putRow (fun (b : UInt8) => Value.int .u8 (b.toNat : Int)) (w.alloc (.cells Lib.zeros24 352)) w.heap.size 0 dk).drewN k) 95 9 5 ⟨w.heap.size, 0, none⟩ 24 (Lib.decDigits u) Tryz.underlying95 Tryz.underlying5 Tryz.underlying9 (fun j hj => by
     rw [Lib.row_is_numeral hF j hj, Lib.add_plain, World.cell?_drewN]
     exact cell?_putRow (fun (b : UInt8) => Value.int .u8 (b.toNat : Int)) _ w.heap.size 0 _ dk HH0.out (by rw [hF.size, Array.size_replicate]) j (by rw [hF.size]; rw [Lib.decDigits_length] at hj; exact hj))
    rw [Lib.decDigits_length] at h
    exact h
   go_wp2
   go_ret
   obtain ⟨os, eo⟩ := Lib.fin_at w (.cells Lib.zeros24 352) dk k 0
   exact ⟨rfl, k, os, eo⟩
theorem fuint (u : Nat) (hu64 : u < 18446744073709551616) (w : World) (htab : TabW w) :
  Calls Tryz.prog 107 #[.int .u64 u, .int .i64 10] w fun e w' => e = .returned (.string ⟨(Lib.decDigits u).toArray⟩) ∧ Below w.heap.size w w' := by
 have H := uh (fuint0 u hu64 w htab)
 clear htab
 go_enter Tryz.func107, Tryz.ntmps107
 go_wp2_with fail
 refine H.out.mono ?_
 rintro e w' ⟨rfl, k, os, hw⟩
 have hB : Below w.heap.size w w' := by rw [hw]; exact Lib.below_grow _ _ (Nat.le_refl _) _ _
 have HB := uh hB
 clear hw hB H
 go_wp2_with fail
 go_ret
 exact ⟨rfl, HB.out⟩
end
section
open Go Go.RowKit Go.Shelf Go.IntWalk
def kNames : List (List UInt8) := [[63], [99, 101, 108, 108], [114, 101, 102], [104, 97, 110, 100], [112, 105, 110], [119, 101, 97, 107], [98, 108, 97, 99, 107], [103, 97, 112]]
def kName (k : Nat) : List UInt8 := kNames.getD k [63]
def brLine (k : Nat) (at_ sl : Int) (who : Nat) (why : Int) : List UInt8 := Lib.join [kName k, Lib.itoa at_, Lib.itoa sl, Lib.decDigits who, Lib.itoa why] [32]
theorem decDigits_len (u : Nat) (hu : u < 18446744073709551616) : (Lib.decDigits u).length ≤ 20 := by
 rw [Lib.decDigits_length]
 by_cases h : u = 0
 · subst h; decide +kernel
 · have := Lib.numDigits_eq u (by omega) hu
   split at this <;> omega
theorem itoa_len (n : Int) (h0 : -9223372036854775808 ≤ n) (h1 : n ≤ 9223372036854775807) : (Lib.itoa n).length ≤ 21 := by
 by_cases hn : n < 0
 · obtain ⟨u, rfl⟩ : ∃ u : Nat, n = -(u : Int) := ⟨n.natAbs, by omega⟩
   rw [Lib.itoa_neg u (by omega), List.length_cons]
   have := decDigits_len u (by omega)
   omega
 · obtain ⟨u, rfl⟩ : ∃ u : Nat, n = u := ⟨n.toNat, by omega⟩
   rw [Lib.itoa_nonneg]
   have := decDigits_len u (by omega)
   omega
theorem kName_len (k : Nat) : (kName k).length ≤ 5 := by
 unfold kName kNames
 match k with
 | 0 | 1 | 2 | 3 | 4 | 5 | 6 | 7 => decide
 | k + 8 => simp
theorem brLine_len (k : Nat) (at_ sl : Int) (who : Nat) (why : Int) (h0 : -9223372036854775808 ≤ at_) (h1 : at_ ≤ 9223372036854775807) (h2 : -9223372036854775808 ≤ sl) (h3 : sl ≤ 9223372036854775807) (h4 : who < 18446744073709551616) (h5 : -9223372036854775808 ≤ why) (h6 : why ≤ 9223372036854775807) : (brLine k at_ sl who why).length ≤ 1000 := by
 unfold brLine
 rw [Lib.join_length]
 have e1 := kName_len k
 have e2 := itoa_len at_ h0 h1
 have e3 := itoa_len sl h2 h3
 have e4 := decDigits_len who h4
 have e5 := itoa_len why h5 h6
 simp only [Lib.lens, List.map_cons, List.map_nil, List.sum_cons, List.sum_nil, List.length_cons, List.length_nil]
 omega
theorem aline (w : World) (ht : TabW w) (k : Nat) (hk : k < 256) (at_ sl : Int) (who : Nat) (why : Int) (h0 : -9223372036854775808 ≤ at_) (h1 : at_ ≤ 9223372036854775807) (h2 : -9223372036854775808 ≤ sl) (h3 : sl ≤ 9223372036854775807) (h4 : who < 18446744073709551616) (h5 : -9223372036854775808 ≤ why) (h6 : why ≤ 9223372036854775807) :
  Calls Tryz.prog 39 #[.agg #[.int .u8 k, .int .i64 at_, .int .i64 sl, .int .u64 who, .int .i64 why]] w fun e w' => e = .returned (.string ⟨(brLine k at_ sl who why).toArray⟩) ∧ Below w.heap.size w w' := by
 have HtB := uh (Lib.tabBelow_of_tabIs ht)
 have Hlen := uh (brLine_len k at_ sl who why h0 h1 h2 h3 h4 h5 h6)
 have T1 : Turn [] w ((w.heap.size + 1, .cells #[.string ⟨#[63]⟩, .string ⟨#[99, 101, 108, 108]⟩, .string ⟨#[114, 101, 102]⟩, .string ⟨#[104, 97, 110, 100]⟩, .string ⟨#[112, 105, 110]⟩, .string ⟨#[119, 101, 97, 107]⟩, .string ⟨#[98, 108, 97, 99, 107]⟩, .string ⟨#[103, 97, 112]⟩] 202) :: (w.heap.size, .cells #[.int .u8 k, .int .i64 at_, .int .i64 sl, .int .u64 who, .int .i64 why] 60) :: []) ((w.alloc (.cells #[.int .u8 k, .int .i64 at_, .int .i64 sl, .int .u64 who, .int .i64 why] 60)).alloc (.cells #[.string ⟨#[63]⟩, .string ⟨#[99, 101, 108, 108]⟩, .string ⟨#[114, 101, 102]⟩, .string ⟨#[104, 97, 110, 100]⟩, .string ⟨#[112, 105, 110]⟩, .string ⟨#[119, 101, 97, 107]⟩, .string ⟨#[98, 108, 97, 99, 107]⟩, .string ⟨#[103, 97, 112]⟩] 202)) := by
  have h := ((Turn.refl (Has.nil w)).alloc (.cells #[.int .u8 k, .int .i64 at_, .int .i64 sl, .int .u64 who, .int .i64 why] 60)).alloc (.cells #[.string ⟨#[63]⟩, .string ⟨#[99, 101, 108, 108]⟩, .string ⟨#[114, 101, 102]⟩, .string ⟨#[104, 97, 110, 100]⟩, .string ⟨#[112, 105, 110]⟩, .string ⟨#[119, 101, 97, 107]⟩, .string ⟨#[98, 108, 97, 99, 107]⟩, .string ⟨#[103, 97, 112]⟩] 202)
  simp only [World.size_alloc] at h
  exact h
 have HT1 := uh T1
 clear ht T1
 go_enter Tryz.func39, Tryz.ntmps39
 go_upto_if 9 with fail
 generalize (w.alloc (.cells #[.int .u8 k, .int .i64 at_, .int .i64 sl, .int .u64 who, .int .i64 why] 60)).alloc (.cells #[.string ⟨#[63]⟩, .string ⟨#[99, 101, 108, 108]⟩, .string ⟨#[114, 101, 102]⟩, .string ⟨#[104, 97, 110, 100]⟩, .string ⟨#[112, 105, 110]⟩, .string ⟨#[119, 101, 97, 107]⟩, .string ⟨#[98, 108, 97, 99, 107]⟩, .string ⟨#[103, 97, 112]⟩] 202) = W1 at *
 have Ht := uh (HtB.out W1 HT1.out.below)
 generalize w.heap.size = nb at *
 go_cut [4] from 10 (fun v4 wc => v4 = .string ⟨(kName k).toArray⟩ ∧ wc = W1)
 case first =>
  have hq0 : W1.cell? ⟨nb, 0, none⟩ = some (.int .u8 k) := HT1.out.has.cell (b := nb) (c := #[.int .u8 k, .int .i64 at_, .int .i64 sl, .int .u64 who, .int .i64 why]) (e := 60) (f := (0, 0)) (by simp) 0
  have hc := fun j => HT1.out.has.cell (b := nb + 1) (c := #[.string ⟨#[63]⟩, .string ⟨#[99, 101, 108, 108]⟩, .string ⟨#[114, 101, 102]⟩, .string ⟨#[104, 97, 110, 100]⟩, .string ⟨#[112, 105, 110]⟩, .string ⟨#[119, 101, 97, 107]⟩, .string ⟨#[98, 108, 97, 99, 107]⟩, .string ⟨#[103, 97, 112]⟩]) (e := 202) (f := (0, 0)) (by simp) j
  by_cases hk8 : k < 8
  · have hk8z : (k : Int) < 8 := by omega
    have hqk : W1.cell? ⟨nb + 1, k, none⟩ = some (.string ⟨(kName k).toArray⟩) := by
     rw [hc k]
     obtain rfl | rfl | rfl | rfl | rfl | rfl | rfl | rfl : k = 0 ∨ k = 1 ∨ k = 2 ∨ k = 3 ∨ k = 4 ∨ k = 5 ∨ k = 6 ∨ k = 7 := by omega
     all_goals rfl
    clear hc
    go_wp2_with fail
    go_meet
    case rel => exact ⟨rfl, rfl⟩
  · have hk8z : ¬ (k : Int) < 8 := by omega
    have hkn : kName k = [63] := by
     unfold kName kNames
     match k, hk8 with
     | k + 8, _ => simp
    have HK := uh hkn
    clear hc hkn
    go_wp2_with fail
    go_meet
    case rel => exact ⟨by rw [HK.out], rfl⟩
 case rest =>
  obtain ⟨rfl, rfl⟩ := hcut
  go_wp2_with fail
  have HL := uh (fun u (hk : Below wc.heap.size wc u) => (⟨(hk.cell (p := ⟨nb, 1, none⟩) (World.block_lt_of_cell? wc _ (HT1.out.has.cell (b := nb) (c := #[.int .u8 k, .int .i64 at_, .int .i64 sl, .int .u64 who, .int .i64 why]) (e := 60) (f := (0, 0)) (by simp) 1))).trans (HT1.out.has.cell (b := nb) (c := #[.int .u8 k, .int .i64 at_, .int .i64 sl, .int .u64 who, .int .i64 why]) (e := 60) (f := (0, 0)) (by simp) 1), (hk.cell (p := ⟨nb, 2, none⟩) (World.block_lt_of_cell? wc _ (HT1.out.has.cell (b := nb) (c := #[.int .u8 k, .int .i64 at_, .int .i64 sl, .int .u64 who, .int .i64 why]) (e := 60) (f := (0, 0)) (by simp) 2))).trans (HT1.out.has.cell (b := nb) (c := #[.int .u8 k, .int .i64 at_, .int .i64 sl, .int .u64 who, .int .i64 why]) (e := 60) (f := (0, 0)) (by simp) 2), (hk.cell (p := ⟨nb, 3, none⟩) (World.block_lt_of_cell? wc _ (HT1.out.has.cell (b := nb) (c := #[.int .u8 k, .int .i64 at_, .int .i64 sl, .int .u64 who, .int .i64 why]) (e := 60) (f := (0, 0)) (by simp) 3))).trans (HT1.out.has.cell (b := nb) (c := #[.int .u8 k, .int .i64 at_, .int .i64 sl, .int .u64 who, .int .i64 why]) (e := 60) (f := (0, 0)) (by simp) 3), (hk.cell (p := ⟨nb, 4, none⟩) (World.block_lt_of_cell? wc _ (HT1.out.has.cell (b := nb) (c := #[.int .u8 k, .int .i64 at_, .int .i64 sl, .int .u64 who, .int .i64 why]) (e := 60) (f := (0, 0)) (by simp) 4))).trans (HT1.out.has.cell (b := nb) (c := #[.int .u8 k, .int .i64 at_, .int .i64 sl, .int .u64 who, .int .i64 why]) (e := 60) (f := (0, 0)) (by simp) 4)⟩ : u.cell? ⟨nb, 1, none⟩ = some (.int .i64 at_) ∧ u.cell? ⟨nb, 2, none⟩ = some (.int .i64 sl) ∧ u.cell? ⟨nb, 3, none⟩ = some (.int .u64 who) ∧ u.cell? ⟨nb, 4, none⟩ = some (.int .i64 why)))
  have HB := uh HT1.out.below
  have HtC := uh (Lib.tabBelow_of_tabIs Ht.out)
  clear HT1 Ht HtB
  have hS0 : Below wc.heap.size wc wc.drew := (Turn.refl (Has.nil wc)).drew.below
  refine wp_region_noPanic ?_
  refine wp_region_listed (S := fun u => Below wc.heap.size wc u) 16 [false, false, false, false, false, false, false, false, false, false, false, false, false, false, false, false] rfl rfl (by kernel_rfl) ?_
  generalize wc.drew = u0 at *
  refine tkA 0 14 hS0 ?_
  refine tkA 1 15 hS0 ?_
  refine tkB 2 16 hS0 (fun w hSw => (HL.out w hSw).1) ?_
  refine tkA 4 18 hS0 ?_
  refine tkB 5 19 hS0 (fun w hSw => (HL.out w hSw).2.1) ?_
  refine tkA 7 21 hS0 ?_
  refine tkB 8 22 hS0 (fun w hSw => (HL.out w hSw).2.2.1) ?_
  refine tkA 10 24 hS0 ?_
  refine tkB 11 25 hS0 (fun w hSw => (HL.out w hSw).2.2.2) ?_
  clear HL
  refine rdyA 3 (fun K hK => ?_)
  go_simp
  refine ((sitoa u0 (Turn.refl (Has.nil _)) (HtC.out _ hS0) at_ h0 h1).mono (fun e w9 ⟨k1, k2⟩ => (⟨k1, k2.below⟩ : e = Ending.returned (Value.string ⟨(Lib.itoa at_).toArray⟩) ∧ Below u0.heap.size u0 w9))).mono ?_
  rintro e u1 ⟨rfl, hB⟩
  have hS1 := hS0.trans (hB.mono hS0.size)
  clear hB hS0
  refine hK.out _ _ hS1 fun _ => ?_
  clear hK K
  simp only [st0, st1, st2]
  refine rdyA 6 (fun K hK => ?_)
  go_simp
  refine ((sitoa u1 (Turn.refl (Has.nil _)) (HtC.out _ hS1) sl h2 h3).mono (fun e w9 ⟨k1, k2⟩ => (⟨k1, k2.below⟩ : e = Ending.returned (Value.string ⟨(Lib.itoa sl).toArray⟩) ∧ Below u1.heap.size u1 w9))).mono ?_
  rintro e u2 ⟨rfl, hB⟩
  have hS2 := hS1.trans (hB.mono hS1.size)
  clear hB hS1
  refine hK.out _ _ hS2 fun _ => ?_
  clear hK K
  simp only [st0, st1, st2]
  refine rdyA 9 (fun K hK => ?_)
  go_simp
  refine (fuint who h4 u2 (HtC.out _ hS2)).mono ?_
  rintro e u3 ⟨rfl, hB⟩
  have hS3 := hS2.trans (hB.mono hS2.size)
  clear hB hS2
  refine hK.out _ _ hS3 fun _ => ?_
  clear hK K
  simp only [st0, st1, st2]
  refine rdyA 12 (fun K hK => ?_)
  go_simp
  refine ((sitoa u3 (Turn.refl (Has.nil _)) (HtC.out _ hS3) why h5 h6).mono (fun e w9 ⟨k1, k2⟩ => (⟨k1, k2.below⟩ : e = Ending.returned (Value.string ⟨(Lib.itoa why).toArray⟩) ∧ Below u3.heap.size u3 w9))).mono ?_
  rintro e u4 ⟨rfl, hB⟩
  have hS4 := hS3.trans (hB.mono hS3.size)
  clear hB hS3
  refine hK.out _ _ hS4 fun _ => ?_
  clear hK K
  simp only [st0, st1, st2]
  refine rdyA 13 (fun K hK => ?_)
  go_simp
  have T5 := (Turn.refl (Has.nil u4)).alloc (.cells #[.string ⟨(kName k).toArray⟩, .string ⟨(Lib.itoa at_).toArray⟩, .string ⟨(Lib.itoa sl).toArray⟩, .string ⟨(Lib.decDigits who).toArray⟩, .string ⟨(Lib.itoa why).toArray⟩] 9)
  have hc5 : ∀ (j : Nat) x, ([⟨(kName k).toArray⟩, ⟨(Lib.itoa at_).toArray⟩, ⟨(Lib.itoa sl).toArray⟩, ⟨(Lib.decDigits who).toArray⟩, ⟨(Lib.itoa why).toArray⟩] : List ByteArray)[j]? = some x → (u4.alloc (.cells #[.string ⟨(kName k).toArray⟩, .string ⟨(Lib.itoa at_).toArray⟩, .string ⟨(Lib.itoa sl).toArray⟩, .string ⟨(Lib.decDigits who).toArray⟩, .string ⟨(Lib.itoa why).toArray⟩] 9)).cell? ⟨u4.heap.size, 0 + j, none⟩ = some (.string x) := fun j x hx => by
   rw [Nat.zero_add, T5.has.cell (b := u4.heap.size) (c := #[.string ⟨(kName k).toArray⟩, .string ⟨(Lib.itoa at_).toArray⟩, .string ⟨(Lib.itoa sl).toArray⟩, .string ⟨(Lib.decDigits who).toArray⟩, .string ⟨(Lib.itoa why).toArray⟩]) (e := 9) (f := (0, 0)) (by simp) j]
   have : (#[.string ⟨(kName k).toArray⟩, .string ⟨(Lib.itoa at_).toArray⟩, .string ⟨(Lib.itoa sl).toArray⟩, .string ⟨(Lib.decDigits who).toArray⟩, .string ⟨(Lib.itoa why).toArray⟩] : Array Value)[j]? = (List.map Value.string ([⟨(kName k).toArray⟩, ⟨(Lib.itoa at_).toArray⟩, ⟨(Lib.itoa sl).toArray⟩, ⟨(Lib.decDigits who).toArray⟩, ⟨(Lib.itoa why).toArray⟩] : List ByteArray))[j]? := by simp
   rw [this, List.getElem?_map, hx]
   rfl
  have HJ := uh (sjoin u4.heap.size 0 5 [⟨(kName k).toArray⟩, ⟨(Lib.itoa at_).toArray⟩, ⟨(Lib.itoa sl).toArray⟩, ⟨(Lib.decDigits who).toArray⟩, ⟨(Lib.itoa why).toArray⟩] ⟨#[32]⟩ (u4.alloc (.cells #[.string ⟨(kName k).toArray⟩, .string ⟨(Lib.itoa at_).toArray⟩, .string ⟨(Lib.itoa sl).toArray⟩, .string ⟨(Lib.decDigits who).toArray⟩, .string ⟨(Lib.itoa why).toArray⟩] 9)) hc5 (by simp [World.size_alloc]) (by simp) (by simp) (by simp) (Nat.le_trans (show (brLine k at_ sl who why).length ≤ 1000 from Hlen.out) (by omega)))
  have hS5 := hS4.trans (T5.below.mono hS4.size)
  clear hc5 T5 hS4
  generalize u4.alloc (.cells #[.string ⟨(kName k).toArray⟩, .string ⟨(Lib.itoa at_).toArray⟩, .string ⟨(Lib.itoa sl).toArray⟩, .string ⟨(Lib.decDigits who).toArray⟩, .string ⟨(Lib.itoa why).toArray⟩] 9) = V5 at *
  generalize u4.heap.size = b5 at *
  refine hK.out _ _ hS5 fun _ => ?_
  clear hK K
  simp only [st0, st1, st2]
  refine rdyA 14 (fun K hK => ?_)
  go_simp
  refine HJ.out.mono ?_
  rintro e u6 ⟨rfl, hB⟩
  have hS6 := hS5.trans (hB.mono hS5.size)
  have HS6 := uh hS6
  clear hB hS5 HJ
  refine hK.out _ _ hS6 fun _ => ?_
  clear hK K
  simp only [st0, st1, st2]
  generalize hJ : Lib.join _ _ = js
  have hjs : js = brLine k at_ sl who why := hJ.symm
  have HJS := uh hjs
  clear hJ hjs
  refine tkA 15 2 hS6 ?_
  refine wpAnyH_done (by kernel_rfl) ?_ _
  refine NoPanic.normal ?_
  clear hS6
  go_wp2_with fail
  go_ret
  exact ⟨by rw [HJS.out]; rfl, HB.out.trans (HS6.out.mono HB.out.size)⟩
end
section
open Go Go.RowKit Go.IntWalk
theorem asound (w : World) (v0 v1 v2 v3 v4 : Value) (N : Nat) (hN : N ≤ maxLen) (hO : Calls Tryz.prog 25 #[v0, v1, v2, v3, v4] w fun e w' => ∃ (ao : Option Addr) (cap : Nat), e = .returned (.tuple #[.slice ao N cap, .int .i64 0]) ∧ Below w.heap.size w w') :
  Calls Tryz.prog 29 #[v0, v1, v2, v3, v4] w fun e w' => e = .returned (.bool (decide (N = 0))) ∧ Below w.heap.size w w' := by
 have HO := uh hO
 clear hO
 go_enter Tryz.func29, Tryz.ntmps29
 go_wp2_with fail
 refine HO.out.mono ?_
 rintro e w1 ⟨ao, cap, rfl, hB⟩
 have HB := uh hB
 clear hB HO
 by_cases h : N = 0
 · subst h
   go_wp2_with fail
   go_ret
   exact ⟨rfl, HB.out⟩
 · have hz : ¬ (N : Int) = 0 := by omega
   have Hf := uh (decide_eq_false h)
   have Hz := uh (show (((N : Nat) : Int) == 0) = false by simp; exact h)
   clear h
   go_wp2_with fail
   go_ret
   exact ⟨by rw [Hf.out]; show Ending.returned (Value.bool (((N : Nat) : Int) == 0)) = _; rw [Hz.out], HB.out⟩
theorem aof_nil (w : World) (ph pw pp pb : Option Addr) : Calls Tryz.prog 25 #[.pointer none, .pointer ph, .pointer pw, .pointer pp, .pointer pb] w fun e w' => e = .returned (.tuple #[.slice none 0 0, .int .i64 1]) ∧ Below w.heap.size w w' := by
 have T0 := (((((Turn.refl (Has.nil w)).alloc (.cells #[.pointer none] 26)).alloc (.cells #[.pointer ph] 73)).alloc (.cells #[.pointer pw] 68)).alloc (.cells #[.pointer pp] 74)).alloc (.cells #[.pointer pb] 103)
 simp only [World.size_alloc] at T0
 have q5 := T0.has.cell (b := w.heap.size) (c := #[.pointer none]) (e := 26) (f := (0, 0)) (by simp) 0
 have HT0 := uh T0
 clear T0
 go_enter Tryz.func25, Tryz.ntmps25
 go_wp2_with fail
 refine bodyPost_ret (results_tmp2 rfl _ _ _) rfl ?_
 exact ⟨rfl, HT0.out.below⟩
def xL : List Ty := [⟨2, 0, 0⟩]
def xH : Hd := ⟨1, 1, 1, 1⟩
def xC : Ce := (0, gapHd 8)
def xW0 : List Nat := lay (List.replicate 16 0) 0 8
def xW1 : List Nat := putW xW0 xC 1 xH
def xW2 : List Nat := xW1.set 3 1048580
def xCs : List Ce := [(0, gapHd 1), (1, xH), (2, gapHd 6)]
theorem xMay : (∀ t ∈ xL, t.may) ∧ xL.length ≤ 64 := ⟨by intro t ht; obtain rfl : t = ⟨2, 0, 0⟩ := List.mem_singleton.1 ht; decide, by decide⟩
theorem xTy : ∀ t ∈ xL, TyIn t := by
 intro t ht
 obtain rfl : t = ⟨2, 0, 0⟩ := List.mem_singleton.1 ht
 constructor <;> decide
theorem xGood0 : Good xL xW0 [xC] := Good.new (n := 16) xMay.1 xMay.2 (by decide) (by decide) (by decide)
theorem xFits : fits xL xH := ⟨by decide, fun _ => ⟨⟨2, 0, 0⟩, rfl, by decide, by decide⟩⟩
theorem xGood1 : Good xL xW1 xCs := Good.put (a := []) (b := []) (c := xC) xGood0 (g := 1) (hd := xH) xFits (by decide) (by decide)
theorem xGood2 : Good xL xW2 xCs := xGood1.slot (c := (1, xH)) (by unfold xCs; simp) (j := 3) (v := 1048580) (by decide) (by decide) (by decide)
theorem xTouch : noTouch xCs := by unfold xCs; exact ⟨.inr rfl, .inl rfl, trivial⟩
theorem xBad1 : badsOf xL xW1 xCs = [] := by decide +kernel
theorem xBad2 : badsOf xL xW2 xCs = [(1, 0, -1, 1048580)] := by decide +kernel
def xS1 : List HSlot := List.replicate 4 zeroHSlot
def xS2 : List HSlot := [⟨1, 1048582⟩, zeroHSlot, zeroHSlot, zeroHSlot]
theorem xHd1 : hdl xS1 = [] := by decide +kernel
theorem xHd2 : hdl xS2 = [(4294967296, 1048582)] := by decide +kernel
theorem xWr1 : wrongs xL xW1 xCs [] [] [] = [] := by unfold wrongs; rw [xBad1]; rfl
theorem xWr2 : wrongs xL xW2 xCs [(4294967296, 1048582)] [] [] = [(2, 1, 0, 0, 8), (3, 0, 0, 4294967296, 0)] := by unfold wrongs; rw [xBad2]; decide +kernel
theorem xLn1 : brLine 2 1 0 0 8 = [114, 101, 102, 32, 49, 32, 48, 32, 48, 32, 56] := by decide +kernel
theorem xLn2 : brLine 3 0 0 4294967296 0 = [104, 97, 110, 100, 32, 48, 32, 48, 32, 52, 50, 57, 52, 57, 54, 55, 50, 57, 54, 32, 48] := by decide +kernel
theorem xLn3 : brLine 99 (-1) 0 0 0 = [63, 32, 45, 49, 32, 48, 32, 48, 32, 48] := by decide +kernel
theorem xBits {B B' : List Nat} (h0 : ∀ j, bitAt B j = false) (h : SetIn B B' 1 1) : bitsOf B' 8 (objs xCs) := fun i hi => by
 rw [h.2.2 i, h0 i, Bool.false_or, Bool.and_eq_true, decide_eq_true_eq, decide_eq_true_eq]
 have ho : objs xCs = [(1, xH)] := rfl
 rw [ho]
 constructor
 · rintro ⟨h1, h2⟩; exact ⟨_, List.mem_singleton.2 rfl, by show 1 = i; omega⟩
 · rintro ⟨c, hc, he⟩
   rw [List.mem_singleton.1 hc] at he
   have : 1 = i := he
   omega
theorem xZero (n j : Nat) : bitAt (List.replicate n 0) j = false := by
 unfold bitAt
 rw [List.getD_eq_getElem?_getD, List.getElem?_replicate]
 split <;> simp
theorem xHandCells {b : Nat} {S : List HSlot} {l : List Blk} (h : HandsIs b S l) : ∀ x ∈ l, x.2.isCells = true := by
 obtain ⟨-, g, cur, rfl, -⟩ := h
 intro x hx
 simp only [List.mem_cons, List.not_mem_nil, or_false] at hx
 rcases hx with rfl | rfl <;> rfl
theorem xSb {w1 w : World} {sb a aw tb bb : Nat} {W B : List Nat} {lb R : List Blk} {cw : Int} {tao : Option Addr} {tcap : Nat} {L : List Ty} (T : Turn [] w1 (arBlks a aw W cw ++ (spBlk sb a tb bb :: lb) ++ R) w) (hTab : TabAt w1 tb tao tcap L) (hF : Fields w1) (hf : W.length ≤ 65536) (hbit : BitIs bb B (W.length / 2) lb) :
  ∃ bo bcap, SbAt w sb a aw tb bb W B bo bcap tao tcap L := by
 obtain ⟨bo, bcap, hBit⟩ := hbit.at_ (R := arBlks a aw W cw ++ (spBlk sb a tb bb :: R)) (T.has.perm po)
 exact ⟨bo, bcap, spAt_of T hTab hF hf, T.has.cell (b := sb) (c := #[.pointer (some ⟨a, 0, none⟩), .pointer (some ⟨tb, 0, none⟩), .pointer (some ⟨bb, 0, none⟩)]) (e := 146) (f := (0, 0)) (by simp [spBlk]) 2, hBit⟩
theorem VwAt.ofEnd {l L M : List Blk} {w w' : World} {vb a : Nat} {g : Int} {h : Hd} {t : Ty} (T : Turn l w (L ++ (M ++ [(vb, .cells (viewCells a g h t).toArray 238)])) w') : VwAt w' vb a g h t :=
 T.has.range (b := vb) (c := (viewCells a g h t).toArray) (e := 238) (f := (0, 0)) (by simp)
theorem alive29 (w : World) (hF : Fields w) (ht : TabW w) : Calls Tryz.prog 23 #[] w fun e w' => e = .returned (.bool true) ∧ Below w.heap.size w w' := by
 have HF := uh hF
 have Ht := uh (Lib.tabBelow_of_tabIs ht)
 obtain ⟨n1, hn1⟩ : ∃ n1, w.heap.size = n1 := ⟨_, rfl⟩
 have T0 := (Turn.refl (Has.nil w)).alloc (.cells #[.int .u8 2, .int .i64 0, .int .u64 0] 49)
 have hr : Row 49 3 (some ⟨w.heap.size, 0, none⟩) 1 1 [.int .u8 2, .int .i64 0, .int .u64 0] [(w.heap.size, .cells #[.int .u8 2, .int .i64 0, .int .u64 0] 49)] := Row.lit (size := 3) w.heap.size #[.int .u8 2, .int .i64 0, .int .u64 0] 1 rfl (by decide)
 have hS : Src (w.alloc (.cells #[.int .u8 2, .int .i64 0, .int .u64 0] 49)) (some ⟨w.heap.size, 0, none⟩) xL.length 1 3 (tys xL) := hr.src (R := []) T0.has
 rw [hn1] at T0 hS
 have HS := uh hS
 have HT0 := uh T0
 clear hF ht hr hS T0
 go_enter Tryz.func23, Tryz.ntmps23
 go_wp2_with fail
 refine tnew _ xL (some ⟨n1, 0, none⟩) 1 HS.out xTy (by decide) _ (uh (fun _ w1 lt hti T1 => ?_)) (uh (fun h => absurd xMay h))
 obtain ⟨tao, tcap, hTab⟩ := hti.tab (R := []) (by rw [List.append_nil]; exact T1.has)
 have hB1 := (HT0.out.call T1.below).below
 have HTab := uh hTab
 have HB1 := uh hB1
 have HF1 := uh (range_below HF.out hB1)
 have Hsn := uh (snew w1 (range_below HF.out hB1) (w.alloc (.cells #[.int .u8 2, .int .i64 0, .int .u64 0] 49)).heap.size 16 (by decide))
 generalize (w.alloc (.cells #[.int .u8 2, .int .i64 0, .int .u64 0] 49)).heap.size = tb at *
 clear T1 hti HS hTab hB1 HT0
 go_wp2_with fail
 refine Hsn.out.mono ?_
 rintro e w2 ⟨sb, l, rfl, ⟨a, aw, bb, cw, lb, hbit, rfl⟩, T2⟩
 have T2' : Turn [] w1 (arBlks a aw xW0 cw ++ (spBlk sb a tb bb :: lb)) w2 := T2
 have Hhn := uh (hNew_any w2 4 (by decide) T2'.has)
 have HT2 := uh T2'
 clear T2 T2' Hsn
 go_wp2_with fail
 refine Hhn.out.mono ?_
 rintro e w3 ⟨hb, lh, rfl, hHd, T3⟩
 have T3' : Turn [] w1 (arBlks a aw xW0 cw ++ (spBlk sb a tb bb :: lb) ++ lh) w3 := (HT2.out.trans T3).perm po
 have hA3 := spAt_of T3' HTab.out HF1.out (by decide)
 have hHc := xHandCells hHd
 have HP := uh (callsIn_wide.1 (sput_in 5 (by omega) w3 sb a aw tb bb tao tcap xL hA3 hbit (by intro v hv; simp at hv; omega) (by decide) hHc T3' HTab.out HF1.out (by decide) xGood0.u64 xTy (by decide) [xC] xGood0.chain 1 1 1 1 (by decide) (by decide) (by decide) (by decide)))
 have HHd := uh hHd
 clear T3 T3' hA3 Hhn hbit hHd HT2 hHc
 go_wp2_with fail
 refine HP.out.mono ?_
 rintro e w4 ⟨er, l', rfl, T4, hE⟩
 rcases hE with ⟨rfl, rfl, hno⟩ | ⟨rfl, c, hc, htk, B', lb', cw', hset, hbit', rfl⟩
 · exact absurd (show takes xC 1 1 by unfold takes; decide) (hno xC (by simp))
 obtain rfl : c = xC := List.mem_singleton.1 hc
 have T4' : Turn [] w1 (arBlks a aw xW1 cw' ++ (spBlk sb a tb bb :: lb') ++ lh) w4 := T4
 have hset1 : SetIn (List.replicate ((16 / 2 + 63) / 64) 0) B' 1 1 := hset
 have hbit1 : BitIs bb B' (xW1.length / 2) lb' := hbit'
 have hI : ∀ W, Good xL W xCs → W.length = 16 → SdIn xL W B' xCs := fun W hG hW => ⟨by omega, hG.u64, xTy, by decide, hG.chain, hset1.2.1, by rw [hset1.1, hW]; rfl, by rw [hW]; exact xBits (xZero _) hset1⟩
 have HI := uh hI
 obtain ⟨bo, bcap, hSb⟩ := xSb T4' HTab.out HF1.out (by decide) hbit1
 have hPt : Pointed w4.heap.size w4 (some ⟨hb, 0, none⟩) xS1 := HHd.out.pointed (R := arBlks a aw xW1 cw' ++ (spBlk sb a tb bb :: lb')) (T4'.has.perm po)
 have ho := aof w4 sb a aw tb bb bo bcap tao tcap xL xCs hSb (hI xW1 xGood1 (by decide)) xTouch (some ⟨hb, 0, none⟩) none none (hdl xS1) [] [] (by rw [xHd1]; simp) (by simp) (by simp) (by rw [xHd1]; simp) (by simp) (by simp) (by simp)
  (tells_hrefs w4 _ xS1 (by decide) (by decide) hPt) (tells_hlist w4 _ xS1 (by decide) (by decide) hPt) (tells_none w4 npList) (tells_none w4 nwRefs) (tells_none w4 nwList)
 rw [xHd1, xWr1] at ho
 have Hsd := uh (asound w4 _ _ _ _ _ 0 (Nat.zero_le _) (ho.mono fun e w' ⟨ao, cap, l, h1, h2, h3⟩ => ⟨ao, cap, h1, h3.below⟩))
 have Hbit := uh hbit1
 have HT4 := uh T4'
 clear T4 T4' hset hset1 hbit' hbit1 hI hSb hPt ho HP htk hc
 go_wp2_with fail
 refine Hsd.out.mono ?_
 rintro e w5 ⟨rfl, hB5⟩
 have HT5 := uh (HT4.out.call hB5)
 have hA5 := spAt_of HT5.out HTab.out HF1.out (by decide)
 have Har := uh (sarena w5 (a := ⟨a, 0, none⟩) rfl hA5.c0)
 have hof := sof w5 hA5.fields hA5.ar xGood1.u64 xL xTy (by decide) tb tao tcap hA5.tab ((1 : Nat) : Int)
 rw [objq_of (g := 1) (h := xH) (xGood1.chain.mem (1, xH) (by unfold xCs; simp)).2.2 rfl] at hof
 have Hof := uh hof
 clear hB5 hA5 hof HT4 Hsd
 go_wp2_with (first
  | (go_at_call 44; refine Har.out.mono ?_; rintro e w' ⟨rfl, hw⟩; rw [hw]; clear hw w')
  | fail)
 refine Hof.out.mono ?_
 rintro e w6 ⟨vb, rfl, T6⟩
 have HT6 := uh ((HT5.out.grow T6).perm (l2 := arBlks a aw xW1 cw' ++ (((spBlk sb a tb bb :: lb') ++ lh) ++ [(vb, .cells (viewCells a ((1 : Nat) : Int) xH (tyAt xL xH.typ)).toArray 238)])) po)
 have Hst := uh (vstore w6 HT6.out (by decide) (VwAt.ofEnd HT6.out) (xTy _ (List.mem_singleton.2 rfl)) (by decide) (by decide) 0 1048580 (by decide) (by decide))
 clear T6 Har Hof HT5
 go_wp2_with (first
  | (go_at_call 51; refine (saddr _ 2 (by decide)).mono ?_; rintro e w' ⟨rfl, hw⟩; rw [hw]; clear hw w')
  | fail)
 refine Hst.out.mono ?_
 rintro e w7 ⟨rfl, n', T7⟩
 have T7' : Turn [] w1 (arBlks a aw xW2 n' ++ (((spBlk sb a tb bb :: lb') ++ lh) ++ [(vb, .cells (viewCells a ((1 : Nat) : Int) xH (tyAt xL xH.typ)).toArray 238)])) w7 := T7
 have T7b := (T7'.sub (l2 := arBlks a aw xW2 n' ++ ((spBlk sb a tb bb :: lb') ++ lh)) (by simp)).perm (l2 := lh ++ (arBlks a aw xW2 n' ++ (spBlk sb a tb bb :: lb'))) po
 have Had := uh (hAdd_at w7 HHd.out T7b.has 1048582 (by decide) (by decide) 0 zeroHSlot rfl rfl (fun j t hj => by omega))
 have HT7 := uh T7b
 clear T7 T7' T7b Hst HT6
 go_wp2_with (first
  | (go_at_call 51; refine (saddr _ 3 (by decide)).mono ?_; rintro e w' ⟨rfl, hw⟩; rw [hw]; clear hw w')
  | fail)
 refine Had.out.mono ?_
 rintro e w8 ⟨rfl, lh2, hHd2, T8⟩
 have hHd3 : HandsIs hb xS2 lh2 := hHd2
 have T8' : Turn [] w1 (arBlks a aw xW2 n' ++ (spBlk sb a tb bb :: lb') ++ lh2) w8 := (HT7.out.trans T8).perm po
 obtain ⟨bo2, bcap2, hSb⟩ := xSb T8' HTab.out HF1.out (by decide) Hbit.out
 have hPt : Pointed w8.heap.size w8 (some ⟨hb, 0, none⟩) xS2 := hHd3.pointed (R := arBlks a aw xW2 n' ++ (spBlk sb a tb bb :: lb')) (T8'.has.perm po)
 have ho : ∀ w9, Below w8.heap.size w8 w9 → _ := fun w9 (hk : Below w8.heap.size w8 w9) => aof w9 sb a aw tb bb bo2 bcap2 tao tcap xL xCs (hSb.below hk) (HI.out xW2 xGood2 (by decide)) xTouch (some ⟨hb, 0, none⟩) none none (hdl xS2) [] [] (by rw [xHd2]; simp) (by simp) (by simp) (by rw [xHd2]; simp) (by simp) (by simp) (by simp)
  ((tells_hrefs w8 _ xS2 (by decide) (by decide) hPt).below hk) ((tells_hlist w8 _ xS2 (by decide) (by decide) hPt).below hk) (tells_none w9 npList) (tells_none w9 nwRefs) (tells_none w9 nwList)
 rw [xHd2, xWr2] at ho
 have HO := uh ho
 have HB8 := uh (HB1.out.trans (T8'.below.mono HB1.out.size))
 clear hHd2 hHd3 T8 T8' hSb hPt ho Had HT7 HHd HI Hbit
 go_wp2_with fail
 refine (HO.out w8 (Below.refl _ _)).mono ?_
 rintro e w9 ⟨ao, cap, l9, rfl, hrow, T9⟩
 have hS9 := hrow.src (R := []) (by rw [List.append_nil]; exact T9.has)
 have HS9 := uh hS9
 have HB9 := uh T9.below
 clear hrow hS9 T9
 go_wp2_with fail
 refine (aof_nil w9 _ _ _ _).mono ?_
 rintro e w10 ⟨rfl, hB10⟩
 have hS10 := HS9.out.below hB10
 obtain ⟨b, off, rfl, -⟩ := hS10.form (by decide)
 have HO10 := HO
 have hr0 : ∀ u, Below w10.heap.size w10 u → u.rangeAt b (off + 0 * 5) [.int .u8 2, .int .i64 1, .int .i64 0, .int .u64 0, .int .i64 8] := fun u hk => Src.fm (f := brCells) (fun _ => rfl) (S := [(2, 1, 0, 0, 8), (3, 0, 0, 4294967296, 0)]) (hS10.below hk) (i := 0) rfl
 have hr1 : ∀ u, Below w10.heap.size w10 u → u.rangeAt b (off + 1 * 5) [.int .u8 3, .int .i64 0, .int .i64 0, .int .u64 4294967296, .int .i64 0] := fun u hk => Src.fm (f := brCells) (fun _ => rfl) (S := [(2, 1, 0, 0, 8), (3, 0, 0, 4294967296, 0)]) (hS10.below hk) (i := 1) rfl
 have Hr1 := uh hr1
 have q0 := hr0 w10 (Below.refl _ _)
 have hszB : (Tryz.prog.info? 60).map (·.size) = some 5 := by kernel_rfl
 have HB10 := uh (HB8.out.trans ((HB9.out.trans (hB10.mono HB9.out.size)).mono HB8.out.size))
 have HB810 := uh (HB9.out.trans (hB10.mono HB9.out.size))
 clear hr0 hr1 hB10 hS10 HS9
 have hL0 : Calls Tryz.prog 39 #[.agg #[.int .u8 2, .int .i64 1, .int .i64 0, .int .u64 0, .int .i64 8]] w10 fun e w' => e = .returned (.string ⟨#[114, 101, 102, 32, 49, 32, 48, 32, 48, 32, 56]⟩) ∧ Below w10.heap.size w10 w' := by
  have h := aline w10 (Ht.out w10 HB10.out) 2 (by decide) 1 0 0 8 (by decide) (by decide) (by decide) (by decide) (by decide) (by decide) (by decide)
  rw [xLn1] at h
  exact h
 have HL0 := uh hL0
 clear hL0
 go_wp2_with (first
  | (show lW 60; refine wpList_load_g 60 _ rfl (by rfl) b (off) rfl [.int .u8 2, .int .i64 1, .int .i64 0, .int .u64 0, .int .i64 8] _ q0 Tryz.underlying60 rfl hszB ?_; clear q0)
  | fail)
 refine HL0.out.mono ?_
 rintro e w11 ⟨rfl, hB11⟩
 have q1 := Hr1.out w11 hB11
 have HB11 := uh (HB10.out.trans (hB11.mono HB10.out.size))
 have HB811 := uh (HB810.out.trans (hB11.mono HB810.out.size))
 clear hB11 HL0 HB10 HB810 Hr1
 have hL1 : Calls Tryz.prog 39 #[.agg #[.int .u8 3, .int .i64 0, .int .i64 0, .int .u64 4294967296, .int .i64 0]] w11 fun e w' => e = .returned (.string ⟨#[104, 97, 110, 100, 32, 48, 32, 48, 32, 52, 50, 57, 52, 57, 54, 55, 50, 57, 54, 32, 48]⟩) ∧ Below w11.heap.size w11 w' := by
  have h := aline w11 (Ht.out w11 HB11.out) 3 (by decide) 0 0 4294967296 0 (by decide) (by decide) (by decide) (by decide) (by decide) (by decide) (by decide)
  rw [xLn2] at h
  exact h
 have HL1 := uh hL1
 clear hL1
 go_wp2_with (first
  | (show lW 60; refine wpList_load_g 60 _ rfl (by rfl) b (off + 5) rfl [.int .u8 3, .int .i64 0, .int .i64 0, .int .u64 4294967296, .int .i64 0] _ q1 Tryz.underlying60 rfl hszB ?_; clear q1)
  | fail)
 refine HL1.out.mono ?_
 rintro e w12 ⟨rfl, hB12⟩
 have HB12 := uh (HB11.out.trans (hB12.mono HB11.out.size))
 have Hsd2 := uh (asound w12 _ _ _ _ _ 2 (by decide) ((HO10.out w12 (HB811.out.trans (hB12.mono HB811.out.size))).mono fun e w' ⟨ao, cap, l, h1, h2, h3⟩ => ⟨ao, cap, h1, h3.below⟩))
 clear hB12 HL1 HB11 HB811
 go_wp2_with fail
 refine Hsd2.out.mono ?_
 rintro e w13 ⟨rfl, hB13⟩
 have HB13 := uh (HB12.out.trans (hB13.mono HB12.out.size))
 clear hB13 HB12 Hsd2
 have hL2 : Calls Tryz.prog 39 #[.agg #[.int .u8 99, .int .i64 (-1), .int .i64 0, .int .u64 0, .int .i64 0]] w13 fun e w' => e = .returned (.string ⟨#[63, 32, 45, 49, 32, 48, 32, 48, 32, 48]⟩) ∧ Below w13.heap.size w13 w' := by
  have h := aline w13 (Ht.out w13 HB13.out) 99 (by decide) (-1) 0 0 0 (by decide) (by decide) (by decide) (by decide) (by decide) (by decide) (by decide)
  rw [xLn3] at h
  exact h
 have HL2 := uh hL2
 clear hL2
 go_wp2_with fail
 refine HL2.out.mono ?_
 rintro e w14 ⟨rfl, hB14⟩
 have HB14 := uh (HB13.out.trans (hB14.mono HB13.out.size))
 clear hB14 HB13 HL2
 go_wp2_with fail
 go_ret
 exact ⟨rfl, HB14.out⟩
def StepEnd (w w' : World) (L : List Ty) (lao : Option Addr) (lcap : Nat) (e : Ending) : Prop :=
 (e = .returned (.pointer none) ∧ Below w.heap.size w w') ∨
 ∃ (sb rb tb : Nat) (w1 : World) (W B : List Nat) (cs : List Ce), e = .returned (.pointer (some ⟨sb, 0, none⟩)) ∧ Below w.heap.size w w1 ∧ PlBase w1 tb L lao lcap ∧ Pl L W B cs ∧ PlAt w1 w' sb tb rb lao lcap L W B W []
theorem steps29 (w : World) (n : Int) (L : List Ty) (lao : Option Addr) (lcap : Nat) (sao : Option Addr) (sl scap : Nat)
  (HPl : Hid (Calls Tryz.prog 10 #[.int .i64 n, .slice lao L.length lcap, .slice sao sl scap] w fun e w' => PlayEnd w w' L lao lcap e)) :
  Calls Tryz.prog 24 #[.int .i64 n, .slice lao L.length lcap, .slice sao sl scap] w fun e w' => StepEnd w w' L lao lcap e := by
 go_enter Tryz.func24, Tryz.ntmps24
 go_wp2_with fail
 refine HPl.out.mono ?_
 rintro e w2 (⟨rfl, hB⟩ | ⟨sb, rb, tb, w1, W, B, cs, rfl, hX⟩)
 · have HB := uh hB
   clear hB HPl
   go_wp2_with fail
   go_ret
   exact .inl ⟨rfl, HB.out⟩
 · have HX := uh hX
   clear hX HPl
   go_wp2_with fail
   go_ret
   exact .inr ⟨sb, rb, tb, w1, W, B, cs, rfl, HX.out⟩
theorem auditGaps_walk (w : World) (hF : Fields w) (ht : TabW w) (n : Int) (L : List Ty) (lao : Option Addr) (lcap : Nat) (sao : Option Addr) (sl scap : Nat) (hv : Bool)
  (HHv : Hid (Calls Tryz.prog 8 #[.int .i64 n, .slice lao L.length lcap, .slice sao sl scap] w fun e w' => e = .returned (.bool hv) ∧ w' = w))
  (HPl : Hid (hv = false → Calls Tryz.prog 10 #[.int .i64 n, .slice lao L.length lcap, .slice sao sl scap] w fun e w' => PlayEnd w w' L lao lcap e)) :
  Calls Tryz.prog 5 #[.int .i64 n, .slice lao L.length lcap, .slice sao sl scap] w fun e w' => e = .returned (.bool true) ∧ Below w.heap.size w w' := by
 have HAl := uh (fun w' (hB : Below w.heap.size w w') => alive29 w' (range_below hF hB) (Lib.tabBelow_of_tabIs ht w' hB))
 clear hF ht
 go_enter Tryz.func5, Tryz.ntmps5
 go_wp2_with fail
 refine HHv.out.mono ?_
 rintro e w2 ⟨rfl, hw⟩
 rw [hw]
 clear hw w2
 cases hv
 · have HP := uh (steps29 w n L lao lcap sao sl scap (uh (HPl.out rfl)))
   clear HPl HHv
   go_wp2_with fail
   refine HP.out.mono ?_
   rintro e w2 (⟨rfl, hB⟩ | ⟨sb, rb, tb, w1, W, B, cs, rfl, hB1, hb, hP, hAt⟩)
   · go_wp2_with fail
     refine (HAl.out w2 hB).mono ?_
     rintro e w3 ⟨rfl, hB3⟩
     have HB := uh (hB.trans (hB3.mono hB.size))
     clear hB hB3
     go_wp2_with fail
     go_ret
     exact ⟨rfl, HB.out⟩
   · obtain ⟨a, aw, bb, bo, bcap, tao, tcap, hA, hI⟩ := sbat_pl w2 hb hAt hP
     have hB2 : Below w.heap.size w w2 := by
      obtain ⟨ls, lr, -, -, -, T⟩ := hAt
      exact hB1.trans (T.below.mono hB1.size)
     have HB2 := uh hB2
     have hbl := bads_len hI
     have Hof := uh (aof w2 sb a aw tb bb bo bcap tao tcap L cs hA hI hP.touch none none none [] [] [] (by simp) (by simp) (by simp) (by simp) (by simp) (by simp) (by simp)
      (tells_none w2 nhRefs) (tells_none w2 nhList) (tells_none w2 npList) (tells_none w2 nwRefs) (tells_none w2 nwList))
     have hE : wrongs L W cs [] [] [] = (badsOf L W cs).map refBr := by unfold wrongs lost lostW lost; simp
     rw [hE, List.length_map] at Hof
     generalize badsOf L W cs = E at *
     clear hA hI hb hP hAt hB1 hB2 HP hE
     go_wp2_with fail
     refine Hof.out.mono ?_
     rintro e w3 ⟨ao, cap, l, rfl, hrow, T3⟩
     have HB3 := uh (HB2.out.trans (T3.below.mono HB2.out.size))
     have hS := hrow.src (R := []) (by rw [List.append_nil]; exact T3.has)
     have HS := uh (fun (i : Nat) (x : Ed) (hx : E[i]? = some x) => (by
      have hxm : (E.map refBr)[i]? = some (refBr x) := by rw [List.getElem?_map, hx]; rfl
      obtain ⟨b, off, rfl, -⟩ := hS.form (by rw [brs_length, List.length_map]; have := (List.getElem?_eq_some_iff.1 hx).1; omega)
      exact ⟨b, off, rfl, Src.fm (f := brCells) (fun _ => rfl) hS hxm 0 _ rfl⟩ : ∃ b off, ao = some ⟨b, off, none⟩ ∧ w3.cell? ⟨b, off + i * 5 + 0, none⟩ = some (.int .u8 (2 : Nat))))
     clear hS hrow T3 HB2 Hof
     go_wp2_with fail
     go_loopw [10] (fun v10 wr => ∃ i : Nat, i ≤ E.length ∧ v10 = .int .i64 i ∧ wr = w3) (fun v10 _ => E.length - (intOf v10).toNat)
     case atStart => exact ⟨0, Nat.zero_le _, by go_num, rfl⟩
     case round =>
      obtain ⟨i, hi, rfl, rfl⟩ := hrel
      by_cases hlt : i < E.length
      · have hlt' : (i : Int) < (E.length : Int) := by omega
        obtain ⟨x, hx⟩ : ∃ x, E[i]? = some x := ⟨E[i], List.getElem?_eq_getElem hlt⟩
        obtain ⟨b, off, rfl, q⟩ := HS.out i x hx
        rw [Nat.add_zero] at q
        clear hx
        go_wp2_with fail
        go_roundw
        case rel => exact ⟨i + 1, by omega, by go_num, trivial⟩
        case measure => simp [intOf]; omega
      · obtain rfl : i = E.length := by omega
        have hnl : ¬ ((E.length : Nat) : Int) < (E.length : Int) := by omega
        go_wp2_with fail
        refine (HAl.out wr HB3.out).mono ?_
        rintro e w4 ⟨rfl, hB4⟩
        have HB4 := uh (HB3.out.trans (hB4.mono HB3.out.size))
        clear hB4
        go_wp2_with fail
        go_ret
        exact ⟨rfl, HB4.out⟩
 · clear HPl HHv
   go_wp2_with fail
   refine (HAl.out w (Below.refl _ _)).mono ?_
   rintro e w3 ⟨rfl, hB3⟩
   have HB := uh hB3
   clear hB3
   go_wp2_with fail
   go_ret
   exact ⟨rfl, HB.out⟩
end
section
open Go Go.RowKit
theorem lens_mem {N : Nat} : ∀ {ss : List Stp}, lens ss ≤ N → ∀ s ∈ ss, s.ats.length ≤ N
 | a :: l, h, s, hs => by
  have h1 : lens (a :: l) = a.ats.length + lens l := by simp [lens]
  rcases List.mem_cons.1 hs with rfl | hs
  · omega
  · exact lens_mem (by omega) s hs
theorem played_all (w : World) (hF : Fields w) (L : List Ty) (lao : Option Addr) (lcap : Nat) (hS : Src w lao L.length lcap 3 (tys L)) (hTy : ∀ t ∈ L, TyIn t) (n : Int)
  (sao : Option Addr) (scap : Nat) (ss : List Stp) (hSt : Src w sao ss.length scap 6 (sts ss)) (hin : ∀ s ∈ ss, s.w < 18446744073709551616 ∧ Src w s.ao s.ats.length s.cap 1 (ints s.ats) ∧ s.ats.length ≤ 17592186044416) (hh : heavy n L.length ss = false) :
  Calls Tryz.prog 10 #[.int .i64 n, .slice lao L.length lcap, .slice sao ss.length scap] w fun e w' => PlayEnd w w' L lao lcap e := by
 unfold heavy at hh
 simp only [Bool.or_eq_false_iff, Bool.and_eq_false_iff, decide_eq_false_iff_not] at hh
 obtain ⟨⟨⟨h1, h2⟩, h3⟩, h4⟩ := hh
 have hL : L.length ≤ 1000 := by omega
 by_cases hok : (∀ t ∈ L, t.may) ∧ L.length ≤ 64
 · by_cases hn : mayWords n
   · obtain ⟨k, rfl⟩ : ∃ k : Nat, n = k := ⟨n.toNat, by have := hn.1; omega⟩
     refine played_ok w hF L lao lcap hS hTy hL hok k hn (by have := hn.2.1; omega) sao scap ss hSt (by omega) fun s hs => ?_
     obtain ⟨i1, i2, i3⟩ := hin s hs
     have h5 : lens ss ≤ 300 := by
      rw [List.take_of_length_le (by omega)] at h4
      omega
     exact ⟨by have := lens_mem h5 s hs; omega, i1, i2⟩
   · exact played_no w n L lao lcap sao ss.length scap (uh (made_few w L lao lcap hS hTy hL hok n hn))
 · exact played_no w n L lao lcap sao ss.length scap (uh (made_types w L lao lcap hS hTy hL hok n))
end
end Go.Proofs.YtbecgkejdacidaaGreatDoor
namespace Go.Proofs.YtbecgkejdacidaaGreatDoor.auditGaps
open Go
theorem named : Tryz.pinned.checked.prog.funcNamed Rows.auditGapsRow.func = some 5 := by kernel_rfl
theorem looks : false = Tryz.pinned.checked.prog.looks [] := by kernel_rfl
theorem wfText : Rows.auditGapsRow.wfByText (OpenSpec.ofChange Rows.auditGapsSpec) = true := by kernel_rfl
theorem mainIs : Tryz.pinned.checked.prog.mainIs = some (true, "367503d1219b5296946ea50cbce7af74187deeecb45e1afd359862ce6c042c1c".toList) := by kernel_rfl
theorem goesBy : false = Rows.auditGapsRow.goesBy Tryz.pinned.checked.prog := by kernel_rfl
theorem closed : joinedFacts Tryz.pinned.checked.prog 5 Tryz.f5 Rows.auditGapsSpec Rows.auditGapsRow = true := by
 unfold joinedFacts
 simp only [Bool.and_eq_true]
 and_intros
 all_goals (as_aux_lemma => kernel_rfl)
end Go.Proofs.YtbecgkejdacidaaGreatDoor.auditGaps
