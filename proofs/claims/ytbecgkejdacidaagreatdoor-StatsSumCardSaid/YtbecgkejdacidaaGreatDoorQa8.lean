/-
  A part of a proof: texts packed by a program of mine (Kit9, Ss1, Pl9, SsCl).
  Conditions: those that each theorem states.
-/
import Derived.BigQuiet
import Derived.Test.YtbecgkejdacidaaGreatDoorRows
import Derived.JoinedOf
import GoSem.ClaimSeven
import Derived.SevenTiedAt
import Derived.Test.YtbecgkejdacidaaGreatDoorQa7
namespace Go.Proofs.YtbecgkejdacidaaGreatDoor
section
open Go Go.RowKit
def veil : List Nat → List Value → List Value
 | [], L => L
 | i :: is, L => veil is (L.set i undef)
def unveil : List Nat → List Value → List Value → List Value
 | i :: is, v :: vs, L => (unveil is vs L).set i v
 | _, _, L => L
end
section
open Go Go.RowKit Go.IntWalk
theorem sstats_pl {w1 : World} (w : World) {sb tb rb lcap : Nat} {lao : Option Addr} {L : List Ty} {W B Wr : List Nat} {X : List Blk} {cs : List Ce} (hb : PlBase w1 tb L lao lcap) (hP : PlAt w1 w sb tb rb lao lcap L W B Wr X) (h : Pl L W B cs) :
  ∃ a aw tao tcap, SpAt w sb a aw tb W tao tcap L ∧ W.length ≤ 65536 ∧ L.length ≤ 1000 := by
 obtain ⟨tao, tcap, hTab⟩ := hb.tab
 have hsm := h.good.small
 have hfew := h.good.few
 obtain ⟨ls, lr, ⟨a, aw, bb, cw, lb, hbit, rfl⟩, hR, hX, T⟩ := hP
 exact ⟨a, aw, tao, tcap, spAt_of T hTab hb.fields (by omega), by omega, by omega⟩
set_option maxRecDepth 100000 in
set_option maxHeartbeats 12800000 in
theorem statsSum_walk (w : World) (hF : Fields w) (ht : TabW w) (n : Int) (L : List Ty) (lao : Option Addr) (lcap : Nat) (sao : Option Addr) (sl scap : Nat) (hv : Bool)
  (HHv : Hid (Calls Tryz.prog 8 #[.int .i64 n, .slice lao L.length lcap, .slice sao sl scap] w fun e w' => e = .returned (.bool hv) ∧ w' = w))
  (HPl : Hid (hv = false → Calls Tryz.prog 10 #[.int .i64 n, .slice lao L.length lcap, .slice sao sl scap] w fun e w' => PlayEnd w w' L lao lcap e)) :
  Calls Tryz.prog 3 #[.int .i64 n, .slice lao L.length lcap, .slice sao sl scap] w fun e w' => e = .returned (.bool true) ∧ Below w.heap.size w w' := by
 have HF := uh hF
 have Ht := uh (Lib.tabBelow_of_tabIs ht)
 have HAl := uh (fun w' (hB : Below w.heap.size w w') => alive32 w' (range_below hF hB) (Lib.tabBelow_of_tabIs ht w' hB))
 clear hF ht
 go_enter Tryz.func3, Tryz.ntmps3
 go_wp2_with fail
 refine HHv.out.mono ?_
 rintro e w2 ⟨rfl, hw⟩
 rw [hw]
 clear hw w2
 cases hv
 · have HP := uh (HPl.out rfl)
   clear HPl HHv
   go_wp2_with fail
   refine HP.out.mono ?_
   rintro e w2 (⟨rfl, hB⟩ | ⟨sb, rb, tb, w1, W, B, cs, rfl, hB1, hb, hP, hAt⟩)
   · go_wp2_with fail
     refine (HAl.out w2 hB).mono ?_
     rintro e w3 ⟨rfl, hB3⟩
     have HB := uh (hB.trans (hB3.mono hB.size))
     clear hB hB3
     go_wp2_with fail
     go_ret
     exact ⟨rfl, HB.out⟩
   · obtain ⟨a, aw, tao, tcap, hA, hf, hL⟩ := sstats_pl w2 hb hAt hP
     have HA := uh hA
     have HSo := uh (sstats w2 sb a aw tb tao tcap L hA hf hP.good.u64 hb.ty hL cs hP.good.chain)
     have hB2 : Below w.heap.size w w2 := by
      obtain ⟨ls, lr, -, -, -, T⟩ := hAt
      exact hB1.trans (T.below.mono hB1.size)
     have HB2 := uh hB2
     have HGood := uh hP.good
     have Hty := uh hb.ty
     clear hA hb hP hAt hB1 hB2 HP
     go_wp2_with fail
     refine HSo.out.mono ?_
     rintro e w3 ⟨ss, ao, cap, l3, rfl, hpw, hnd, hmm, hrow, T3⟩
     unfold stVal
     generalize hgl : (gaps cs).length = gl at *
     generalize hfr : freeOf cs = fr at *
     generalize hbg : bigOf (gaps cs) = bg at *
     generalize hbr : brokenOf fr bg = br at *
     generalize edgesOf L W cs = ed at *
     generalize hlo : (looseTo (fun k => keptOf L W (ofType (objs cs) k)) ss : Int) - (ed : Int) = lo at *
     clear hlo
     have Hgl := uh hgl
     have Hfr := uh hfr
     have Hbg := uh hbg
     have Hbr := uh hbr
     have HA3 := uh (HA.out.below T3.below)
     have hSr := hrow.src (R := []) (by rw [List.append_nil]; exact T3.has)
     have HSr := uh (fun w' (hB : Below w3.heap.size w3 w') => hSr.below hB)
     have HB3 := uh (HB2.out.trans (T3.below.mono HB2.out.size))
     have hss := sz_stats
     have hsk := sz_kept
     have hos : (#[.slice ao ss.length cap, .int .i64 gl, .int .i64 fr, .int .i64 bg, .int .i64 br, .int .i64 ed, .int .i64 lo] : Array Value).all (·.oneCell') = true := all_one (cs := [.slice ao ss.length cap, .int .i64 gl, .int .i64 fr, .int .i64 bg, .int .i64 br, .int .i64 ed, .int .i64 lo]) (by simp [Value.oneCell'])
     have Hpw := uh hpw
     have Hnd := uh hnd
     have Hmm := uh hmm
     have hol : (objs cs).length ≤ 65536 := by
      have h1 : (objs cs).length ≤ cs.length := by unfold objs; exact List.length_filter_le ..
      have h2 := HGood.out.chain.len
      omega
     have hsl : ss.length ≤ 65536 := Nat.le_trans (ss_len hnd hmm) hol
     have Hka := uh (fun k hk => kept_asks (k := k) HGood.out.chain hmm hk)
     have hgr : sumBy cSize (objs cs) ≤ 65536 := by
      have h1 := HGood.out.chain.sum
      have h2 := sum_cells cs cSize
      omega
     have Hgs := uh (fun i => Nat.le_trans (sum_take (f := fun k => (keptOf L W (ofType (objs cs) k)).granules) ss i) (Nat.le_trans (Nat.le_of_eq (granules_sum hnd hmm)) hgr))
     have Hobs := uh (fun i => Nat.le_trans (sum_take (f := fun k => (keptOf L W (ofType (objs cs) k)).objects) ss i) (Nat.le_trans (Nat.le_of_eq (objects_sum (L := L) (W := W) hnd hmm)) hol))
     obtain ⟨n7, hn7⟩ : ∃ n7, w3.heap.size = n7 := ⟨_, rfl⟩
     have T9 := (Turn.refl (Has.nil w3)).alloc (.cells #[.slice none 0 0, .int .i64 0, .int .i64 0, .int .i64 0, .int .i64 0, .int .i64 0, .int .i64 0] 32)
     rw [hn7] at T9
     have hth : (w3.alloc (.cells #[.slice none 0 0, .int .i64 0, .int .i64 0, .int .i64 0, .int .i64 0, .int .i64 0, .int .i64 0] 32)).there n7 0 7 := T9.there1
     have HT9 := uh (T9.laid [.slice ao ss.length cap, .int .i64 gl, .int .i64 fr, .int .i64 bg, .int .i64 br, .int .i64 ed, .int .i64 lo] rfl)
     clear hgl hfr hbg hbr T3 hrow hSr hpw hnd hmm T9 HA HSo HB2
     go_wp2_with (first
      | (show wpList _ _ _ (⟨_, Op.store 32 _ _, _, _, _, _⟩ :: _) _ _; refine wpList_store_mid rfl 32 _ _ rfl n7 0 #[.slice ao ss.length cap, .int .i64 gl, .int .i64 fr, .int .i64 bg, .int .i64 br, .int .i64 ed, .int .i64 lo] rfl rfl hth hss hos ?_; clear hth; generalize (w3.alloc (.cells #[.slice none 0 0, .int .i64 0, .int .i64 0, .int .i64 0, .int .i64 0, .int .i64 0, .int .i64 0] 32)).setCells n7 0 [.slice ao ss.length cap, .int .i64 gl, .int .i64 fr, .int .i64 bg, .int .i64 br, .int .i64 ed, .int .i64 lo] = w4 at *)
      | fail)
     clear hn7
     go_loopw [12, 13, 14] (fun v12 v13 v14 wr => ∃ (i : Nat), i ≤ ss.length ∧ v14 = .int .i64 i ∧ v12 = .int .i64 ((ss.take i).map fun k => (keptOf L W (ofType (objs cs) k)).granules).sum ∧ v13 = .int .i64 ((ss.take i).map fun k => (keptOf L W (ofType (objs cs) k)).objects).sum ∧ Turn [] w3 [(n7, .cells #[.slice ao ss.length cap, .int .i64 gl, .int .i64 fr, .int .i64 bg, .int .i64 br, .int .i64 ed, .int .i64 lo] 32)] wr) (fun _ _ v14 _ => ss.length - (intOf v14).toNat)
     case atStart => exact ⟨0, Nat.zero_le _, by go_num, rfl, rfl, HT9.out⟩
     case round =>
      clear HT9
      obtain ⟨i, hi, rfl, rfl, rfl, V⟩ := hrel
      have p0 := V.cell1 0
      by_cases hlt : i < ss.length
      · have hlt' : (i : Int) < (ss.length : Int) := by omega
        obtain ⟨k, hk⟩ : ∃ k, ss[i]? = some k := ⟨ss[i], List.getElem?_eq_getElem hlt⟩
        have hS8 := HSr.out _ V.below
        obtain ⟨b, off, rfl, -⟩ := hS8.form (by rw [kps_length]; omega)
        have hrg := hS8.kp hk
        have hx := Hka.out k (List.mem_of_getElem? hk)
        have hsn1 := sum_snoc (f := fun k => (keptOf L W (ofType (objs cs) k)).granules) hk
        have hsn2 := sum_snoc (f := fun k => (keptOf L W (ofType (objs cs) k)).objects) hk
        have hgs := Hgs.out (i + 1)
        have hobs := Hobs.out (i + 1)
        rw [hsn1] at hgs
        rw [hsn2] at hobs
        generalize ((ss.take i).map fun k => (keptOf L W (ofType (objs cs) k)).granules).sum = sg at *
        generalize ((ss.take i).map fun k => (keptOf L W (ofType (objs cs) k)).objects).sum = so at *
        have Hsn1 := uh hsn1
        have Hsn2 := uh hsn2
        clear hsn1 hsn2
        generalize keptOf L W (ofType (objs cs) k) = x at *
        obtain ⟨ha1, ha2, ha3, ha4, ha5, ha6⟩ := hx
        have hrg2 : wr.rangeAt b (off + i * 6) [.int .i64 k, .int .i64 x.objects, .int .i64 x.granules, .int .i64 x.slots, .int .i64 x.refs, .int .i64 x.nils] := hrg
        have T3 := V.alloc (.cells #[.int .i64 0, .int .i64 0, .int .i64 0, .int .i64 0, .int .i64 0, .int .i64 0] 37)
        have hth : (wr.alloc (.cells #[.int .i64 0, .int .i64 0, .int .i64 0, .int .i64 0, .int .i64 0, .int .i64 0] 37)).there wr.heap.size 0 6 := T3.there1
        have HT3 := uh (T3.laid [.int .i64 k, .int .i64 x.objects, .int .i64 x.granules, .int .i64 x.slots, .int .i64 x.refs, .int .i64 x.nils] rfl)
        have hok := kp_one k x
        have Hk := uh hk
        clear hrg T3 V hk hS8
        by_cases hi0 : i = 0
        · have hz1 : decide ((0 : Int) < (i : Int)) = false := decide_eq_false (by omega)
          have hz2 : decide (0 < i) = false := decide_eq_false (by omega)
          clear hi0
          go_wp2_with (first
          | (show wpList _ _ _ (⟨_, Op.load 37 _, _, _, _, _⟩ :: _) _ _; refine wpList_load_mid rfl 37 _ rfl b (off + i * 6) rfl _ _ hrg2 Tryz.underlying37 rfl hsk ?_; clear hrg2)
          | (show wpList _ _ _ (⟨_, Op.store 37 _ _, _, _, _, _⟩ :: _) _ _; refine wpList_store_mid rfl 37 _ _ rfl wr.heap.size 0 #[.int .i64 k, .int .i64 x.objects, .int .i64 x.granules, .int .i64 x.slots, .int .i64 x.refs, .int .i64 x.nils] rfl rfl hth hsk hok ?_; clear hth; generalize (wr.alloc (.cells #[.int .i64 0, .int .i64 0, .int .i64 0, .int .i64 0, .int .i64 0, .int .i64 0] 37)).setCells wr.heap.size 0 [.int .i64 k, .int .i64 x.objects, .int .i64 x.granules, .int .i64 x.slots, .int .i64 x.refs, .int .i64 x.nils] = w5 at *; generalize wr.heap.size = nb at *)
          | fail)
          have c0 := HT3.out.cell1 0
          have c1 := HT3.out.cell1 1
          have c2 := HT3.out.cell1 2
          have c3 := HT3.out.cell1 3
          have c4 := HT3.out.cell1 4
          have c5 := HT3.out.cell1 5
          have p1 := HT3.out.cell2 0
          have hwA : IntKind.i64.wrap ((x.slots : Int) + (x.objects : Int)) = (x.slots : Int) + (x.objects : Int) := i64_in _ (by omega)
          have hwB : IntKind.i64.wrap (2 * (x.granules : Int)) = 2 * (x.granules : Int) := i64_in _ (by omega)
          have d1 : decide ((x.objects : Int) < 1) = false := decide_eq_false (by omega)
          have d2 : decide ((x.refs : Int) < (x.nils : Int)) = false := decide_eq_false (by omega)
          have d3 : decide ((x.slots : Int) < (x.refs : Int)) = false := decide_eq_false (by omega)
          have d4 : decide (2 * (x.granules : Int) < (x.slots : Int) + (x.objects : Int)) = false := decide_eq_false (by omega)
          have d5 : decide ((x.slots : Int) + (x.objects : Int) < (x.granules : Int)) = false := decide_eq_false (by omega)
          have n1 : decide (x.objects < 1) = false := decide_eq_false (by omega)
          have n2 : decide (x.refs < x.nils) = false := decide_eq_false (by omega)
          have n3 : decide (x.slots < x.refs) = false := decide_eq_false (by omega)
          clear ha1 ha2 ha3 ha4 ha5 ha6
          -- R14
          have hS5 : (fun W' => W'.rangeAt nb 0 [.int .i64 k, .int .i64 x.objects, .int .i64 x.granules, .int .i64 x.slots, .int .i64 x.refs, .int .i64 x.nils]) w5.drew := HT3.out.drew.range1
          have HT5 := uh HT3.out.drew
          clear HT3 c0 c1 c2 c3 c4 c5 p1
          refine wp_region_noPanic ?_
          refine wp_region_listed (S := fun W' => W'.rangeAt nb 0 [.int .i64 k, .int .i64 x.objects, .int .i64 x.granules, .int .i64 x.slots, .int .i64 x.refs, .int .i64 x.nils]) 54 [false, false, false, false, false, false, false, false, false, false, false, false, false, false, false, false, false, false, false, false, false, false, false, false, false, false, false, false, false, false, false, false, false, false, false, false, false, false, false, false, false, false, false, false, false, false, false, false, false, false, false, false, false, false] rfl rfl (by kernel_rfl) ?_
          generalize w5.drew = w6 at *
          refine tkA 0 61 hS5 ?_
          refine tkA 1 62 hS5 ?_
          refine tkA 2 63 hS5 ?_
          refine tkS 3 64 hS5 ?_
          refine tkS 4 65 hS5 ?_
          refine tkS 5 66 hS5 ?_
          refine tkS 6 67 hS5 ?_
          refine tkS 7 68 hS5 ?_
          refine tkS 8 69 hS5 ?_
          refine tkS 9 70 hS5 ?_
          refine tkS 10 71 hS5 ?_
          refine tkS 11 72 hS5 ?_
          refine tkS 12 73 hS5 ?_
          refine tkA 13 74 hS5 ?_
          refine tkA 14 75 hS5 ?_
          refine tkA 15 76 hS5 ?_
          refine tkB 16 77 hS5 (fun w hSw => hSw 1 _ rfl) ?_
          refine tkA 17 78 hS5 ?_
          refine tkA 18 79 hS5 ?_
          refine tkA 19 80 hS5 ?_
          refine tkA 20 81 hS5 ?_
          refine tkB 21 82 hS5 (fun w hSw => hSw 5 _ rfl) ?_
          refine tkA 22 83 hS5 ?_
          refine tkB 23 84 hS5 (fun w hSw => hSw 4 _ rfl) ?_
          refine tkA 24 85 hS5 ?_
          refine tkA 25 86 hS5 ?_
          refine tkA 26 87 hS5 ?_
          refine tkA 27 88 hS5 ?_
          refine tkB 28 89 hS5 (fun w hSw => hSw 4 _ rfl) ?_
          refine tkA 29 90 hS5 ?_
          refine tkB 30 91 hS5 (fun w hSw => hSw 3 _ rfl) ?_
          refine tkA 31 92 hS5 ?_
          refine tkA 32 93 hS5 ?_
          refine tkA 33 94 hS5 ?_
          refine tkA 34 95 hS5 ?_
          refine tkB 35 96 hS5 (fun w hSw => hSw 3 _ rfl) ?_
          refine tkA 36 97 hS5 ?_
          refine tkB 37 98 hS5 (fun w hSw => hSw 1 _ rfl) ?_
          refine tkA 38 99 hS5 ?_
          refine tkA 39 100 hS5 ?_
          refine tkB 40 101 hS5 (fun w hSw => hSw 2 _ rfl) ?_
          refine tkA 41 102 hS5 ?_
          refine tkA 42 103 hS5 ?_
          refine tkA 43 104 hS5 ?_
          refine tkA 44 105 hS5 ?_
          refine tkA 45 106 hS5 ?_
          refine tkB 46 107 hS5 (fun w hSw => hSw 2 _ rfl) ?_
          refine tkA 47 108 hS5 ?_
          refine tkB 48 109 hS5 (fun w hSw => hSw 3 _ rfl) ?_
          refine tkA 49 110 hS5 ?_
          refine tkB 50 111 hS5 (fun w hSw => hSw 1 _ rfl) ?_
          refine tkA 51 112 hS5 ?_
          refine tkA 52 113 hS5 ?_
          refine tkA 53 114 hS5 ?_
          refine wpAnyH_done (by kernel_rfl) ?_ _
          refine NoPanic.normal ?_
          clear hS5
          have c1 := HT5.out.cell1 1
          have c2 := HT5.out.cell1 2
          have hwC : IntKind.i64.wrap ((sg : Int) + (x.granules : Int)) = (sg : Int) + (x.granules : Int) := i64_in _ (by omega)
          have hwD : IntKind.i64.wrap ((so : Int) + (x.objects : Int)) = (so : Int) + (x.objects : Int) := i64_in _ (by omega)
          clear hwA hwB d1 d2 d3 d4 d5 n1 n2 n3
          go_wp2_with fail
          go_roundw
          case rel =>
           refine ⟨i + 1, by omega, by go_num, ?_, ?_, HT5.out.tail⟩
           · rw [Hsn1.out]
             simp
           · rw [Hsn2.out]
             simp
          case measure => simp [intOf]; omega
          -- R14 end
        · obtain ⟨i1, hi1⟩ : ∃ i1, i = i1 + 1 := ⟨i - 1, by omega⟩
          obtain ⟨k1, hk1⟩ : ∃ k1, ss[i1]? = some k1 := ⟨ss[i1]'(by omega), List.getElem?_eq_getElem (by omega)⟩
          have hkk : k1 < k := rises_next Hpw.out Hnd.out hk1 (by rw [← hi1]; exact Hk.out)
          have Hk1 := uh hk1
          have hl1 : (i1 : Int) < (ss.length : Int) := by omega
          have hwI : IntKind.i64.wrap ((i : Int) - 1) = (i1 : Int) := by rw [i64_in _ (by omega)]; omega
          have d6 : decide ((k : Int) ≤ (k1 : Int)) = false := decide_eq_false (by omega)
          have n6 : decide (k ≤ k1) = false := decide_eq_false (by omega)
          have hz1 : decide ((0 : Int) < (i : Int)) = true := decide_eq_true (by omega)
          have hz2 : decide (0 < i) = true := decide_eq_true (by omega)
          clear hi0 hi1 hk1 hkk
          go_wp2_with (first
          | (show wpList _ _ _ (⟨_, Op.load 37 _, _, _, _, _⟩ :: _) _ _; refine wpList_load_mid rfl 37 _ rfl b (off + i * 6) rfl _ _ hrg2 Tryz.underlying37 rfl hsk ?_; clear hrg2)
          | (show wpList _ _ _ (⟨_, Op.store 37 _ _, _, _, _, _⟩ :: _) _ _; refine wpList_store_mid rfl 37 _ _ rfl wr.heap.size 0 #[.int .i64 k, .int .i64 x.objects, .int .i64 x.granules, .int .i64 x.slots, .int .i64 x.refs, .int .i64 x.nils] rfl rfl hth hsk hok ?_; clear hth; generalize (wr.alloc (.cells #[.int .i64 0, .int .i64 0, .int .i64 0, .int .i64 0, .int .i64 0, .int .i64 0] 37)).setCells wr.heap.size 0 [.int .i64 k, .int .i64 x.objects, .int .i64 x.granules, .int .i64 x.slots, .int .i64 x.refs, .int .i64 x.nils] = w5 at *; generalize wr.heap.size = nb at *)
          | fail)
          have c0 := HT3.out.cell1 0
          have c1 := HT3.out.cell1 1
          have c2 := HT3.out.cell1 2
          have c3 := HT3.out.cell1 3
          have c4 := HT3.out.cell1 4
          have c5 := HT3.out.cell1 5
          have p1 := HT3.out.cell2 0
          have hwA : IntKind.i64.wrap ((x.slots : Int) + (x.objects : Int)) = (x.slots : Int) + (x.objects : Int) := i64_in _ (by omega)
          have hwB : IntKind.i64.wrap (2 * (x.granules : Int)) = 2 * (x.granules : Int) := i64_in _ (by omega)
          have d1 : decide ((x.objects : Int) < 1) = false := decide_eq_false (by omega)
          have d2 : decide ((x.refs : Int) < (x.nils : Int)) = false := decide_eq_false (by omega)
          have d3 : decide ((x.slots : Int) < (x.refs : Int)) = false := decide_eq_false (by omega)
          have d4 : decide (2 * (x.granules : Int) < (x.slots : Int) + (x.objects : Int)) = false := decide_eq_false (by omega)
          have d5 : decide ((x.slots : Int) + (x.objects : Int) < (x.granules : Int)) = false := decide_eq_false (by omega)
          have n1 : decide (x.objects < 1) = false := decide_eq_false (by omega)
          have n2 : decide (x.refs < x.nils) = false := decide_eq_false (by omega)
          have n3 : decide (x.slots < x.refs) = false := decide_eq_false (by omega)
          clear ha1 ha2 ha3 ha4 ha5 ha6
          have hq : w5.cell? ⟨b, off + i1 * 6, none⟩ = some (.int .i64 k1) := (HSr.out _ HT3.out.below).kp Hk1.out 0 _ rfl
          have hS5 : (fun W' => W'.rangeAt nb 0 [.int .i64 k, .int .i64 x.objects, .int .i64 x.granules, .int .i64 x.slots, .int .i64 x.refs, .int .i64 x.nils] ∧ W'.cell? ⟨n7, 0, none⟩ = some (.slice (some ⟨b, off, none⟩) ss.length cap) ∧ W'.cell? ⟨b, off + i1 * 6, none⟩ = some (.int .i64 k1)) w5.drew := ⟨HT3.out.drew.range1, p1, hq⟩
          have HT5 := uh HT3.out.drew
          clear HT3 c0 c1 c2 c3 c4 c5 p1 hq
          refine wp_region_noPanic ?_
          refine wp_region_listed (S := fun W' => W'.rangeAt nb 0 [.int .i64 k, .int .i64 x.objects, .int .i64 x.granules, .int .i64 x.slots, .int .i64 x.refs, .int .i64 x.nils] ∧ W'.cell? ⟨n7, 0, none⟩ = some (.slice (some ⟨b, off, none⟩) ss.length cap) ∧ W'.cell? ⟨b, off + i1 * 6, none⟩ = some (.int .i64 k1)) 54 [false, false, false, false, false, false, false, false, false, false, false, false, false, false, false, false, false, false, false, false, false, false, false, false, false, false, false, false, false, false, false, false, false, false, false, false, false, false, false, false, false, false, false, false, false, false, false, false, false, false, false, false, false, false] rfl rfl (by kernel_rfl) ?_
          generalize w5.drew = w6 at *
          refine tkA 0 61 hS5 ?_
          refine tkA 1 62 hS5 ?_
          refine tkA 2 63 hS5 ?_
          refine tkA 3 64 hS5 ?_
          refine tkB 4 65 hS5 (fun w hSw => hSw.1 0 _ rfl) ?_
          refine tkA 5 66 hS5 ?_
          refine tkB 6 67 hS5 (fun w hSw => hSw.2.1) ?_
          refine tkA 7 68 hS5 ?_
          refine tkA 8 69 hS5 ?_
          refine tkA 9 70 hS5 ?_
          refine tkA 10 71 hS5 ?_
          refine tkB 11 72 hS5 (fun w hSw => hSw.2.2) ?_
          refine tkA 12 73 hS5 ?_
          refine tkA 13 74 hS5 ?_
          refine tkA 14 75 hS5 ?_
          refine tkA 15 76 hS5 ?_
          refine tkB 16 77 hS5 (fun w hSw => hSw.1 1 _ rfl) ?_
          refine tkA 17 78 hS5 ?_
          refine tkA 18 79 hS5 ?_
          refine tkA 19 80 hS5 ?_
          refine tkA 20 81 hS5 ?_
          refine tkB 21 82 hS5 (fun w hSw => hSw.1 5 _ rfl) ?_
          refine tkA 22 83 hS5 ?_
          refine tkB 23 84 hS5 (fun w hSw => hSw.1 4 _ rfl) ?_
          refine tkA 24 85 hS5 ?_
          refine tkA 25 86 hS5 ?_
          refine tkA 26 87 hS5 ?_
          refine tkA 27 88 hS5 ?_
          refine tkB 28 89 hS5 (fun w hSw => hSw.1 4 _ rfl) ?_
          refine tkA 29 90 hS5 ?_
          refine tkB 30 91 hS5 (fun w hSw => hSw.1 3 _ rfl) ?_
          refine tkA 31 92 hS5 ?_
          refine tkA 32 93 hS5 ?_
          refine tkA 33 94 hS5 ?_
          refine tkA 34 95 hS5 ?_
          refine tkB 35 96 hS5 (fun w hSw => hSw.1 3 _ rfl) ?_
          refine tkA 36 97 hS5 ?_
          refine tkB 37 98 hS5 (fun w hSw => hSw.1 1 _ rfl) ?_
          refine tkA 38 99 hS5 ?_
          refine tkA 39 100 hS5 ?_
          refine tkB 40 101 hS5 (fun w hSw => hSw.1 2 _ rfl) ?_
          refine tkA 41 102 hS5 ?_
          refine tkA 42 103 hS5 ?_
          refine tkA 43 104 hS5 ?_
          refine tkA 44 105 hS5 ?_
          refine tkA 45 106 hS5 ?_
          refine tkB 46 107 hS5 (fun w hSw => hSw.1 2 _ rfl) ?_
          refine tkA 47 108 hS5 ?_
          refine tkB 48 109 hS5 (fun w hSw => hSw.1 3 _ rfl) ?_
          refine tkA 49 110 hS5 ?_
          refine tkB 50 111 hS5 (fun w hSw => hSw.1 1 _ rfl) ?_
          refine tkA 51 112 hS5 ?_
          refine tkA 52 113 hS5 ?_
          refine tkA 53 114 hS5 ?_
          refine wpAnyH_done (by kernel_rfl) ?_ _
          refine NoPanic.normal ?_
          clear hS5
          have c1 := HT5.out.cell1 1
          have c2 := HT5.out.cell1 2
          have hwC : IntKind.i64.wrap ((sg : Int) + (x.granules : Int)) = (sg : Int) + (x.granules : Int) := i64_in _ (by omega)
          have hwD : IntKind.i64.wrap ((so : Int) + (x.objects : Int)) = (so : Int) + (x.objects : Int) := i64_in _ (by omega)
          clear hwA hwB d1 d2 d3 d4 d5 n1 n2 n3 d6 n6
          go_wp2_with fail
          go_roundw
          case rel =>
           refine ⟨i + 1, by omega, by go_num, ?_, ?_, HT5.out.tail⟩
           · rw [Hsn1.out]
             simp
           · rw [Hsn2.out]
             simp
          case measure => simp [intOf]; omega
          -- R14b end
      · obtain rfl : i = ss.length := by omega
        have hnl : ¬ ((ss.length : Nat) : Int) < (ss.length : Int) := by omega
        rw [List.take_length, granules_sum Hnd.out Hmm.out, objects_sum (L := L) (W := W) Hnd.out Hmm.out]
        have HGa := uh (sgaps wr sb a aw tb tao tcap L (HA3.out.below V.below) hf HGood.out.u64 Hty.out hL cs HGood.out.chain)
        have Hgc := uh (gap_classes HGood.out)
        have HV := uh V
        clear V Hka Hgs Hobs HSr
        go_wp2_with fail
        refine HGa.out.mono ?_
        rintro e w6 ⟨ag, pg, lg, rfl, hrg, T6⟩
        have HT6 := uh (HV.out.grow T6)
        have Hrg := uh hrg
        generalize clsOf (sizesOf (gaps cs)) = gc at *
        have hgc := Hgc.out.1
        clear hrg T6 HGa HV p0
        go_wp2_with fail
        go_loopw [16, 18] (fun v16 v18 wr => ∃ (j : Nat), j ≤ gc.length ∧ v18 = .int .i64 j ∧ v16 = .int .i64 (wsum (gc.take j)) ∧ Turn [] w3 (lg ++ [(n7, .cells #[.slice ao ss.length cap, .int .i64 gl, .int .i64 fr, .int .i64 bg, .int .i64 br, .int .i64 ed, .int .i64 lo] 32)]) wr) (fun _ v18 _ => gc.length - (intOf v18).toNat)
        case atStart => exact ⟨0, Nat.zero_le _, by go_num, rfl, HT6.out⟩
        case round =>
         clear HT6
         obtain ⟨j, hj, rfl, rfl, V⟩ := hrel
         by_cases hlt2 : j < gc.length
         · have hlt' : (j : Int) < (gc.length : Int) := by omega
           have h30 : (j : Int) < 30 := by omega
           have h30n : j < 30 := by omega
           obtain ⟨x, hx⟩ : ∃ x, gc[j]? = some x := ⟨gc[j], List.getElem?_eq_getElem hlt2⟩
           have hS8 := Hrg.out.src V.has
           obtain ⟨b, off, rfl, hc8⟩ := hS8.form (by rw [nats_length]; omega)
           have q8 := hc8 j _ (nats_at hx)
           have Hw := uh (wsum_next hx)
           have hws := wsum_take gc (j + 1)
           rw [Hw.out] at hws
           have hwt := Nat.le_trans hws (Nat.le_trans Hgc.out.2.1 Hgc.out.2.2.2.2)
           have HV := uh V
           clear V hS8 hc8 hx hws
           go_wp2_with fail
           go_roundw
           case rel =>
            refine ⟨j + 1, by omega, by go_num, ?_, HV.out⟩
            rw [Hw.out]
            have e1 : (x : Int) * 2 ^ j = ((x * 2 ^ j : Nat) : Int) := by simp
            rw [e1]
            clear e1 Hw
            generalize x * 2 ^ j = y at *
            generalize wsum (gc.take j) = s0 at *
            have e2 : wrap64 (y : Int) = (y : Int) := wrap64_in _ (by omega)
            have e3 : wrap64 ((s0 : Int) + (y : Int)) = (s0 : Int) + (y : Int) := wrap64_in _ (by omega)
            rw [e2, e3]
            simp
           case measure => simp [intOf]; omega
         · obtain rfl : j = gc.length := by omega
           have hnl2 : ¬ ((gc.length : Nat) : Int) < (gc.length : Int) := by omega
           rw [List.take_length]
           obtain ⟨-, hl1, hl2, hl3, hl4⟩ := Hgc.out
           have hfr : freeOf cs = fr := Hfr.out
           rw [hfr] at hl1 hl2 hl4
           generalize wsum gc = lw at *
           have V' := V.perm (l2 := (n7, .cells #[.slice ao ss.length cap, .int .i64 gl, .int .i64 fr, .int .i64 bg, .int .i64 br, .int .i64 ed, .int .i64 lo] 32) :: lg) (perm_of fun c => by simp; omega)
           have p1 := V'.cell1 1
           have p2 := V'.cell1 2
           have p3 := V'.cell1 3
           have p4 := V'.cell1 4
           have hbl := broken_laws (l := gaps cs) (fun c hc => (HGood.out.chain.mem c (List.mem_filter.1 hc).1).2.2.pos)
           have hbr2 : brokenOf (sumBy cSize (gaps cs)) (bigOf (gaps cs)) = br := by rw [Hbg.out]; show brokenOf (freeOf cs) bg = br; rw [hfr]; exact Hbr.out
           have hbg2 := hbl.2.2
           rw [hbr2, Hgl.out] at hbl
           rw [Hbg.out] at hbg2
           have hbg3 : bg ≤ fr := by rw [← hfr]; exact hbg2
           obtain ⟨hb1, hb2, -⟩ := hbl
           have HV := uh V'
           clear V V' hbg2 hbr2 hfr
           have hwL : IntKind.i64.wrap (2 * (lw : Int)) = 2 * (lw : Int) := i64_in _ (by omega)
           have m1 : decide ((fr : Int) < (lw : Int)) = false := decide_eq_false (by omega)
           have m2 : decide (fr < lw) = false := decide_eq_false (by omega)
           have m3 : decide ((br : Int) < 0) = false := decide_eq_false (by omega)
           have m4 : decide ((1000 : Int) ≤ (br : Int)) = false := decide_eq_false (by omega)
           have m5 : decide (1000 ≤ br) = false := decide_eq_false (by omega)
           have m6 : decide ((fr : Int) < (bg : Int)) = false := decide_eq_false (by omega)
           have m7 : decide (fr < bg) = false := decide_eq_false (by omega)
           -- END24
           have hgs : sumN gc = gl := by have h := hl3; rw [Hgl.out] at h; exact h
           have Hgs2 := uh hgs
           have hcl4 := Hgc.out.1
           have hgl4 : gl ≤ 65536 := by rw [← Hgl.out]; have h1 : (gaps cs).length ≤ cs.length := List.length_filter_le ..; have h2 := HGood.out.chain.len; omega
           have hsum := HGood.out.chain.sum
           rw [sum_cells cs cSize, Nat.zero_add] at hsum
           have hfr4 : sumBy cSize (gaps cs) = fr := Hfr.out
           rw [hfr4] at hsum
           have Hgc3 := uh (⟨by omega, by rw [hgs]; omega⟩ : gc.length ≤ 65536 ∧ sumN gc < 4611686018427387904)
           have HGr := uh (fun u (T : Turn [] w3 ((n7, .cells #[.slice ao ss.length cap, .int .i64 gl, .int .i64 fr, .int .i64 bg, .int .i64 br, .int .i64 ed, .int .i64 lo] 32) :: lg) u) => sgran u (HA3.out.below T.below).c0 (HA3.out.below T.below).ar hf)
           have HCl := uh (fun u (T : Turn [] w3 ((n7, .cells #[.slice ao ss.length cap, .int .i64 gl, .int .i64 fr, .int .i64 bg, .int .i64 br, .int .i64 ed, .int .i64 lo] 32) :: lg) u) => sclasses u sb a aw tb tao tcap L (HA3.out.below T.below) hf HGood.out.u64 Hty.out hL cs HGood.out.chain)
           have HLs := uh (fun u (l : List Nat) (ao : Option Addr) (cap : Nat) (hS : Src u ao l.length cap 1 (nats l)) h1 h2 => lsum u l ao cap hS h1 h2)
           have HSg := uh (fun u (T : Turn [] w3 ((n7, .cells #[.slice ao ss.length cap, .int .i64 gl, .int .i64 fr, .int .i64 bg, .int .i64 br, .int .i64 ed, .int .i64 lo] 32) :: lg) u) => Hrg.out.src (R := [(n7, .cells #[.slice ao ss.length cap, .int .i64 gl, .int .i64 fr, .int .i64 bg, .int .i64 br, .int .i64 ed, .int .i64 lo] 32)]) (T.has.perm (perm_of fun c => by simp; omega)))
           have hocl : (clsOf (sizesOf (objs cs))).length ≤ 65536 := by
            have := (obj_classes HGood.out).1
            omega
           have hocs : sumN (clsOf (sizesOf (objs cs))) = (objs cs).length := (obj_classes HGood.out).2
           generalize clsOf (sizesOf (objs cs)) = oc at *
           generalize sumBy cSize (objs cs) = og at *
           generalize (objs cs).length = on at *
           have Hos := uh hocs
           have Hoc := uh (⟨hocl, by rw [hocs]; omega⟩ : oc.length ≤ 65536 ∧ sumN oc < 4611686018427387904)
           have Hwn := uh (show IntKind.i64.wrap ((og : Int) + (fr : Int)) = ((W.length / 2 : Nat) : Int) by rw [i64_in _ (by omega)]; omega)
           clear hgs hgl4 hcl4 hsum hfr4 hocl hocs
           by_cases hf0 : 0 < fr
           · have m8 : decide (2 * (lw : Int) ≤ (fr : Int)) = false := decide_eq_false (by have := hl2 hf0; omega)
             have m8n : decide (2 * lw ≤ fr) = false := decide_eq_false (by have := hl2 hf0; omega)
             have m9 : decide ((0 : Int) < (fr : Int)) = true := decide_eq_true (by omega)
             have m10 : decide (0 < fr) = true := decide_eq_true hf0
             by_cases hg2 : gl < 2
             · have hb0 := hb2 hg2
               have m11 : decide ((gl : Int) < 2) = true := decide_eq_true (by omega)
               have m12 : decide (gl < 2) = true := decide_eq_true hg2
               have m13 : ((br : Int) != 0) = false := by rw [hb0]; rfl
               have m14 : (br != 0) = false := by rw [hb0]; rfl
               clear hb0 hb2 hb1 hl1 hl2 hf0 hg2
               go_wp2_with fail
               clear m1 m2 m3 m4 m5 m6 m7 p1 p2 p3 p4 hwL m8 m8n m9 m10 m11 m12 m13 m14
               have T0 := HV.out.drew
               refine wp_region_noPanic ?_
               refine wp_region_listed (S := fun W' => Turn [] w3 ((n7, .cells #[.slice ao ss.length cap, .int .i64 gl, .int .i64 fr, .int .i64 bg, .int .i64 br, .int .i64 ed, .int .i64 lo] 32) :: lg) W') 25 [false, false, false, false, false, false, false, false, false, false, false, false, false, false, false, false, false, false, false, false, false, false, false, false, false] rfl rfl (by kernel_rfl) ?_
               generalize wr.drew = u0 at *
               refine tkA 0 187 T0 ?_
               refine tkA 1 188 T0 ?_
               refine tkB 2 189 T0 (fun w hSw => hSw.cell1 2) ?_
               refine tkB 3 190 T0 (fun w hSw => Hwn.out) ?_
               refine tkA 4 191 T0 ?_
               refine rdyA 5 (fun K hK => ?_)
               go_simp
               refine (HGr.out u0 T0).mono ?_
               rintro e u1 ⟨rfl, hu1⟩
               rw [hu1]
               clear hu1 u1
               refine hK.out _ _ T0 fun _ => ?_
               clear hK K
               simp only [st0, st1, st2]
               refine tkA 6 193 T0 ?_
               refine tkA 7 194 T0 ?_
               refine tkA 8 195 T0 ?_
               refine tkA 11 198 T0 ?_
               refine rdyA 9 (fun K hK => ?_)
               go_simp
               refine (HCl.out u0 T0).mono ?_
               rintro e u2 ⟨a9, p9, l9, rfl, hr9, T9⟩
               have T10 := T0.grow T9
               have hS9 := hr9.src T10.has
               have T2 := T10.drop
               clear T9 T10 T0 hr9
               refine hK.out _ _ T2 fun _ => ?_
               clear hK K
               simp only [st0, st1, st2]
               refine rdyA 10 (fun K hK => ?_)
               go_simp
               refine (HLs.out u2 oc a9 p9 hS9 Hoc.out.1 Hoc.out.2).mono ?_
               rintro e u3 ⟨rfl, hu3⟩
               rw [hu3]
               clear hu3 u3 hS9
               refine hK.out _ _ T2 fun _ => ?_
               clear hK K
               simp only [st0, st1, st2]
               refine tkB 12 199 T2 (fun w hSw => Hos.out) ?_
               refine tkA 13 200 T2 ?_
               refine tkA 14 201 T2 ?_
               refine tkA 15 202 T2 ?_
               refine tkA 17 204 T2 ?_
               refine tkB 18 205 T2 (fun w hSw => hSw.cell1 1) ?_
               refine rdyA 16 (fun K hK => ?_)
               go_simp
               refine (HLs.out u2 gc ag pg (HSg.out u2 T2) Hgc3.out.1 Hgc3.out.2).mono ?_
               rintro e u4 ⟨rfl, hu4⟩
               rw [hu4]
               clear hu4 u4
               refine hK.out _ _ T2 fun _ => ?_
               clear hK K
               simp only [st0, st1, st2]
               refine tkB 19 206 T2 (fun w hSw => Hgs2.out) ?_
               refine tkA 20 207 T2 ?_
               refine tkA 21 208 T2 ?_
               refine rdyA 22 (fun K hK => ?_)
               go_simp
               refine (HAl.out u2 (HB3.out.trans (T2.below.mono HB3.out.size))).mono ?_
               rintro e u5 ⟨rfl, hB5⟩
               have T5 := T2.call hB5
               clear T2 hB5
               refine hK.out _ _ T5 fun _ => ?_
               clear hK K
               simp only [st0, st1, st2]
               refine tkA 23 210 T5 ?_
               refine tkA 24 6 T5 ?_
               refine wpAnyH_done (by kernel_rfl) ?_ _
               refine NoPanic.normal ?_
               have HT6 := uh T5
               clear T5
               go_wp2_with fail
               go_ret
               exact ⟨rfl, HB3.out.trans (HT6.out.below.mono HB3.out.size)⟩
             · have m11 : decide ((gl : Int) < 2) = false := decide_eq_false (by omega)
               have m12 : decide (gl < 2) = false := decide_eq_false hg2
               clear hb2 hb1 hl1 hl2 hf0 hg2
               go_wp2_with fail
               clear m1 m2 m3 m4 m5 m6 m7 p1 p2 p3 p4 hwL m8 m8n m9 m10 m11 m12
               have T0 := HV.out.drew
               refine wp_region_noPanic ?_
               refine wp_region_listed (S := fun W' => Turn [] w3 ((n7, .cells #[.slice ao ss.length cap, .int .i64 gl, .int .i64 fr, .int .i64 bg, .int .i64 br, .int .i64 ed, .int .i64 lo] 32) :: lg) W') 25 [false, false, false, false, false, false, false, false, false, false, false, false, false, false, false, false, false, false, false, false, false, false, false, false, false] rfl rfl (by kernel_rfl) ?_
               generalize wr.drew = u0 at *
               refine tkA 0 187 T0 ?_
               refine tkA 1 188 T0 ?_
               refine tkB 2 189 T0 (fun w hSw => hSw.cell1 2) ?_
               refine tkB 3 190 T0 (fun w hSw => Hwn.out) ?_
               refine tkA 4 191 T0 ?_
               refine rdyA 5 (fun K hK => ?_)
               go_simp
               refine (HGr.out u0 T0).mono ?_
               rintro e u1 ⟨rfl, hu1⟩
               rw [hu1]
               clear hu1 u1
               refine hK.out _ _ T0 fun _ => ?_
               clear hK K
               simp only [st0, st1, st2]
               refine tkA 6 193 T0 ?_
               refine tkA 7 194 T0 ?_
               refine tkA 8 195 T0 ?_
               refine tkA 11 198 T0 ?_
               refine rdyA 9 (fun K hK => ?_)
               go_simp
               refine (HCl.out u0 T0).mono ?_
               rintro e u2 ⟨a9, p9, l9, rfl, hr9, T9⟩
               have T10 := T0.grow T9
               have hS9 := hr9.src T10.has
               have T2 := T10.drop
               clear T9 T10 T0 hr9
               refine hK.out _ _ T2 fun _ => ?_
               clear hK K
               simp only [st0, st1, st2]
               refine rdyA 10 (fun K hK => ?_)
               go_simp
               refine (HLs.out u2 oc a9 p9 hS9 Hoc.out.1 Hoc.out.2).mono ?_
               rintro e u3 ⟨rfl, hu3⟩
               rw [hu3]
               clear hu3 u3 hS9
               refine hK.out _ _ T2 fun _ => ?_
               clear hK K
               simp only [st0, st1, st2]
               refine tkB 12 199 T2 (fun w hSw => Hos.out) ?_
               refine tkA 13 200 T2 ?_
               refine tkA 14 201 T2 ?_
               refine tkA 15 202 T2 ?_
               refine tkA 17 204 T2 ?_
               refine tkB 18 205 T2 (fun w hSw => hSw.cell1 1) ?_
               refine rdyA 16 (fun K hK => ?_)
               go_simp
               refine (HLs.out u2 gc ag pg (HSg.out u2 T2) Hgc3.out.1 Hgc3.out.2).mono ?_
               rintro e u4 ⟨rfl, hu4⟩
               rw [hu4]
               clear hu4 u4
               refine hK.out _ _ T2 fun _ => ?_
               clear hK K
               simp only [st0, st1, st2]
               refine tkB 19 206 T2 (fun w hSw => Hgs2.out) ?_
               refine tkA 20 207 T2 ?_
               refine tkA 21 208 T2 ?_
               refine rdyA 22 (fun K hK => ?_)
               go_simp
               refine (HAl.out u2 (HB3.out.trans (T2.below.mono HB3.out.size))).mono ?_
               rintro e u5 ⟨rfl, hB5⟩
               have T5 := T2.call hB5
               clear T2 hB5
               refine hK.out _ _ T5 fun _ => ?_
               clear hK K
               simp only [st0, st1, st2]
               refine tkA 23 210 T5 ?_
               refine tkA 24 6 T5 ?_
               refine wpAnyH_done (by kernel_rfl) ?_ _
               refine NoPanic.normal ?_
               have HT6 := uh T5
               clear T5
               go_wp2_with fail
               go_ret
               exact ⟨rfl, HB3.out.trans (HT6.out.below.mono HB3.out.size)⟩
           · have m9 : decide ((0 : Int) < (fr : Int)) = false := decide_eq_false (by omega)
             have m10 : decide (0 < fr) = false := decide_eq_false hf0
             by_cases hg2 : gl < 2
             · have hb0 := hb2 hg2
               have m11 : decide ((gl : Int) < 2) = true := decide_eq_true (by omega)
               have m12 : decide (gl < 2) = true := decide_eq_true hg2
               have m13 : ((br : Int) != 0) = false := by rw [hb0]; rfl
               have m14 : (br != 0) = false := by rw [hb0]; rfl
               clear hb0 hb2 hb1 hl1 hl2 hf0 hg2
               go_wp2_with fail
               clear m1 m2 m3 m4 m5 m6 m7 p1 p2 p3 p4 hwL m9 m10 m11 m12 m13 m14
               have T0 := HV.out.drew
               refine wp_region_noPanic ?_
               refine wp_region_listed (S := fun W' => Turn [] w3 ((n7, .cells #[.slice ao ss.length cap, .int .i64 gl, .int .i64 fr, .int .i64 bg, .int .i64 br, .int .i64 ed, .int .i64 lo] 32) :: lg) W') 25 [false, false, false, false, false, false, false, false, false, false, false, false, false, false, false, false, false, false, false, false, false, false, false, false, false] rfl rfl (by kernel_rfl) ?_
               generalize wr.drew = u0 at *
               refine tkA 0 187 T0 ?_
               refine tkA 1 188 T0 ?_
               refine tkB 2 189 T0 (fun w hSw => hSw.cell1 2) ?_
               refine tkB 3 190 T0 (fun w hSw => Hwn.out) ?_
               refine tkA 4 191 T0 ?_
               refine rdyA 5 (fun K hK => ?_)
               go_simp
               refine (HGr.out u0 T0).mono ?_
               rintro e u1 ⟨rfl, hu1⟩
               rw [hu1]
               clear hu1 u1
               refine hK.out _ _ T0 fun _ => ?_
               clear hK K
               simp only [st0, st1, st2]
               refine tkA 6 193 T0 ?_
               refine tkA 7 194 T0 ?_
               refine tkA 8 195 T0 ?_
               refine tkA 11 198 T0 ?_
               refine rdyA 9 (fun K hK => ?_)
               go_simp
               refine (HCl.out u0 T0).mono ?_
               rintro e u2 ⟨a9, p9, l9, rfl, hr9, T9⟩
               have T10 := T0.grow T9
               have hS9 := hr9.src T10.has
               have T2 := T10.drop
               clear T9 T10 T0 hr9
               refine hK.out _ _ T2 fun _ => ?_
               clear hK K
               simp only [st0, st1, st2]
               refine rdyA 10 (fun K hK => ?_)
               go_simp
               refine (HLs.out u2 oc a9 p9 hS9 Hoc.out.1 Hoc.out.2).mono ?_
               rintro e u3 ⟨rfl, hu3⟩
               rw [hu3]
               clear hu3 u3 hS9
               refine hK.out _ _ T2 fun _ => ?_
               clear hK K
               simp only [st0, st1, st2]
               refine tkB 12 199 T2 (fun w hSw => Hos.out) ?_
               refine tkA 13 200 T2 ?_
               refine tkA 14 201 T2 ?_
               refine tkA 15 202 T2 ?_
               refine tkA 17 204 T2 ?_
               refine tkB 18 205 T2 (fun w hSw => hSw.cell1 1) ?_
               refine rdyA 16 (fun K hK => ?_)
               go_simp
               refine (HLs.out u2 gc ag pg (HSg.out u2 T2) Hgc3.out.1 Hgc3.out.2).mono ?_
               rintro e u4 ⟨rfl, hu4⟩
               rw [hu4]
               clear hu4 u4
               refine hK.out _ _ T2 fun _ => ?_
               clear hK K
               simp only [st0, st1, st2]
               refine tkB 19 206 T2 (fun w hSw => Hgs2.out) ?_
               refine tkA 20 207 T2 ?_
               refine tkA 21 208 T2 ?_
               refine rdyA 22 (fun K hK => ?_)
               go_simp
               refine (HAl.out u2 (HB3.out.trans (T2.below.mono HB3.out.size))).mono ?_
               rintro e u5 ⟨rfl, hB5⟩
               have T5 := T2.call hB5
               clear T2 hB5
               refine hK.out _ _ T5 fun _ => ?_
               clear hK K
               simp only [st0, st1, st2]
               refine tkA 23 210 T5 ?_
               refine tkA 24 6 T5 ?_
               refine wpAnyH_done (by kernel_rfl) ?_ _
               refine NoPanic.normal ?_
               have HT6 := uh T5
               clear T5
               go_wp2_with fail
               go_ret
               exact ⟨rfl, HB3.out.trans (HT6.out.below.mono HB3.out.size)⟩
             · have m11 : decide ((gl : Int) < 2) = false := decide_eq_false (by omega)
               have m12 : decide (gl < 2) = false := decide_eq_false hg2
               clear hb2 hb1 hl1 hl2 hf0 hg2
               go_wp2_with fail
               clear m1 m2 m3 m4 m5 m6 m7 p1 p2 p3 p4 hwL m9 m10 m11 m12
               have T0 := HV.out.drew
               refine wp_region_noPanic ?_
               refine wp_region_listed (S := fun W' => Turn [] w3 ((n7, .cells #[.slice ao ss.length cap, .int .i64 gl, .int .i64 fr, .int .i64 bg, .int .i64 br, .int .i64 ed, .int .i64 lo] 32) :: lg) W') 25 [false, false, false, false, false, false, false, false, false, false, false, false, false, false, false, false, false, false, false, false, false, false, false, false, false] rfl rfl (by kernel_rfl) ?_
               generalize wr.drew = u0 at *
               refine tkA 0 187 T0 ?_
               refine tkA 1 188 T0 ?_
               refine tkB 2 189 T0 (fun w hSw => hSw.cell1 2) ?_
               refine tkB 3 190 T0 (fun w hSw => Hwn.out) ?_
               refine tkA 4 191 T0 ?_
               refine rdyA 5 (fun K hK => ?_)
               go_simp
               refine (HGr.out u0 T0).mono ?_
               rintro e u1 ⟨rfl, hu1⟩
               rw [hu1]
               clear hu1 u1
               refine hK.out _ _ T0 fun _ => ?_
               clear hK K
               simp only [st0, st1, st2]
               refine tkA 6 193 T0 ?_
               refine tkA 7 194 T0 ?_
               refine tkA 8 195 T0 ?_
               refine tkA 11 198 T0 ?_
               refine rdyA 9 (fun K hK => ?_)
               go_simp
               refine (HCl.out u0 T0).mono ?_
               rintro e u2 ⟨a9, p9, l9, rfl, hr9, T9⟩
               have T10 := T0.grow T9
               have hS9 := hr9.src T10.has
               have T2 := T10.drop
               clear T9 T10 T0 hr9
               refine hK.out _ _ T2 fun _ => ?_
               clear hK K
               simp only [st0, st1, st2]
               refine rdyA 10 (fun K hK => ?_)
               go_simp
               refine (HLs.out u2 oc a9 p9 hS9 Hoc.out.1 Hoc.out.2).mono ?_
               rintro e u3 ⟨rfl, hu3⟩
               rw [hu3]
               clear hu3 u3 hS9
               refine hK.out _ _ T2 fun _ => ?_
               clear hK K
               simp only [st0, st1, st2]
               refine tkB 12 199 T2 (fun w hSw => Hos.out) ?_
               refine tkA 13 200 T2 ?_
               refine tkA 14 201 T2 ?_
               refine tkA 15 202 T2 ?_
               refine tkA 17 204 T2 ?_
               refine tkB 18 205 T2 (fun w hSw => hSw.cell1 1) ?_
               refine rdyA 16 (fun K hK => ?_)
               go_simp
               refine (HLs.out u2 gc ag pg (HSg.out u2 T2) Hgc3.out.1 Hgc3.out.2).mono ?_
               rintro e u4 ⟨rfl, hu4⟩
               rw [hu4]
               clear hu4 u4
               refine hK.out _ _ T2 fun _ => ?_
               clear hK K
               simp only [st0, st1, st2]
               refine tkB 19 206 T2 (fun w hSw => Hgs2.out) ?_
               refine tkA 20 207 T2 ?_
               refine tkA 21 208 T2 ?_
               refine rdyA 22 (fun K hK => ?_)
               go_simp
               refine (HAl.out u2 (HB3.out.trans (T2.below.mono HB3.out.size))).mono ?_
               rintro e u5 ⟨rfl, hB5⟩
               have T5 := T2.call hB5
               clear T2 hB5
               refine hK.out _ _ T5 fun _ => ?_
               clear hK K
               simp only [st0, st1, st2]
               refine tkA 23 210 T5 ?_
               refine tkA 24 6 T5 ?_
               refine wpAnyH_done (by kernel_rfl) ?_ _
               refine NoPanic.normal ?_
               have HT6 := uh T5
               clear T5
               go_wp2_with fail
               go_ret
               exact ⟨rfl, HB3.out.trans (HT6.out.below.mono HB3.out.size)⟩
           -- END24 end
 · clear HPl HHv
   go_wp2_with fail
   refine (HAl.out w (Below.refl _ _)).mono ?_
   rintro e w3 ⟨rfl, hB3⟩
   have HB := uh hB3
   clear hB3
   go_wp2_with fail
   go_ret
   exact ⟨rfl, HB.out⟩
end
section
open Go Go.RowKit
theorem lens_mem {N : Nat} : ∀ {ss : List Stp}, lens ss ≤ N → ∀ s ∈ ss, s.ats.length ≤ N
 | a :: l, h, s, hs => by
  have h1 : lens (a :: l) = a.ats.length + lens l := by simp [lens]
  rcases List.mem_cons.1 hs with rfl | hs
  · omega
  · exact lens_mem (by omega) s hs
theorem played_all (w : World) (hF : Fields w) (L : List Ty) (lao : Option Addr) (lcap : Nat) (hS : Src w lao L.length lcap 3 (tys L)) (hTy : ∀ t ∈ L, TyIn t) (n : Int)
  (sao : Option Addr) (scap : Nat) (ss : List Stp) (hSt : Src w sao ss.length scap 6 (sts ss)) (hin : ∀ s ∈ ss, s.w < 18446744073709551616 ∧ Src w s.ao s.ats.length s.cap 1 (ints s.ats) ∧ s.ats.length ≤ 17592186044416) (hh : heavy n L.length ss = false) :
  Calls Tryz.prog 10 #[.int .i64 n, .slice lao L.length lcap, .slice sao ss.length scap] w fun e w' => PlayEnd w w' L lao lcap e := by
 unfold heavy at hh
 simp only [Bool.or_eq_false_iff, Bool.and_eq_false_iff, decide_eq_false_iff_not] at hh
 obtain ⟨⟨⟨h1, h2⟩, h3⟩, h4⟩ := hh
 have hL : L.length ≤ 1000 := by omega
 by_cases hok : (∀ t ∈ L, t.may) ∧ L.length ≤ 64
 · by_cases hn : mayWords n
   · obtain ⟨k, rfl⟩ : ∃ k : Nat, n = k := ⟨n.toNat, by have := hn.1; omega⟩
     refine played_ok w hF L lao lcap hS hTy hL hok k hn (by have := hn.2.1; omega) sao scap ss hSt (by omega) fun s hs => ?_
     obtain ⟨i1, i2, i3⟩ := hin s hs
     have h5 : lens ss ≤ 300 := by
      rw [List.take_of_length_le (by omega)] at h4
      omega
     exact ⟨by have := lens_mem h5 s hs; omega, i1, i2⟩
   · exact played_no w n L lao lcap sao ss.length scap (uh (made_few w L lao lcap hS hTy hL hok n hn))
 · exact played_no w n L lao lcap sao ss.length scap (uh (made_types w L lao lcap hS hTy hL hok n))
end
end Go.Proofs.YtbecgkejdacidaaGreatDoor
namespace Go.Proofs.YtbecgkejdacidaaGreatDoor.statsSum
open Go
theorem named : Tryz.pinned.checked.prog.funcNamed Rows.statsSumRow.func = some 3 := by kernel_rfl
theorem looks : false = Tryz.pinned.checked.prog.looks [] := by kernel_rfl
theorem wfText : Rows.statsSumRow.wfByText (OpenSpec.ofChange Rows.statsSumSpec) = true := by kernel_rfl
theorem mainIs : Tryz.pinned.checked.prog.mainIs = some (true, "367503d1219b5296946ea50cbce7af74187deeecb45e1afd359862ce6c042c1c".toList) := by kernel_rfl
theorem goesBy : false = Rows.statsSumRow.goesBy Tryz.pinned.checked.prog := by kernel_rfl
set_option maxRecDepth 100000 in
set_option maxHeartbeats 12800000 in
theorem closed : joinedFacts Tryz.pinned.checked.prog 3 Tryz.f3 Rows.statsSumSpec Rows.statsSumRow = true := by
 unfold joinedFacts
 simp only [Bool.and_eq_true]
 and_intros
 all_goals (as_aux_lemma => kernel_rfl)
end Go.Proofs.YtbecgkejdacidaaGreatDoor.statsSum
