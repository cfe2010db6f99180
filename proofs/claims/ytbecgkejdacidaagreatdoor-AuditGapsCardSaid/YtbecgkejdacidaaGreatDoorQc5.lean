/-
  A part of a proof: texts packed by a program of mine (Sr5, Sl1, Sl2, Sr6, Sr7, Sr8, Open, Op9, Shelf9, Shf, Bd1, Ln1, Cd9, Kit9, Ab1, Sq1, Rff, Sq2, Tr1, Tr2, Tr3, Fd1, Sz14, Vr1, Vr2).
  Conditions: those that each theorem states.
-/
import Derived.Laws.Bits64b
import Derived.ProofKit
import Derived.SizedLaws
import Derived.OpenShut
import Derived.Deep.Slices
import Derived.Deep.Fields
import Derived.ChangeSame
import Derived.Test.YtbecgkejdacidaaGreatDoorRows
import Derived.ChangeSlices
import Derived.Shelf.Strings.Builder1
import Derived.Shelf.Strings.Builder2
import Derived.Shelf.Strings.OnBuilder
import Derived.Shelf.LaysM
import Derived.Shelf.Strconv.Itoa3
import Derived.Shelf.SlIterI.Nil
import Derived.Shelf.SortM.Plain
import Derived.Shelf.SortM.SortNone
import Derived.Ground.GgzProg
import Derived.Ground.SlgmProg
import Derived.Test.YtbecgkejdacidaaGreatDoorProg
import Derived.Lib.AppendStr
import Derived.Lib.UnsafeStr
import Derived.Lib.ItoaLen
import Derived.Lib.AppendIntMem
import Derived.LaidMore
import Derived.LaidLaws
import Derived.MakeChecks
import Derived.Lib.LaidTab
import Derived.Stop.LaidErr
import Derived.Stop.Joined
import Derived.OwnWalkIn
import Derived.Test.YtbecgkejdacidaaGreatDoorQc4
set_option maxRecDepth 100000
set_option maxHeartbeats 12800000
namespace Go.Proofs.YtbecgkejdacidaaGreatDoor
section
open Go Go.RowKit Go.IntWalk
theorem i64_and65535 (n : Int) : bits .and .i64 n 65535 = n % 65536 := by
 have h127 : (BitVec.ofInt 64 65535).toNat = 2 ^ 16 - 1 := by decide
 have key : (BitVec.ofInt 64 n &&& BitVec.ofInt 64 65535).toNat = (n % ((2 ^ 64 : Nat) : Int)).toNat % 2 ^ 16 := by
  rw [BitVec.toNat_and, BitVec.toNat_ofInt, h127, Nat.and_two_pow_sub_one_eq_mod]
 show IntKind.i64.wrap ((BitVec.ofInt 64 n &&& BitVec.ofInt 64 65535).toNat : Nat) = n % 65536
 rw [key, IntKind.wrap_i64]
 omega
structure Picks (n : Int) (k q p : Nat) : Prop where
 and_ : bits .and .i64 n 65535 = (q : Int)
 low : q ≤ 65535
 rem : ((q : Int)).tmod (k : Int) = (p : Int)
 rem2 : ((q : Int)) % (k : Int) = (p : Int)
 lt : p < k
theorem picks (n : Int) {k : Nat} (hk : 0 < k) : ∃ q p, Picks n k q p := by
 refine ⟨(n % 65536).toNat, (n % 65536).toNat % k, ?_, by omega, tmod_nat _ _, by rw [Int.natCast_emod], Nat.mod_lt _ hk⟩
 rw [i64_and65535]
 omega
def ats (cs : List Ce) : List Nat := (objs cs).map (·.1)
theorem ats_next {cs : List Ce} {i : Nat} {c : Ce} (h : cs[i]? = some c) : ats (cs.take (i + 1)) = ats (cs.take i) ++ if c.2.tag = 1 then [c.1] else [] := by
 rw [take_next h]
 unfold ats
 rw [objs_append, List.map_append]
 congr 1
 unfold objs
 by_cases ht : c.2.tag = 1
 · rw [if_pos ht, List.filter_cons_of_pos (by rw [isObj_iff]; exact ht)]
   rfl
 · rw [if_neg ht, List.filter_cons_of_neg (by rw [isObj_iff]; exact ht)]
   rfl
theorem ats_le (cs : List Ce) (i : Nat) : (ats (cs.take i)).length ≤ i := by
 unfold ats objs
 rw [List.length_map]
 refine Nat.le_trans (List.length_filter_le ..) ?_
 rw [List.length_take]
 omega
theorem ats_at {cs : List Ce} {p : Nat} (h : p < (ats cs).length) : ∃ c ∈ cs, c.2.tag = 1 ∧ (ats cs)[p]? = some c.1 := by
 unfold ats at h ⊢
 rw [List.length_map] at h
 refine ⟨(objs cs)[p], (objs_mem (List.getElem_mem h)).1, (objs_mem (List.getElem_mem h)).2, ?_⟩
 rw [List.getElem?_map, List.getElem?_eq_getElem h]
 rfl
theorem PlAt.turn {w1 w w' : World} {sb tb rb lcap : Nat} {lao : Option Addr} {L : List Ty} {W B Wr : List Nat} {Y Y' X : List Blk} (h : PlAt w1 w sb tb rb lao lcap L W B Wr (Y ++ X)) (T' : Turn Y w Y' w') (hY : ∀ x ∈ Y', x.2.isCells = true) : PlAt w1 w' sb tb rb lao lcap L W B Wr (Y' ++ X) := by
 obtain ⟨ls, lr, h1, h2, h3, T⟩ := h
 refine ⟨ls, lr, h1, h2, ?_, ?_⟩
 · intro x hx
   rcases List.mem_append.1 hx with hx | hx
   · exact hY x hx
   · exact h3 x (List.mem_append_right _ hx)
 · have T2 := T.perm (l2 := Y ++ (ls ++ (lr ++ X))) po
   exact (T2.trans (T'.more T2.has)).perm po
theorem all_at {w1 : World} (w : World) {sb tb rb lcap : Nat} {lao : Option Addr} {L : List Ty} {W B Ws Bs : List Nat} {X : List Blk} {cs : List Ce} (hb : PlBase w1 tb L lao lcap) (h : Pl L W B cs) (hP : PlAt w1 w sb tb rb lao lcap L Ws Bs W X) :
  Calls Tryz.prog 90 #[.pointer (some ⟨rb, 0, none⟩)] w fun e w' => ∃ ao' cap' l, e = .returned (.slice ao' cs.length cap') ∧ Row 81 5 ao' cs.length cap' (ces cs) l ∧ PlAt w1 w' sb tb rb lao lcap L Ws Bs W (l ++ X) := by
 have hsm := h.good.small
 have hfew := h.good.few
 have hP' := hP
 obtain ⟨ls, lr, hS, hR, hX, T⟩ := hP'
 have T' : Turn [] w1 (lr ++ (ls ++ X)) w := T.perm po
 obtain ⟨ao, cap, hA⟩ := hR.at_ T'.has (hb.src.below T'.below)
 refine (all9 w hA (by omega) h.good.u64 hb.ty (by omega) cs h.good.chain).mono ?_
 rintro e w' ⟨ao', cap', l, rfl, hrow, T2⟩
 exact ⟨ao', cap', l, rfl, hrow, hP.grow T2 hrow.cells⟩
theorem sof_at (w : World) (hF : Fields w) {a aw tb : Nat} {W B : List Nat} {cs : List Ce} (hA : ArAt w a aw W) {L : List Ty} (h : Pl L W B cs) (hTy : ∀ t ∈ L, TyIn t) {tao : Option Addr} {tcap : Nat} (hT : TabAt w tb tao tcap L) (c : Ce) (hc : c ∈ cs) (ht : c.2.tag = 1) :
  Calls Tryz.prog 49 #[.pointer (some ⟨a, 0, none⟩), .pointer (some ⟨tb, 0, none⟩), .int .i64 c.1] w fun e w' => ∃ vb, e = .returned (.tuple #[.pointer (some ⟨vb, 0, none⟩), .int .i64 0]) ∧ Turn [] w [(vb, .cells (viewCells a c.1 c.2 (tyAt L c.2.typ)).toArray 238)] w' := by
 have hfew := h.good.few
 have hoq := objq_of (h.good.chain.mem c hc).2.2 ht
 have h1 := sof w hF hA h.good.u64 L hTy (by omega) tb tao tcap hT (c.1 : Int)
 rw [hoq] at h1
 exact h1
theorem of8_at (w : World) {W B : List Nat} {cs : List Ce} {L : List Ty} (h : Pl L W B cs) (hTy : ∀ t ∈ L, TyIn t) (ao : Option Addr) (cap : Nat) (hS : Src w ao W.length cap 1 (u64s W)) (ao2 : Option Addr) (cap2 : Nat) (hS2 : Src w ao2 L.length cap2 3 (tys L)) (c : Ce) (hc : c ∈ cs) (ht : c.2.tag = 1) :
  Calls Tryz.prog 194 #[.slice ao W.length cap, .slice ao2 L.length cap2, .int .i64 c.1] w fun e w' => e = .returned (.tuple #[hdVal c.2, tyVal (tyAt L c.2.typ), .int .i64 0]) ∧ Below w.heap.size w w' := by
 have hsm := h.good.small
 have hfew := h.good.few
 have hoq := objq_of (h.good.chain.mem c hc).2.2 ht
 have h1 := of8 w ao cap hS (by omega) h.good.u64 L hTy (by omega) ao2 cap2 hS2 (c.1 : Int)
 rw [hoq] at h1
 exact h1
def sumN (l : List Nat) : Nat := l.sum
theorem nats_at {l : List Nat} {i v : Nat} (h : l[i]? = some v) : (nats l)[i]? = some (.int .i64 v) := by unfold nats; rw [List.getElem?_map, h]; rfl
structure JnAt (rb sb xb a tb : Nat) (ao : Option Addr) (wn cap : Nat) (lao : Option Addr) (ln lcap : Nat) (dk g id n : Int) (wv : Nat) (sl : Value) (a7 : Option Addr) (p cg : Nat) (w : World) : Prop where
 r0 : w.cell? ⟨rb, 0, none⟩ = some (.slice ao wn cap)
 r1 : w.cell? ⟨rb, 1, none⟩ = some (.slice lao ln lcap)
 s0 : w.cell? ⟨sb, 0, none⟩ = some (.pointer (some ⟨a, 0, none⟩))
 s1 : w.cell? ⟨sb, 1, none⟩ = some (.pointer (some ⟨tb, 0, none⟩))
 x : w.rangeAt xb 0 [.int .i64 dk, .int .i64 g, .int .i64 id, .int .i64 n, .int .u64 wv, sl]
 a : ∃ b7, a7 = some ⟨b7, 0, none⟩ ∧ w.cell? ⟨b7, p, none⟩ = some (.int .i64 cg)
theorem joins_none {w0 : World} (w : World) {sb tb rb lcap : Nat} {lao : Option Addr} {L : List Ty} {W B : List Nat} {X : List Blk} {cs : List Ce} (hb : PlBase w0 tb L lao lcap) (hP : PlAt w0 w sb tb rb lao lcap L W B W X) (h : Pl L W B cs) (dk g id n : Int) (wv : Nat) (sl : Value) (_hsl : sl.oneCell' = true) (hno : (ats cs).length = 0) :
  Calls Tryz.prog 140 #[.pointer (some ⟨sb, 0, none⟩), .pointer (some ⟨rb, 0, none⟩), .agg #[.int .i64 dk, .int .i64 g, .int .i64 id, .int .i64 n, .int .u64 wv, sl]] w fun e w' => e = .returned (.bool true) ∧ PlAt w0 w' sb tb rb lao lcap L W B W X := by
 have Hall := uh (fun w' X' (V : PlAt w0 w' sb tb rb lao lcap L W B W X') => all_at w' hb h V)
 have hsm := h.good.small
 have hlen := h.good.chain.len
 have hcl : cs.length ≤ 300 := by omega
 have Hle := uh (ats_le cs)
 have Hnx := uh (fun i c (hi : cs[i]? = some c) => ats_next hi)
 have Hno := uh hno
 have HP := uh (hP.alloc (.cells #[.int .i64 dk, .int .i64 g, .int .i64 id, .int .i64 n, .int .u64 wv, sl] 118) rfl)
 clear hb hP h hno hsm hlen
 go_enter Tryz.func140, Tryz.ntmps140
 go_wp2_with fail
 refine (Hall.out _ _ HP.out).mono ?_
 rintro e w2 ⟨a11, p11, l11, rfl, hrow11, hP2⟩
 have HP2 := uh hP2
 have Hr11 := uh hrow11
 generalize w.heap.size = xb at *
 clear hP2 hrow11 Hall HP
 go_wp2_with fail
 go_loopw [7, 9] (fun v7 v9 wr => ∃ (i : Nat) (a7 : Option Addr) (p7 : Nat) (lat : List Blk), i ≤ cs.length ∧ v9 = .int .i64 i ∧ v7 = .slice a7 (ats (cs.take i)).length p7 ∧ Row 3 1 a7 (ats (cs.take i)).length p7 (nats (ats (cs.take i))) lat ∧ PlAt w0 wr sb tb rb lao lcap L W B W (lat ++ (l11 ++ ((xb, .cells #[.int .i64 dk, .int .i64 g, .int .i64 id, .int .i64 n, .int .u64 wv, sl] 118) :: X)))) (fun _ v9 _ => cs.length - (intOf v9).toNat)
 case atStart => exact ⟨0, none, 0, [], Nat.zero_le _, by go_num, rfl, Row.nil _ _, HP2.out⟩
 case round =>
  clear HP2
  obtain ⟨i, a7, p7, lat, hi, rfl, rfl, hr7, V⟩ := hrel
  by_cases hlt : i < cs.length
  · have hlt' : (i : Int) < (cs.length : Int) := by omega
    obtain ⟨d, hd⟩ : ∃ c, cs[i]? = some c := ⟨cs[i], List.getElem?_eq_getElem _⟩
    have hH : Has wr (l11 ++ (lat ++ ((xb, .cells #[.int .i64 dk, .int .i64 g, .int .i64 id, .int .i64 n, .int .u64 wv, sl] 118) :: X))) := V.has.perm po
    obtain ⟨b, off, rfl, -⟩ := (Hr11.out.src hH).form (by rw [ces_length]; omega)
    obtain ⟨d0, d1, -⟩ := (Hr11.out.src hH).ce1 hd
    have hnx := Hnx.out i d hd
    have hle := Hle.out i
    have HVV := uh V
    have Hr7 := uh hr7
    by_cases hdt : d.2.tag = 1
    · rw [if_pos hdt] at hnx
      have Hnxt := uh hnx
      have k1 : ((d.2.tag : Int) == 1) = true := by rw [beq_iff_eq]; omega
      have k2 : (d.2.tag == 1) = true := by rw [beq_iff_eq]; exact hdt
      have h63 : (ats (cs.take i)).length + 1 ≤ maxLen := by unfold maxLen; omega
      have hb2 : ((ats (cs.take i)).length + 1) * 8 ≤ 140737488355328 := by omega
      clear V hr7 hnx hd hdt hH
      go_wp2_with (first
       | (at_builtin; have T3 := uh (HVV.out.alloc (.cells #[.int .i64 d.1] 3) rfl); refine wpList_append_row rfl _ _ rfl el_int rfl Hr7.out (R := []) (by rw [List.append_nil]; exact T3.out.has.sub ((List.sublist_append_left lat _).cons _)) rfl (news := [.int .i64 d.1]) rfl (news_of (heap_alloc_new _ _)) (by simp [Value.oneCell']) h63 hb2 ?_; intro a9 p9 l9 w4 hr9 V4 hno; have V5 := uh ((T3.out.sub (List.sublist_cons_self ..)).turn (by rw [List.append_nil, List.append_nil] at V4; exact V4) hr9.cells); have Hr9 := uh hr9; clear hr9 V4 hno)
       | fail)
      go_roundw
      case rel =>
       have hl1 : (ats (cs.take (i + 1))).length = (ats (cs.take i)).length + 1 := by rw [Hnxt.out]; simp
       refine ⟨i + 1, a9, p9, l9, by omega, by go_num, by rw [hl1], ?_, V5.out⟩
       rw [hl1, Hnxt.out, nats_append]
       exact Hr9.out
      case measure => simp [intOf]; omega
    · rw [if_neg hdt, List.append_nil] at hnx
      have Hnxt := uh hnx
      have k1 : ((d.2.tag : Int) == 1) = false := by rw [beq_eq_false_iff_ne]; omega
      have k2 : (d.2.tag == 1) = false := by rw [beq_eq_false_iff_ne]; exact hdt
      clear V hr7 hnx hd hdt hH
      go_wp2_with fail
      go_roundw
      case rel => exact ⟨i + 1, a7, p7, lat, by omega, by go_num, by rw [Hnxt.out], by rw [Hnxt.out]; exact Hr7.out, HVV.out⟩
      case measure => simp [intOf]; omega
  · obtain rfl : i = cs.length := by omega
    have hn0 : (ats (cs.take cs.length)).length = 0 := by rw [List.take_length]; exact Hno.out
    rw [hn0]
    have HV := uh (V.sub (Y := X) (((List.sublist_cons_self _ X).trans (List.sublist_append_right l11 _)).trans (List.sublist_append_right lat _)))
    clear V hr7 hn0
    go_wp2_with fail
    go_ret
    exact ⟨rfl, HV.out⟩
theorem joins_some {w0 : World} (w : World) {sb tb rb lcap : Nat} {lao : Option Addr} {L : List Ty} {W B : List Nat} {X : List Blk} {cs : List Ce} (hb : PlBase w0 tb L lao lcap) (hP : PlAt w0 w sb tb rb lao lcap L W B W X) (h : Pl L W B cs) (dk g id n : Int) (wv : Nat) (sl : Value) (_hsl : sl.oneCell' = true)
  (k q p v : Nat) (c : Ce) (hk : (ats cs).length = k) (hq : Picks g k q p) (hc : c ∈ cs) (ht : c.2.tag = 1) (hat : (ats cs)[p]? = some c.1) (hv : id < 0 ∧ v = 0 ∨ 0 ≤ id ∧ ∃ qi pi d, Picks id k qi pi ∧ (ats cs)[pi]? = some d ∧ d ≤ 65536 ∧ v = 1048576 + 2 * d)
  (hs : ((tyAt L c.2.typ).refs c.2.len).length = 0 ∨ ∃ qs ps s, Picks n ((tyAt L c.2.typ).refs c.2.len).length qs ps ∧ ((tyAt L c.2.typ).refs c.2.len)[ps]? = some s ∧ s < (tyAt L c.2.typ).slots c.2.len) (Qp : Ending → World → Prop)
  (HN : Hid (∀ w', ((tyAt L c.2.typ).refs c.2.len).length = 0 → PlAt w0 w' sb tb rb lao lcap L W B W X → Qp (.returned (.bool true)) w'))
  (HY : Hid (∀ w' s, s < (tyAt L c.2.typ).slots c.2.len → PlAt w0 w' sb tb rb lao lcap L (W.set (2 * c.1 + 1 + s) v) B (W.set (2 * c.1 + 1 + s) v) X → Qp (.returned (.bool true)) w')) :
  Calls Tryz.prog 140 #[.pointer (some ⟨sb, 0, none⟩), .pointer (some ⟨rb, 0, none⟩), .agg #[.int .i64 dk, .int .i64 g, .int .i64 id, .int .i64 n, .int .u64 wv, sl]] w Qp := by
 have hsm := h.good.small
 obtain ⟨tao, tcap, hTab⟩ := hb.tab
 have hst := (h.good.chain.mem c hc).2.2
 have hroom := (h.good.chain.mem c hc).2.1
 have hte := stands_ty hst ht hb.ty
 have hss := (stands_slots hst ht).1
 have Hall := uh (fun w' X' (V : PlAt w0 w' sb tb rb lao lcap L W B W X') => all_at w' hb h V)
 have hlen := h.good.chain.len
 have hcl : cs.length ≤ 300 := by omega
 have Hle := uh (ats_le cs)
 have Hnx := uh (fun i c (hi : cs[i]? = some c) => ats_next hi)
 have Hk := uh hk
 have hk2 : k ≤ 300 := by have := ats_le cs cs.length; rw [List.take_length] at this; omega
 have hpk := hq.lt
 have HP := uh (hP.alloc (.cells #[.int .i64 dk, .int .i64 g, .int .i64 id, .int .i64 n, .int .u64 wv, sl] 118) rfl)
 have HO := uh (fun w' (hB : Below w0.heap.size w0 w') aa aaw (hA : ArAt w' aa aaw W) => sof_at w' (range_below hb.fields hB) hA h hb.ty (hTab.below hB) c hc ht)
 have HO8 := uh (fun w' (hB : Below w0.heap.size w0 w') ao cap (hS : Src w' ao W.length cap 1 (u64s W)) => of8_at w' h hb.ty ao cap hS lao lcap (hb.src.below hB) c hc ht)
 have HV := uh (fun s (hs : s < (tyAt L c.2.typ).slots c.2.len) w' aa aaw (n : Int) (Y : List Blk) (V : Turn [] w0 (arBlks aa aaw W n ++ Y) w') vb (hv : VwAt w' vb aa c.1 c.2 (tyAt L c.2.typ)) => vstore w' V (by omega) hv hte.2 hte.1 (by omega) s v hs (by omega))
 have HRf := uh (fun w' => rrefs w' (tyAt L c.2.typ) hte.2 c.2.len hte.1)
 have hrl : ((tyAt L c.2.typ).refs c.2.len).length ≤ 65536 := by
  have h1 := refsTo_len (tyAt L c.2.typ) ((tyAt L c.2.typ).slots c.2.len)
  have h2 : (tyAt L c.2.typ).refs c.2.len = refsTo (tyAt L c.2.typ) ((tyAt L c.2.typ).slots c.2.len) := rfl
  rw [h2]
  omega
 have Hat := uh hat
 have Hq := uh hq
 have hszH := sz_head
 have hszT := sz_type
 have hgb : c.1 ≤ 65536 := by omega
 have h63 : 0 + W.length ≤ maxLen := by unfold maxLen; omega
 have hby : (0 + W.length) * 8 ≤ 140737488355328 := by omega
 have hone := u64s_one W
 have hf : W.length ≤ 65536 := by omega
 have Hsl := uh (show ∀ s, s < (tyAt L c.2.typ).slots c.2.len → s ≤ 65536 ∧ 2 * c.1 + 1 + s < W.length from fun s hs => by omega)
 generalize tyAt L c.2.typ = t at *
 obtain ⟨tk, tw, tm⟩ := t
 obtain ⟨cg, ⟨ca, cb, cc, cd⟩⟩ := c
 simp only at ht hgb HO HO8 HV HRf hrl Hsl HN HY hs hss hroom Hat
 subst ht
 have hoH := hd_one ⟨1, cb, cc, cd⟩
 have hoT := ty_one ⟨tk, tw, tm⟩
 simp only at hoH hoT
 generalize hsv : Ty.slots ⟨tk, tw, tm⟩ cc = sv at *
 generalize hrf : Ty.refs ⟨tk, tw, tm⟩ cc = rs at *
 have Hs := uh hs
 have Hv := uh hv
 clear hb hP h hTab hst hte hc hk hq hat hlen hs hv hss hroom hrf hsv
 go_enter Tryz.func140, Tryz.ntmps140
 go_wp2_with fail
 refine (Hall.out _ _ HP.out).mono ?_
 rintro e w2 ⟨a11, p11, l11, rfl, hrow11, hP2⟩
 have HP2 := uh hP2
 have Hr11 := uh hrow11
 generalize w.heap.size = xb at *
 clear hP2 hrow11 Hall HP
 go_wp2_with fail
 go_loopw [7, 9] (fun v7 v9 wr => ∃ (i : Nat) (a7 : Option Addr) (p7 : Nat) (lat : List Blk), i ≤ cs.length ∧ v9 = .int .i64 i ∧ v7 = .slice a7 (ats (cs.take i)).length p7 ∧ Row 3 1 a7 (ats (cs.take i)).length p7 (nats (ats (cs.take i))) lat ∧ PlAt w0 wr sb tb rb lao lcap L W B W (lat ++ (l11 ++ ((xb, .cells #[.int .i64 dk, .int .i64 g, .int .i64 id, .int .i64 n, .int .u64 wv, sl] 118) :: X)))) (fun _ v9 _ => cs.length - (intOf v9).toNat)
 case atStart => exact ⟨0, none, 0, [], Nat.zero_le _, by go_num, rfl, Row.nil _ _, HP2.out⟩
 case round =>
  clear HP2
  obtain ⟨i, a7, p7, lat, hi, rfl, rfl, hr7, V⟩ := hrel
  by_cases hlt : i < cs.length
  · have hlt' : (i : Int) < (cs.length : Int) := by omega
    obtain ⟨d, hd⟩ : ∃ c, cs[i]? = some c := ⟨cs[i], List.getElem?_eq_getElem _⟩
    have hH : Has wr (l11 ++ (lat ++ ((xb, .cells #[.int .i64 dk, .int .i64 g, .int .i64 id, .int .i64 n, .int .u64 wv, sl] 118) :: X))) := V.has.perm po
    obtain ⟨b, off, rfl, -⟩ := (Hr11.out.src hH).form (by rw [ces_length]; omega)
    obtain ⟨d0, d1, -⟩ := (Hr11.out.src hH).ce1 hd
    have hnx := Hnx.out i d hd
    have hle := Hle.out i
    have HVV := uh V
    have Hr7 := uh hr7
    by_cases hdt : d.2.tag = 1
    · rw [if_pos hdt] at hnx
      have Hnxt := uh hnx
      have k1 : ((d.2.tag : Int) == 1) = true := by rw [beq_iff_eq]; omega
      have k2 : (d.2.tag == 1) = true := by rw [beq_iff_eq]; exact hdt
      have h63 : (ats (cs.take i)).length + 1 ≤ maxLen := by unfold maxLen; omega
      have hb2 : ((ats (cs.take i)).length + 1) * 8 ≤ 140737488355328 := by omega
      clear V hr7 hnx hd hdt hH
      go_wp2_with (first
       | (at_builtin; have T3 := uh (HVV.out.alloc (.cells #[.int .i64 d.1] 3) rfl); refine wpList_append_row rfl _ _ rfl el_int rfl Hr7.out (R := []) (by rw [List.append_nil]; exact T3.out.has.sub ((List.sublist_append_left lat _).cons _)) rfl (news := [.int .i64 d.1]) rfl (news_of (heap_alloc_new _ _)) (by simp [Value.oneCell']) h63 hb2 ?_; intro a9 p9 l9 w4 hr9 V4 hno; have V5 := uh ((T3.out.sub (List.sublist_cons_self ..)).turn (by rw [List.append_nil, List.append_nil] at V4; exact V4) hr9.cells); have Hr9 := uh hr9; clear hr9 V4 hno)
       | fail)
      go_roundw
      case rel =>
       have hl1 : (ats (cs.take (i + 1))).length = (ats (cs.take i)).length + 1 := by rw [Hnxt.out]; simp
       refine ⟨i + 1, a9, p9, l9, by omega, by go_num, by rw [hl1], ?_, V5.out⟩
       rw [hl1, Hnxt.out, nats_append]
       exact Hr9.out
      case measure => simp [intOf]; omega
    · rw [if_neg hdt, List.append_nil] at hnx
      have Hnxt := uh hnx
      have k1 : ((d.2.tag : Int) == 1) = false := by rw [beq_eq_false_iff_ne]; omega
      have k2 : (d.2.tag == 1) = false := by rw [beq_eq_false_iff_ne]; exact hdt
      clear V hr7 hnx hd hdt hH
      go_wp2_with fail
      go_roundw
      case rel => exact ⟨i + 1, a7, p7, lat, by omega, by go_num, by rw [Hnxt.out], by rw [Hnxt.out]; exact Hr7.out, HVV.out⟩
      case measure => simp [intOf]; omega
  · obtain rfl : i = cs.length := by omega
    rw [List.take_length] at hr7 ⊢
    rw [Hk.out] at hr7 ⊢
    obtain ⟨b7, cur7, rfl, hlat, -, -⟩ := hr7.some_of (by omega)
    obtain ⟨ls, lr, ⟨a, aw, bb, cw, lb, hbit, rfl⟩, hR, hX, T⟩ := V
    obtain ⟨ao, cap, lr, hrow, rfl⟩ := hR
    have Hg7 := uh (fun w' (R : List Blk) (V : Has w' (lat ++ R)) p' d (hp : p' < k) (hd : (ats cs)[p']? = some d) => (hr7.cell V p' (by omega)).trans (nats_at hd))
    obtain ⟨M, hM⟩ : ∃ M, M = (arBlks a aw W cw ++ (spBlk sb a tb bb :: lb)) ++ (((rb, .cells #[.slice ao W.length cap, .slice lao L.length lcap] 109) :: lr) ++ (lat ++ (l11 ++ ((xb, .cells #[.int .i64 dk, .int .i64 g, .int .i64 id, .int .i64 n, .int .u64 wv, sl] 118) :: X)))) := ⟨_, rfl⟩
    rw [← hM] at T
    have HM := uh hM
    have HT := uh T
    have HBit := uh hbit
    have HXc := uh hX
    have Hrow := uh hrow
    have HS := uh (fun w' (Y : List Blk) (V : Turn [] w0 (Y ++ M) w') => by
     rw [hM] at V
     have hm : w'.cell? ⟨b7, p, none⟩ = some (.int .i64 cg) := Hg7.out w' (Y ++ ((arBlks a aw W cw ++ (spBlk sb a tb bb :: lb)) ++ (((rb, .cells #[.slice ao W.length cap, .slice lao L.length lcap] 109) :: lr) ++ (l11 ++ ((xb, .cells #[.int .i64 dk, .int .i64 g, .int .i64 id, .int .i64 n, .int .u64 wv, sl] 118) :: X))))) (V.has.perm po) p cg hpk Hat.out
     exact (⟨V.has.cell (b := rb) (c := #[.slice ao W.length cap, .slice lao L.length lcap]) (e := 109) (f := (0, 0)) (by simp) 0,
      V.has.cell (b := rb) (c := #[.slice ao W.length cap, .slice lao L.length lcap]) (e := 109) (f := (0, 0)) (by simp) 1,
      V.has.cell (b := sb) (c := #[.pointer (some ⟨a, 0, none⟩), .pointer (some ⟨tb, 0, none⟩), .pointer (some ⟨bb, 0, none⟩)]) (e := 146) (f := (0, 0)) (by simp [spBlk]) 0,
      V.has.cell (b := sb) (c := #[.pointer (some ⟨a, 0, none⟩), .pointer (some ⟨tb, 0, none⟩), .pointer (some ⟨bb, 0, none⟩)]) (e := 146) (f := (0, 0)) (by simp [spBlk]) 1,
      V.has.range (b := xb) (c := #[.int .i64 dk, .int .i64 g, .int .i64 id, .int .i64 n, .int .u64 wv, sl]) (e := 118) (f := (0, 0)) (by simp), ⟨b7, rfl, hm⟩⟩ : JnAt rb sb xb a tb ao W.length cap lao L.length lcap dk g id n wv sl (some ⟨b7, 0, none⟩) p cg w'))
    have Hof := uh (fun w' (Y : List Blk) (V : Turn [] w0 (Y ++ M) w') => HO8.out w' V.below ao cap (by
     rw [hM] at V
     exact hrow.src (R := Y ++ ((arBlks a aw W cw ++ (spBlk sb a tb bb :: lb)) ++ ((rb, .cells #[.slice ao W.length cap, .slice lao L.length lcap] 109) :: (lat ++ (l11 ++ ((xb, .cells #[.int .i64 dk, .int .i64 g, .int .i64 id, .int .i64 n, .int .u64 wv, sl] 118) :: X)))))) (V.has.perm po)))
    have Hid2 := uh (fun w' (Y : List Blk) (V : Turn [] w0 (Y ++ M) w') p' d (hp : p' < k) (hd : (ats cs)[p']? = some d) => by
     rw [hM] at V
     exact (Hg7.out w' (Y ++ ((arBlks a aw W cw ++ (spBlk sb a tb bb :: lb)) ++ (((rb, .cells #[.slice ao W.length cap, .slice lao L.length lcap] 109) :: lr) ++ (l11 ++ ((xb, .cells #[.int .i64 dk, .int .i64 g, .int .i64 id, .int .i64 n, .int .u64 wv, sl] 118) :: X))))) (V.has.perm po) p' d hp hd : w'.cell? ⟨b7, p', none⟩ = some (.int .i64 d)))
    have HPl := uh (fun w' (Y : List Blk) (V : Turn [] w0 (Y ++ M) w') => by
     rw [hM] at V
     exact (⟨(arBlks a aw W cw ++ (spBlk sb a tb bb :: lb)), ((rb, .cells #[.slice ao W.length cap, .slice lao L.length lcap] 109) :: lr), ⟨a, aw, bb, cw, lb, hbit, rfl⟩, ⟨ao, cap, lr, hrow, rfl⟩, fun x hx => hX x (List.mem_append_right _ (List.mem_append_right _ (List.mem_cons_of_mem _ hx))), (V.perm (l2 := (Y ++ (lat ++ (l11 ++ [(xb, .cells #[.int .i64 dk, .int .i64 g, .int .i64 id, .int .i64 n, .int .u64 wv, sl] 118)]))) ++ ((arBlks a aw W cw ++ (spBlk sb a tb bb :: lb)) ++ (((rb, .cells #[.slice ao W.length cap, .slice lao L.length lcap] 109) :: lr) ++ X))) po).drop⟩ : PlAt w0 w' sb tb rb lao lcap L W B W X))
    have hS := HS.out wr [] HT.out
    have q1 := hS.x 1 _ rfl
    have q2 := hS.x 2 _ rfl
    obtain ⟨b7', hb7, q7⟩ := hS.a
    cases hb7
    have i1 := Hq.out.and_
    have i2 := Hq.out.low
    have i3 := Hq.out.rem
    have i4 := Hq.out.rem2
    have hkn : ((k : Int) == 0) = false := by rw [beq_eq_false_iff_ne]; omega
    have hkn2 : (k == 0) = false := by rw [beq_eq_false_iff_ne]; omega
    have hk0 : ¬ (k : Int) = 0 := by omega
    have hk0' : 0 < (k : Int) := by omega
    clear hr7 hlat hrow hX hbit T hM Hr11 HO8 hS Hg7
    go_upto_if 58 with fail
    clear i1 i2 i3 i4 q1 q2 q7
    go_cut [11] (fun v11 wc => v11 = .int .u64 v ∧ wc = wr)
    case first =>
     rcases Hv.out with ⟨hid, hv0⟩ | ⟨hid, qi, pi, d, hpi, hd, hd2, hv0⟩
     · have hid2 : decide (0 ≤ id) = false := decide_eq_false (by omega)
       have q2 := (HS.out wr [] HT.out).x 2 _ rfl
       go_wp2_with fail
       go_meet
       exact ⟨by rw [hv0]; rfl, rfl⟩
     · have hid2 : decide (0 ≤ id) = true := decide_eq_true hid
       have q2 := (HS.out wr [] HT.out).x 2 _ rfl
       have q7 := Hid2.out wr [] HT.out pi d hpi.lt hd
       have i1 := hpi.and_
       have i2 := hpi.low
       have i3 := hpi.rem
       have i4 := hpi.rem2
       have i5 := hpi.lt
       have HA8 := uh (addr8 wr d hd2)
       have HV0 := uh hv0
       clear hv0 hd hpi
       go_wp2_with (first
        | (go_at_call 30; refine HA8.out.mono ?_; rintro e w' ⟨rfl, hw⟩; subst hw)
        | fail)
       go_meet
       exact ⟨by rw [HV0.out]; first | rfl | go_num | (congr 1; omega), rfl⟩
    obtain ⟨rfl, hw⟩ := hcut
    subst hw
    have HX1 : Hid (Turn [] w0 ([] ++ M) _) := uh HT.out.drew
    have HT2 : Hid (Turn [] w0 M wc.drew) := uh HT.out.drew
    go_upto_region 14 with fail
    refine wp_abs (fun W' => Turn [] w0 M W'.drew) HT2.out fun W1 T1 => ?_
    have HT1 : Hid (Turn [] w0 M W1.drew) := uh T1
    clear T1 HT2 HT HX1
    apply wp_mid (I := fun bh bt w => Turn [] w0 ((bh, .cells #[.int .u8 1, .int .i64 cb, .int .i64 cc, .int .i64 cd] 79) :: (bt, .cells #[.int .u8 tk, .int .i64 tw, .int .u64 tm] 49) :: (M)) w)
    case h =>
     have hS1 := HS.out _ [] HT1.out
     refine wp_region_noPanic ?_
     refine wp_region_listed (S := fun W' => JnAt rb sb xb a tb ao W.length cap lao L.length lcap dk g id n wv sl (some ⟨b7, 0, none⟩) p cg W') 19 [false, false, false, false, false, false, false, false, false, false, false, false, false, false, false, false, false, false, false] rfl rfl (by kernel_rfl) ?_
     refine tkA 0 70 hS1 ?_
     refine tkA 1 71 hS1 ?_
     refine tkA 2 72 hS1 ?_
     refine tkB 3 73 hS1 (fun w hSw => hSw.r0) ?_
     refine tkA 4 74 hS1 ?_
     refine tkA 5 75 hS1 ?_
     refine tkA 6 76 hS1 ?_
     refine tkB 7 77 hS1 (fun w hSw => hSw.r1) ?_
     refine tkA 8 78 hS1 ?_
     have T0 : Turn [] w0 ([] ++ (M)) W1.drew := HT1.out
     clear hS1
     generalize W1.drew = V0 at T0 ⊢
     have HT0h := uh T0
     clear T0
     apply any_mid (I := fun bh bt V => Turn [] w0 ((bh, .cells #[.int .u8 0, .int .i64 0, .int .i64 0, .int .i64 0] 79) :: (bt, .cells #[.int .u8 0, .int .i64 0, .int .u64 0] 49) :: (M)) V)
     case h1 =>
      intro hG
      have T0 := HT0h.out
      refine wpAnyH_ready (rs := [9, 14, 15]) (by kernel_rfl) (by simp) (AllReadyH.cons rfl (fun K hK => ?_) (AllReadyH.cons rfl (fun K hK => ?_) (AllReadyH.cons rfl (fun K hK => ?_) AllReadyH.nil)))
      · go_simp
        refine (Hof.out _ _ T0).mono ?_
        rintro e V1 ⟨rfl, hB⟩
        have T1 := T0.call hB
        refine hK.out _ _ (HS.out _ _ T1) fun _ => ?_
        clear hK K hB T0
        simp only [st0, st1, st2]
        have hS1 := HS.out _ _ T1
        refine tkA 10 69 hS1 ?_
        refine tkA 11 80 hS1 ?_
        refine tkA 12 81 hS1 ?_
        refine tkA 13 82 hS1 ?_
        clear hS1
        refine wpAnyH_ready (rs := [14, 15]) (by kernel_rfl) (by simp) (AllReadyH.cons rfl (fun K hK => ?_) (AllReadyH.cons rfl (fun K hK => ?_) AllReadyH.nil))
        · go_simp
          have T2 : Turn [] w0 ([(V1.heap.size, .cells #[.int .u8 0, .int .i64 0, .int .i64 0, .int .i64 0] 79)] ++ (M)) (V1.alloc (.cells #[.int .u8 0, .int .i64 0, .int .i64 0, .int .i64 0] 79)) := T1.alloc (.cells #[.int .u8 0, .int .i64 0, .int .i64 0, .int .i64 0] 79)
          refine hK.out _ _ (HS.out _ _ T2) fun _ => ?_
          clear hK K T1
          simp only [st0, st1, st2]
          generalize V1.alloc (.cells #[.int .u8 0, .int .i64 0, .int .i64 0, .int .i64 0] 79) = V2 at *
          generalize V1.heap.size = bh at *
          refine rdyA 15 (fun K hK => ?_)
          · go_simp
            have T3 : Turn [] w0 ([(V2.heap.size, .cells #[.int .u8 0, .int .i64 0, .int .u64 0] 49), (bh, .cells #[.int .u8 0, .int .i64 0, .int .i64 0, .int .i64 0] 79)] ++ (M)) (V2.alloc (.cells #[.int .u8 0, .int .i64 0, .int .u64 0] 49)) := T2.alloc (.cells #[.int .u8 0, .int .i64 0, .int .u64 0] 49)
            refine hK.out _ _ (HS.out _ _ T3) fun _ => ?_
            clear hK K T2
            simp only [st0, st1, st2]
            generalize V2.alloc (.cells #[.int .u8 0, .int .i64 0, .int .u64 0] 49) = V3 at *
            generalize V2.heap.size = bt at *
            exact hG.out bh bt V3 (T3.perm po)
        · go_simp
          have T2 : Turn [] w0 ([(V1.heap.size, .cells #[.int .u8 0, .int .i64 0, .int .u64 0] 49)] ++ (M)) (V1.alloc (.cells #[.int .u8 0, .int .i64 0, .int .u64 0] 49)) := T1.alloc (.cells #[.int .u8 0, .int .i64 0, .int .u64 0] 49)
          refine hK.out _ _ (HS.out _ _ T2) fun _ => ?_
          clear hK K T1
          simp only [st0, st1, st2]
          generalize V1.alloc (.cells #[.int .u8 0, .int .i64 0, .int .u64 0] 49) = V2 at *
          generalize V1.heap.size = bt at *
          refine rdyA 14 (fun K hK => ?_)
          · go_simp
            have T3 : Turn [] w0 ([(V2.heap.size, .cells #[.int .u8 0, .int .i64 0, .int .i64 0, .int .i64 0] 79), (bt, .cells #[.int .u8 0, .int .i64 0, .int .u64 0] 49)] ++ (M)) (V2.alloc (.cells #[.int .u8 0, .int .i64 0, .int .i64 0, .int .i64 0] 79)) := T2.alloc (.cells #[.int .u8 0, .int .i64 0, .int .i64 0, .int .i64 0] 79)
            refine hK.out _ _ (HS.out _ _ T3) fun _ => ?_
            clear hK K T2
            simp only [st0, st1, st2]
            generalize V2.alloc (.cells #[.int .u8 0, .int .i64 0, .int .i64 0, .int .i64 0] 79) = V3 at *
            generalize V2.heap.size = bh at *
            exact hG.out bh bt V3 (T3.perm po)
      · go_simp
        have T1 : Turn [] w0 ([(V0.heap.size, .cells #[.int .u8 0, .int .i64 0, .int .i64 0, .int .i64 0] 79)] ++ (M)) (V0.alloc (.cells #[.int .u8 0, .int .i64 0, .int .i64 0, .int .i64 0] 79)) := T0.alloc (.cells #[.int .u8 0, .int .i64 0, .int .i64 0, .int .i64 0] 79)
        refine hK.out _ _ (HS.out _ _ T1) fun _ => ?_
        clear hK K T0
        simp only [st0, st1, st2]
        generalize V0.alloc (.cells #[.int .u8 0, .int .i64 0, .int .i64 0, .int .i64 0] 79) = V1 at *
        generalize V0.heap.size = bh at *
        refine wpAnyH_ready (rs := [9, 15]) (by kernel_rfl) (by simp) (AllReadyH.cons rfl (fun K hK => ?_) (AllReadyH.cons rfl (fun K hK => ?_) AllReadyH.nil))
        · go_simp
          refine (Hof.out _ _ T1).mono ?_
          rintro e V2 ⟨rfl, hB⟩
          have T2 := T1.call hB
          refine hK.out _ _ (HS.out _ _ T2) fun _ => ?_
          clear hK K hB T1
          simp only [st0, st1, st2]
          have hS2 := HS.out _ _ T2
          refine tkA 10 69 hS2 ?_
          refine tkA 11 80 hS2 ?_
          refine tkA 12 81 hS2 ?_
          refine tkA 13 82 hS2 ?_
          clear hS2
          refine rdyA 15 (fun K hK => ?_)
          · go_simp
            have T3 : Turn [] w0 ([(V2.heap.size, .cells #[.int .u8 0, .int .i64 0, .int .u64 0] 49), (bh, .cells #[.int .u8 0, .int .i64 0, .int .i64 0, .int .i64 0] 79)] ++ (M)) (V2.alloc (.cells #[.int .u8 0, .int .i64 0, .int .u64 0] 49)) := T2.alloc (.cells #[.int .u8 0, .int .i64 0, .int .u64 0] 49)
            refine hK.out _ _ (HS.out _ _ T3) fun _ => ?_
            clear hK K T2
            simp only [st0, st1, st2]
            generalize V2.alloc (.cells #[.int .u8 0, .int .i64 0, .int .u64 0] 49) = V3 at *
            generalize V2.heap.size = bt at *
            exact hG.out bh bt V3 (T3.perm po)
        · go_simp
          have T2 : Turn [] w0 ([(V1.heap.size, .cells #[.int .u8 0, .int .i64 0, .int .u64 0] 49), (bh, .cells #[.int .u8 0, .int .i64 0, .int .i64 0, .int .i64 0] 79)] ++ (M)) (V1.alloc (.cells #[.int .u8 0, .int .i64 0, .int .u64 0] 49)) := T1.alloc (.cells #[.int .u8 0, .int .i64 0, .int .u64 0] 49)
          refine hK.out _ _ (HS.out _ _ T2) fun _ => ?_
          clear hK K T1
          simp only [st0, st1, st2]
          generalize V1.alloc (.cells #[.int .u8 0, .int .i64 0, .int .u64 0] 49) = V2 at *
          generalize V1.heap.size = bt at *
          refine rdyA 9 (fun K hK => ?_)
          · go_simp
            refine (Hof.out _ _ T2).mono ?_
            rintro e V3 ⟨rfl, hB⟩
            have T3 := T2.call hB
            refine hK.out _ _ (HS.out _ _ T3) fun _ => ?_
            clear hK K hB T2
            simp only [st0, st1, st2]
            have hS3 := HS.out _ _ T3
            refine tkA 10 69 hS3 ?_
            refine tkA 11 80 hS3 ?_
            refine tkA 12 81 hS3 ?_
            refine tkA 13 82 hS3 ?_
            clear hS3
            exact hG.out bh bt V3 (T3.perm po)
      · go_simp
        have T1 : Turn [] w0 ([(V0.heap.size, .cells #[.int .u8 0, .int .i64 0, .int .u64 0] 49)] ++ (M)) (V0.alloc (.cells #[.int .u8 0, .int .i64 0, .int .u64 0] 49)) := T0.alloc (.cells #[.int .u8 0, .int .i64 0, .int .u64 0] 49)
        refine hK.out _ _ (HS.out _ _ T1) fun _ => ?_
        clear hK K T0
        simp only [st0, st1, st2]
        generalize V0.alloc (.cells #[.int .u8 0, .int .i64 0, .int .u64 0] 49) = V1 at *
        generalize V0.heap.size = bt at *
        refine wpAnyH_ready (rs := [9, 14]) (by kernel_rfl) (by simp) (AllReadyH.cons rfl (fun K hK => ?_) (AllReadyH.cons rfl (fun K hK => ?_) AllReadyH.nil))
        · go_simp
          refine (Hof.out _ _ T1).mono ?_
          rintro e V2 ⟨rfl, hB⟩
          have T2 := T1.call hB
          refine hK.out _ _ (HS.out _ _ T2) fun _ => ?_
          clear hK K hB T1
          simp only [st0, st1, st2]
          have hS2 := HS.out _ _ T2
          refine tkA 10 69 hS2 ?_
          refine tkA 11 80 hS2 ?_
          refine tkA 12 81 hS2 ?_
          refine tkA 13 82 hS2 ?_
          clear hS2
          refine rdyA 14 (fun K hK => ?_)
          · go_simp
            have T3 : Turn [] w0 ([(V2.heap.size, .cells #[.int .u8 0, .int .i64 0, .int .i64 0, .int .i64 0] 79), (bt, .cells #[.int .u8 0, .int .i64 0, .int .u64 0] 49)] ++ (M)) (V2.alloc (.cells #[.int .u8 0, .int .i64 0, .int .i64 0, .int .i64 0] 79)) := T2.alloc (.cells #[.int .u8 0, .int .i64 0, .int .i64 0, .int .i64 0] 79)
            refine hK.out _ _ (HS.out _ _ T3) fun _ => ?_
            clear hK K T2
            simp only [st0, st1, st2]
            generalize V2.alloc (.cells #[.int .u8 0, .int .i64 0, .int .i64 0, .int .i64 0] 79) = V3 at *
            generalize V2.heap.size = bh at *
            exact hG.out bh bt V3 (T3.perm po)
        · go_simp
          have T2 : Turn [] w0 ([(V1.heap.size, .cells #[.int .u8 0, .int .i64 0, .int .i64 0, .int .i64 0] 79), (bt, .cells #[.int .u8 0, .int .i64 0, .int .u64 0] 49)] ++ (M)) (V1.alloc (.cells #[.int .u8 0, .int .i64 0, .int .i64 0, .int .i64 0] 79)) := T1.alloc (.cells #[.int .u8 0, .int .i64 0, .int .i64 0, .int .i64 0] 79)
          refine hK.out _ _ (HS.out _ _ T2) fun _ => ?_
          clear hK K T1
          simp only [st0, st1, st2]
          generalize V1.alloc (.cells #[.int .u8 0, .int .i64 0, .int .i64 0, .int .i64 0] 79) = V2 at *
          generalize V1.heap.size = bh at *
          refine rdyA 9 (fun K hK => ?_)
          · go_simp
            refine (Hof.out _ _ T2).mono ?_
            rintro e V3 ⟨rfl, hB⟩
            have T3 := T2.call hB
            refine hK.out _ _ (HS.out _ _ T3) fun _ => ?_
            clear hK K hB T2
            simp only [st0, st1, st2]
            have hS3 := HS.out _ _ T3
            refine tkA 10 69 hS3 ?_
            refine tkA 11 80 hS3 ?_
            refine tkA 12 81 hS3 ?_
            refine tkA 13 82 hS3 ?_
            clear hS3
            exact hG.out bh bt V3 (T3.perm po)
     case h2 =>
      intro bh bt V0 U0
      refine rdyA 16 (fun K hK => ?_)
      have hth0 := U0.there1
      have U1 := U0.laid [.int .u8 1, .int .i64 cb, .int .i64 cc, .int .i64 cd] rfl
      refine step_store rfl rfl 79 _ _ rfl _ 0 #[.int .u8 1, .int .i64 cb, .int .i64 cc, .int .i64 cd] rfl rfl hth0 hszH hoH ?_
      refine hK.out _ _ (HS.out _ [_, _] U1) fun _ => ?_
      clear hK K hth0
      simp only [st0, st1, st2]
      generalize V0.setCells bh 0 _ = V9 at *
      refine rdyA 17 (fun K hK => ?_)
      have hth1 := U1.there2
      have U2 := U1.laid2 [.int .u8 tk, .int .i64 tw, .int .u64 tm] rfl
      refine step_store rfl rfl 49 _ _ rfl _ 0 #[.int .u8 tk, .int .i64 tw, .int .u64 tm] rfl rfl hth1 hszT hoT ?_
      refine hK.out _ _ (HS.out _ [_, _] U2) fun _ => ?_
      clear hK K hth1
      simp only [st0, st1, st2]
      have hSz := HS.out _ [_, _] U2
      refine tkA 18 14 hSz ?_
      clear hSz
      refine wpAnyH_done (by kernel_rfl) ?_ _
      refine NoPanic.normal ?_
      exact ⟨rfl, bh, bt, rfl, U2⟩
    case hq =>
     intro bh bt w5 T5
     have hrT := T5.range2
     have hcc := T5.cell1 2
     have HT5 := uh T5
     clear T5
     go_wp2_with (first
      | (show lW 49; refine wpList_load_mid rfl 49 _ rfl bt 0 rfl [.int .u8 tk, .int .i64 tw, .int .u64 tm] _ hrT Tryz.underlying49 rfl hszT ?_)
      | fail)
     refine (HRf.out _).mono ?_
     rintro e w6 ⟨a15, p15, l15, rfl, hr15, T6⟩
     have T7 := HT5.out.grow T6
     obtain ⟨Y, hY⟩ : ∃ Y, Y = l15 ++ [(bh, .cells #[.int .u8 1, .int .i64 cb, .int .i64 cc, .int .i64 cd] 79), (bt, .cells #[.int .u8 tk, .int .i64 tw, .int .u64 tm] 49)] := ⟨_, rfl⟩
     have T8 : Turn [] w0 (Y ++ M) w6 := by rw [hY]; exact T7.perm po
     have HT8 := uh T8
     clear T6 T7 hrT hcc HT5 HRf
     rcases Hs.out with hs | ⟨qs, ps, s, hps, hgs, hsl2⟩
     · have k1 : ((rs.length : Int) == 0) = true := by rw [beq_iff_eq]; omega
       have k2 : (rs.length == 0) = true := by rw [beq_iff_eq]; exact hs
       have HE := uh (HN.out _ hs (HPl.out _ _ T8))
       clear hs T8 hY HN HY hr15
       go_wp2_with fail
       exact HE.out
     · have hlt := hps.lt
       have k1 : ((rs.length : Int) == 0) = false := by rw [beq_eq_false_iff_ne]; omega
       have k2 : (rs.length == 0) = false := by rw [beq_eq_false_iff_ne]; omega
       have k3 : 0 < (rs.length : Int) := by omega
       have k4 : ¬ (rs.length : Int) = 0 := by omega
       obtain ⟨b15, cur15, rfl, rfl, -, -⟩ := hr15.some_of (by omega)
       have q15 : w6.cell? ⟨b15, ps, none⟩ = some (.int .i64 s) := (hr15.cell (R := [(bh, .cells #[.int .u8 1, .int .i64 cb, .int .i64 cc, .int .i64 cd] 79), (bt, .cells #[.int .u8 tk, .int .i64 tw, .int .u64 tm] 49)] ++ M) (by rw [hY] at T8; exact T8.has.perm po) ps (by omega)).trans (nats_at hgs)
       have hS8 := HS.out _ _ T8
       have q3 := hS8.x 3 _ rfl
       have i1 := hps.and_
       have i2 := hps.low
       have i3 := hps.rem
       have i4 := hps.rem2
       have s0 := hS8.s0
       have s1 := hS8.s1
       have hsl3 := Hsl.out s hsl2
       have hs3 := hsl3.1
       have hs4 := hsl3.2
       have HE := uh (fun w' => HY.out w' s hsl2)
       have HV1 := uh (HV.out s hsl2)
       have HO1 := uh (HO.out _ T8.below a aw (by
        rw [HM.out] at T8
        exact arBlks_at (n := cw) (L := (spBlk sb a tb bb :: lb) ++ (Y ++ (((rb, .cells #[.slice ao W.length cap, .slice lao L.length lcap] 109) :: lr) ++ (lat ++ (l11 ++ ((xb, .cells #[.int .i64 dk, .int .i64 g, .int .i64 id, .int .i64 n, .int .u64 wv, sl] 118) :: X)))))) (T8.has.perm po) hf))
       clear hsl3 hgs hps hsl2 HN HY HV hY hr15 T8 hS8 HO
       go_wp2_with (first
        | (go_at_call 44; refine (sarena _ (a := ⟨a, 0, none⟩) rfl s0).mono ?_; rintro e w' ⟨rfl, hw⟩; subst hw)
        | (go_at_call 101; refine (stable _ (a := ⟨tb, 0, none⟩) rfl s1).mono ?_; rintro e w' ⟨rfl, hw⟩; subst hw)
        | fail)
       refine HO1.out.mono ?_
       rintro e w8 ⟨vb, rfl, T9⟩
       have T10 := HT8.out.grow T9
       obtain ⟨N, hN⟩ : ∃ N, N = (spBlk sb a tb bb :: lb) ++ (((vb, .cells (viewCells a cg ⟨1, cb, cc, cd⟩ ⟨tk, tw, tm⟩).toArray 238) :: (Y ++ (lat ++ (l11 ++ [(xb, .cells #[.int .i64 dk, .int .i64 g, .int .i64 id, .int .i64 n, .int .u64 wv, sl] 118)])))) ++ X) := ⟨_, rfl⟩
       have T11 : Turn [] w0 (arBlks a aw W cw ++ (((rb, .cells #[.slice ao W.length cap, .slice lao L.length lcap] 109) :: lr) ++ N)) w8 := by
        rw [HM.out] at T10
        rw [hN]
        exact T10.perm po
       have hv : VwAt w8 vb a cg ⟨1, cb, cc, cd⟩ ⟨tk, tw, tm⟩ := T10.has.range (b := vb) (c := (viewCells a cg ⟨1, cb, cc, cd⟩ ⟨tk, tw, tm⟩).toArray) (e := 238) (f := (0, 0)) (by simp)
       have HV2 := uh (HV1.out w8 a aw cw _ T11 vb hv)
       have HN := uh hN
       have hgi : 2 * (cg : Int) + 1 + (s : Int) < (W.length : Int) := by omega
       have hgn : (2 * (cg : Int) + 1 + (s : Int)).toNat = 2 * cg + 1 + s := by omega
       clear T9 T10 T11 hv hN HT8 HO1 HV1 q3 i1 i2 i3 i4 q15 s0 s1
       go_wp2_with fail
       refine HV2.out.mono ?_
       rintro e w9 ⟨rfl, cw', T12⟩
       have T13 := T12.perm (l2 := ((rb, .cells #[.slice ao W.length cap, .slice lao L.length lcap] 109) :: (lr ++ (arBlks a aw (W.set (2 * cg + 1 + s) v) cw' ++ N)))) po
       have c0 := T13.cell1 0
       have T14 := T13.perm (l2 := lr ++ ((rb, .cells #[.slice ao W.length cap, .slice lao L.length lcap] 109) :: (arBlks a aw (W.set (2 * cg + 1 + s) v) cw' ++ N))) po
       have hsrc := Hrow.out.src T14.has
       have HT14 := uh T14
       clear T12 T13 T14 HV2
       go_wp2_with (first
        | (at_builtin; refine wpList_append_src rfl _ _ rfl el_u64 rfl rfl (Row.nil _ _) (R := lr ++ ((rb, .cells #[.slice ao W.length cap, .slice lao L.length lcap] 109) :: (arBlks a aw (W.set (2 * cg + 1 + s) v) cw' ++ N))) HT14.out.has hsrc hone h63 hby ?_; intro ao' cap' lr' w10 hr6 hT6; rw [Nat.zero_add, List.nil_append] at hr6; obtain ⟨gb, cur, rfl, rfl, -, -⟩ := hr6.some_of (by omega); have V1 := ((HT14.out).trans hT6).perm (l2 := (gb, .cells cur 47) :: (rb, .cells #[.slice ao W.length cap, .slice lao L.length lcap] 109) :: (lr ++ (arBlks a aw (W.set (2 * cg + 1 + s) v) cw' ++ N))) po; have c1 : w10.cell? ⟨gb, 2 * cg + 1 + s, none⟩ = some (.int .u64 (W[2 * cg + 1 + s])) := (hr6.cell (R := (rb, .cells #[.slice ao W.length cap, .slice lao L.length lcap] 109) :: (lr ++ (arBlks a aw (W.set (2 * cg + 1 + s) v) cw' ++ N))) V1.has (2 * cg + 1 + s) (by rw [Nat.mul_one]; exact hs4)).trans (u64s_get (List.getElem?_eq_getElem hs4)); have f1 := V1.free1 (2 * cg + 1 + s); have V3 := V1.setCell (2 * cg + 1 + s) (.int .u64 v); have c3 : (w10.setCell ⟨gb, 2 * cg + 1 + s, none⟩ (.int .u64 v)).cell? ⟨rb, 0, none⟩ = some (.slice ao W.length cap) := V3.cell2 0; have f3 := V3.free2 0; have HT8 := uh (V3.swap.setCell 0 (.slice (some ⟨gb, 0, none⟩) W.length cap')); have hr8 := hr6.set (2 * cg + 1 + s) (.int .u64 v); rw [u64s_setl] at hr8; have Hr8 := uh hr8; clear V1 V3 hT6 hr6 hr8 hsrc HT14 c0)
        | fail)
       refine HE.out _ ⟨arBlks a aw (W.set (2 * cg + 1 + s) v) cw' ++ (spBlk sb a tb bb :: lb), (rb, .cells #[.slice (some ⟨gb, 0, none⟩) (W.set (2 * cg + 1 + s) v).length cap', .slice lao L.length lcap] 109) :: [(gb, .cells (cur.setIfInBounds (2 * cg + 1 + s) (.int .u64 v)) 47)], ⟨a, aw, bb, cw', lb, ?_, rfl⟩, ⟨some ⟨gb, 0, none⟩, cap', _, ?_, rfl⟩, fun x hx => HXc.out x (List.mem_append_right _ (List.mem_append_right _ (List.mem_cons_of_mem _ hx))), ?_⟩
       · rw [List.length_set]; exact HBit.out
       · have h := Hr8.out
         rw [List.length_set]
         exact h
       · rw [List.length_set]
         have h := HT8.out
         rw [HN.out] at h
         exact (h.perm (l2 := (lr ++ ((vb, .cells (viewCells a cg ⟨1, cb, cc, cd⟩ ⟨tk, tw, tm⟩).toArray 238) :: (Y ++ (lat ++ (l11 ++ [(xb, .cells #[.int .i64 dk, .int .i64 g, .int .i64 id, .int .i64 n, .int .u64 wv, sl] 118)]))))) ++ ((arBlks a aw (W.set (2 * cg + 1 + s) v) cw' ++ (spBlk sb a tb bb :: lb)) ++ ((rb, .cells #[.slice (some ⟨gb, 0, none⟩) W.length cap', .slice lao L.length lcap] 109) :: [(gb, .cells (cur.setIfInBounds (2 * cg + 1 + s) (.int .u64 v)) 47)] ++ X))) po).drop
theorem does_else {w1 : World} (w : World) {sb tb rb lcap : Nat} {lao : Option Addr} {L : List Ty} {W B : List Nat} {X : List Blk} (hP : PlAt w1 w sb tb rb lao lcap L W B W X) (dk g id n : Int) (wv : Nat) (sl : Value) (_hsl : sl.oneCell' = true) (h0 : dk ≠ 0) (h1 : dk ≠ 1) (h2 : dk ≠ 2) (h3 : dk ≠ 3) (h5 : dk ≠ 5) :
  Calls Tryz.prog 55 #[.pointer (some ⟨sb, 0, none⟩), .pointer (some ⟨rb, 0, none⟩), .agg #[.int .i64 dk, .int .i64 g, .int .i64 id, .int .i64 n, .int .u64 wv, sl]] w fun e w' => e = .returned (.bool true) ∧ PlAt w1 w' sb tb rb lao lcap L W B W X := by
 have HP := uh (hP.alloc (.cells #[.int .i64 dk, .int .i64 g, .int .i64 id, .int .i64 n, .int .u64 wv, sl] 118) rfl)
 have k0 : (dk == 0) = false := by rw [beq_eq_false_iff_ne]; exact h0
 have k1 : (dk == 1) = false := by rw [beq_eq_false_iff_ne]; exact h1
 have k2 : (dk == 2) = false := by rw [beq_eq_false_iff_ne]; exact h2
 have k3 : (dk == 3) = false := by rw [beq_eq_false_iff_ne]; exact h3
 have k5 : (dk == 5) = false := by rw [beq_eq_false_iff_ne]; exact h5
 clear hP
 go_enter Tryz.func55, Tryz.ntmps55
 have HR := uh (HP.out.sub (List.sublist_cons_self ..))
 have q0 := HP.out.x 0 _ rfl
 clear HP
 go_wp2_with fail
 go_ret
 exact ⟨rfl, HR.out⟩
theorem does_join {w1 : World} (w : World) {sb tb rb lcap : Nat} {lao : Option Addr} {L : List Ty} {W B : List Nat} {X : List Blk} (hP : PlAt w1 w sb tb rb lao lcap L W B W X) (g id n : Int) (wv : Nat) (sl : Value) (_hsl : sl.oneCell' = true) (Qp : Ending → World → Prop)
  (HJ : Hid (∀ w' x, PlAt w1 w' sb tb rb lao lcap L W B W (x :: X) → Calls Tryz.prog 140 #[.pointer (some ⟨sb, 0, none⟩), .pointer (some ⟨rb, 0, none⟩), .agg #[.int .i64 5, .int .i64 g, .int .i64 id, .int .i64 n, .int .u64 wv, sl]] w' fun e w2 => e = .returned (.bool true) ∧ Qp (.returned (.bool true)) w2)) :
  Calls Tryz.prog 55 #[.pointer (some ⟨sb, 0, none⟩), .pointer (some ⟨rb, 0, none⟩), .agg #[.int .i64 5, .int .i64 g, .int .i64 id, .int .i64 n, .int .u64 wv, sl]] w Qp := by
 have HP := uh (hP.alloc (.cells #[.int .i64 5, .int .i64 g, .int .i64 id, .int .i64 n, .int .u64 wv, sl] 118) rfl)
 have hsz : (Tryz.prog.info? 118).map (·.size) = some 6 := by kernel_rfl
 clear hP
 go_enter Tryz.func55, Tryz.ntmps55
 have HJ1 := uh (HJ.out _ _ HP.out)
 have hx := HP.out.x
 have q0 := hx 0 _ rfl
 clear HP HJ
 go_wp2_with (first
  | (show lW 118; refine wpList_load_mid rfl 118 _ rfl w.heap.size 0 rfl [.int .i64 5, .int .i64 g, .int .i64 id, .int .i64 n, .int .u64 wv, sl] _ hx Tryz.underlying118 rfl hsz ?_)
  | fail)
 refine HJ1.out.mono ?_
 rintro e w2 ⟨rfl, hq⟩
 have HQ := uh hq
 clear hq
 go_wp2_with fail
 exact HQ.out
theorem slot_in {L : List Ty} {W B : List Nat} {cs : List Ce} (h : Pl L W B cs) {c : Ce} (hc : c ∈ cs) (ht : c.2.tag = 1) {s v : Nat} (hs : s < (tyAt L c.2.typ).slots c.2.len) (hv : v < 18446744073709551616) : Pl L (W.set (2 * c.1 + 1 + s) v) B cs := by
 have hst := (h.good.chain.mem c hc).2.2
 have hss := (stands_slots hst ht).1
 exact h.slot hc (by omega) (by omega) hv
theorem refs_slot {t : Ty} {n p s : Nat} (h : (t.refs n)[p]? = some s) : s < t.slots n := by
 have h1 := List.mem_of_getElem? h
 unfold Ty.refs at h1
 exact List.mem_range.1 (List.mem_filter.1 h1).1
theorem joins_all {w1 : World} (w : World) {sb tb rb lcap : Nat} {lao : Option Addr} {L : List Ty} {W B : List Nat} {X : List Blk} {cs : List Ce} (hb : PlBase w1 tb L lao lcap) (hP : PlAt w1 w sb tb rb lao lcap L W B W X) (h : Pl L W B cs) (dk g id n : Int) (wv : Nat) (sl : Value) (_hsl : sl.oneCell' = true) :
  Calls Tryz.prog 140 #[.pointer (some ⟨sb, 0, none⟩), .pointer (some ⟨rb, 0, none⟩), .agg #[.int .i64 dk, .int .i64 g, .int .i64 id, .int .i64 n, .int .u64 wv, sl]] w fun e w' => e = .returned (.bool true) ∧ ∃ W', Pl L W' B cs ∧ PlAt w1 w' sb tb rb lao lcap L W' B W' X := by
 by_cases h0 : (ats cs).length = 0
 · refine (joins_none w hb hP h dk g id n wv sl _hsl h0).mono ?_
   rintro e w' ⟨rfl, hP'⟩
   exact ⟨rfl, W, h, hP'⟩
 · have hk : 0 < (ats cs).length := by omega
   have hsm := h.good.small
   obtain ⟨q, p, hq⟩ := picks g hk
   obtain ⟨c, hc, ht, hat⟩ := ats_at hq.lt
   have hst := (h.good.chain.mem c hc).2.2
   obtain ⟨v, hv64, hv⟩ : ∃ v : Nat, v < 18446744073709551616 ∧ (id < 0 ∧ v = 0 ∨ 0 ≤ id ∧ ∃ qi pi d, Picks id (ats cs).length qi pi ∧ (ats cs)[pi]? = some d ∧ d ≤ 65536 ∧ v = 1048576 + 2 * d) := by
    by_cases hid : id < 0
    · exact ⟨0, by omega, .inl ⟨hid, rfl⟩⟩
    · obtain ⟨qi, pi, hpi⟩ := picks id hk
      obtain ⟨d, hd, -, hatd⟩ := ats_at hpi.lt
      have hdm := h.good.chain.mem d hd
      have := hdm.2.2.pos
      exact ⟨1048576 + 2 * d.1, by omega, .inr ⟨by omega, qi, pi, d.1, hpi, hatd, by omega, rfl⟩⟩
   have hs : ((tyAt L c.2.typ).refs c.2.len).length = 0 ∨ ∃ qs ps s, Picks n ((tyAt L c.2.typ).refs c.2.len).length qs ps ∧ ((tyAt L c.2.typ).refs c.2.len)[ps]? = some s ∧ s < (tyAt L c.2.typ).slots c.2.len := by
    by_cases hr : ((tyAt L c.2.typ).refs c.2.len).length = 0
    · exact .inl hr
    · obtain ⟨qs, ps, hps⟩ := picks n (k := ((tyAt L c.2.typ).refs c.2.len).length) (by omega)
      have hg := List.getElem?_eq_getElem hps.lt
      exact .inr ⟨qs, ps, _, hps, hg, refs_slot hg⟩
   exact joins_some w hb hP h dk g id n wv sl _hsl _ q p v c rfl hq hc ht hat hv hs _ (uh (fun w' _ hP' => ⟨rfl, W, h, hP'⟩)) (uh (fun w' s hs' hP' => ⟨rfl, _, slot_in h hc ht hs' hv64, hP'⟩))
theorem does_all {w1 : World} (w : World) {sb tb rb lcap : Nat} {lao : Option Addr} {L : List Ty} {W B : List Nat} {X : List Blk} {cs : List Ce} (hb : PlBase w1 tb L lao lcap) (hP : PlAt w1 w sb tb rb lao lcap L W B W X) (h : Pl L W B cs) (s : Stp) (hlen : s.ats.length ≤ 65536) (hw : s.w < 18446744073709551616) (hA : Src w1 s.ao s.ats.length s.cap 1 (ints s.ats)) :
  Calls Tryz.prog 55 #[.pointer (some ⟨sb, 0, none⟩), .pointer (some ⟨rb, 0, none⟩), .agg (stCells s).toArray] w fun e w' => e = .returned (.bool true) ∧ ∃ W' B' cs', Pl L W' B' cs' ∧ PlAt w1 w' sb tb rb lao lcap L W' B' W' X := by
 obtain ⟨dk, g, id, n, wv, al, ao, acap⟩ := s
 simp only at hlen hw hA
 show Calls _ _ #[_, _, .agg #[.int .i64 dk, .int .i64 g, .int .i64 id, .int .i64 n, .int .u64 wv, .slice ao al.length acap]] w _
 by_cases h0 : dk = 0
 · subst h0
   exact does_put w hb hP h g id n wv _ rfl
 by_cases h1 : dk = 1
 · subst h1
   exact does_drop w hb hP h g id n wv _ rfl
 by_cases h3 : dk = 3
 · subst h3
   exact does_settle w hb hP h g id n wv al hlen ao acap hA
 by_cases h2 : dk = 2
 · subst h2
   by_cases hg : ∃ c ∈ cs, (c.1 : Int) = g ∧ c.2.tag = 1
   · obtain ⟨c, hc, rfl, ht⟩ := hg
     by_cases hn : n < 0 ∨ (((tyAt L c.2.typ).slots c.2.len : Nat) : Int) ≤ n
     · refine (does_out w hP c.1 id n wv _ rfl _ hn (uh (fun w' V => slots_at w' hb h V c hc ht))).mono ?_
       rintro e w' ⟨rfl, hP'⟩
       exact ⟨rfl, W, B, cs, h, hP'⟩
     · obtain ⟨s, rfl⟩ : ∃ s : Nat, n = s := ⟨n.toNat, by omega⟩
       refine (does_lay w hb hP h c hc ht id s (by omega) wv _ rfl).mono ?_
       rintro e w' ⟨rfl, hP'⟩
       exact ⟨rfl, _, B, cs, slot_in h hc ht (by omega) hw, hP'⟩
   · refine (does_out w hP g id n wv _ rfl 0 (by omega) (uh (fun w' V => slots_no w' hb h V g (fun c hc hx => hg ⟨c, hc, hx⟩)))).mono ?_
     rintro e w' ⟨rfl, hP'⟩
     exact ⟨rfl, W, B, cs, h, hP'⟩
 by_cases h5 : dk = 5
 · subst h5
   refine does_join w hP g id n wv _ rfl _ (uh (fun w' x V => (joins_all w' hb V h 5 g id n wv _ rfl).mono ?_))
   rintro e w2 ⟨rfl, W', h', hP'⟩
   exact ⟨rfl, rfl, W', B, cs, h', hP'.sub (List.sublist_cons_self ..)⟩
 · refine (does_else w hP dk g id n wv _ rfl h0 h1 h2 h3 h5).mono ?_
   rintro e w' ⟨rfl, hP'⟩
   exact ⟨rfl, W, B, cs, h, hP'⟩
def PlayEnd (w w' : World) (L : List Ty) (lao : Option Addr) (lcap : Nat) (e : Ending) : Prop :=
 (e = .returned (.tuple #[.pointer none, .pointer none, .bool true]) ∧ Below w.heap.size w w') ∨
 ∃ (sb rb tb : Nat) (w1 : World) (W B : List Nat) (cs : List Ce), e = .returned (.tuple #[.pointer (some ⟨sb, 0, none⟩), .pointer (some ⟨rb, 0, none⟩), .bool true]) ∧ Below w.heap.size w w1 ∧ PlBase w1 tb L lao lcap ∧ Pl L W B cs ∧ PlAt w1 w' sb tb rb lao lcap L W B W []
def StIn (w : World) (s : Stp) : Prop := s.ats.length ≤ 65536 ∧ s.w < 18446744073709551616 ∧ Src w s.ao s.ats.length s.cap 1 (ints s.ats)
theorem played_no (w : World) (n : Int) (L : List Ty) (lao : Option Addr) (lcap : Nat) (sao : Option Addr) (sl scap : Nat)
  (HM : Hid (Calls Tryz.prog 54 #[.int .i64 n, .slice lao L.length lcap] w fun e w' => e = .returned (.tuple #[.pointer none, .pointer none, .bool true]) ∧ Below w.heap.size w w')) :
  Calls Tryz.prog 10 #[.int .i64 n, .slice lao L.length lcap, .slice sao sl scap] w fun e w' => PlayEnd w w' L lao lcap e := by
 go_enter Tryz.func10, Tryz.ntmps10
 go_wp2_with fail
 refine HM.out.mono ?_
 rintro e w2 ⟨rfl, hB⟩
 have HB := uh hB
 clear hB
 go_wp2_with fail
 refine bodyPost_ret (results_tmp3 rfl _ _ _) rfl ?_
 exact .inl ⟨rfl, HB.out⟩
theorem played_ok (w : World) (hF : Fields w) (L : List Ty) (lao : Option Addr) (lcap : Nat) (hS : Src w lao L.length lcap 3 (tys L)) (hTy : ∀ t ∈ L, TyIn t) (hL : L.length ≤ 1000) (hok : (∀ t ∈ L, t.may) ∧ L.length ≤ 64) (n : Nat) (hn : mayWords n) (hn6 : n ≤ 600)
  (sao : Option Addr) (scap : Nat) (ss : List Stp) (hSt : Src w sao ss.length scap 6 (sts ss)) (hsl : ss.length ≤ 65536) (hin : ∀ s ∈ ss, StIn w s) :
  Calls Tryz.prog 10 #[.int .i64 n, .slice lao L.length lcap, .slice sao ss.length scap] w fun e w' => PlayEnd w w' L lao lcap e := by
 have HM := uh (made_ok w hF L lao lcap hS hTy hL hok n hn)
 have HPl := uh (Pl.new (L := L) (n := n) hok.1 hok.2 hn6 (by have := hn.1; omega) (by have := hn.2.2; omega))
 have HB0 := uh (fun w1 tb tao tcap (hB : Below w.heap.size w w1) (hT : TabAt w1 tb tao tcap L) => (⟨⟨tao, tcap, hT⟩, range_below hF hB, hS.below hB, hTy⟩ : PlBase w1 tb L lao lcap))
 have HF := uh (fun (h : 0 < ss.length) => hSt.form (by rw [sts_length]; omega))
 have HSt := uh hSt
 have Hin := uh (fun i s (hi : ss[i]? = some s) w1 (hB : Below w.heap.size w w1) => (⟨(hin s (List.mem_of_getElem? hi)).1, (hin s (List.mem_of_getElem? hi)).2.1, (hin s (List.mem_of_getElem? hi)).2.2.below hB⟩ : StIn w1 s))
 have hsz : (Tryz.prog.info? 118).map (·.size) = some 6 := by kernel_rfl
 clear hF hS hTy hok hn hSt hin
 go_enter Tryz.func10, Tryz.ntmps10
 go_wp2_with fail
 refine HM.out.mono ?_
 rintro e w2 ⟨sb, rb, tb, w1, tao, tcap, ls, lr, rfl, hB1, hTab, hsp, hri, T2⟩
 have Hb := uh (HB0.out w1 tb tao tcap hB1 hTab)
 have HP2 := uh (⟨ls, lr, hsp, hri, fun x hx => (by cases hx), T2.perm po⟩ : PlAt w1 w2 sb tb rb lao lcap L (lay (List.replicate n 0) 0 (n / 2)) (List.replicate ((n / 2 + 63) / 64) 0) (lay (List.replicate n 0) 0 (n / 2)) [])
 have HB1 := uh hB1
 clear hB1 hTab hsp hri T2 HB0 HM
 go_wp2_with fail
 go_loopw [12] (fun v12 wr => ∃ (i : Nat) (W B : List Nat) (cs : List Ce), i ≤ ss.length ∧ v12 = .int .i64 i ∧ Pl L W B cs ∧ PlAt w1 wr sb tb rb lao lcap L W B W []) (fun v12 _ => ss.length - (intOf v12).toNat)
 case atStart => exact ⟨0, _, _, _, Nat.zero_le _, by go_num, HPl.out, HP2.out⟩
 case round =>
  clear HPl HP2
  obtain ⟨i, W, B, cs, hi, rfl, hpl, hP⟩ := hrel
  by_cases hlt : i < ss.length
  · have hlt' : (i : Int) < (ss.length : Int) := by omega
    obtain ⟨s, hs⟩ : ∃ s, ss[i]? = some s := ⟨ss[i], List.getElem?_eq_getElem hlt⟩
    obtain ⟨b, off, rfl, -⟩ := HF.out (by omega)
    have hBw := HB1.out.trans (hP.below.mono HB1.out.size)
    have hrg : wr.rangeAt b (off + i * 6) (stCells s) := (HSt.out.below hBw).st hs
    have hst := Hin.out i s hs w1 HB1.out
    have HD := uh (does_all wr Hb.out hP hpl s hst.1 hst.2.1 hst.2.2)
    unfold stCells at HD hrg
    clear hs hpl hP hst hBw
    go_wp2_with (first
     | (show lW 118; refine wpList_load_mid rfl 118 _ rfl b (off + i * 6) rfl _ _ hrg Tryz.underlying118 rfl hsz ?_)
     | fail)
    refine HD.out.mono ?_
    rintro e w3 ⟨rfl, W', B', cs', hpl', hP'⟩
    have HR := uh (⟨hpl', hP'⟩ : Pl L W' B' cs' ∧ PlAt w1 w3 sb tb rb lao lcap L W' B' W' [])
    clear hpl' hP' HD hrg
    go_wp2_with fail
    go_roundw
    case rel => exact ⟨i + 1, W', B', cs', by omega, by go_num, HR.out.1, HR.out.2⟩
    case measure => simp [intOf]; omega
  · obtain rfl : i = ss.length := by omega
    have hnl : ¬ ((ss.length : Nat) : Int) < (ss.length : Int) := by omega
    have HR := uh (⟨hpl, hP⟩ : Pl L W B cs ∧ PlAt w1 wr sb tb rb lao lcap L W B W [])
    clear hpl hP
    go_wp2_with fail
    refine bodyPost_ret (results_tmp3 rfl _ _ _) rfl ?_
    exact .inr ⟨sb, rb, tb, w1, W, B, cs, rfl, HB1.out, Hb.out, HR.out.1, HR.out.2⟩
end
section
open Go Go.ChangeShapes Go.WideShapes Go.Deep Go.RowKit
section
variable {H : Type} {enc : TypeId × Value → H} {P : Program} {w : World} {base : Nat} {spare : Nat → Bool} {held : Bool}
theorem open_slice_fields {t e : TypeId} {fs : Array Field} {fuel : Nat} {cs : List Value} {x : DataW H × List MemPlace} (ht : P.underlying t = some (.slice e)) (he : P.underlying e = some (.struct fs))
  (hone : oneCellFields P fs = true) (hC : P.cellsOf e = fs.size) (h : DataW.trod enc P w base spare held fuel t cs = some x) :
  (cs = [.slice none 0 0] ∧ x = (.nil, [])) ∨
  ∃ (a : Addr) (len cap m : Nat) (D : Nat → DataW H) (Pl : Nat → List MemPlace), cs = [.slice (some a) len cap] ∧ base ≤ a.block ∧ len ≤ cap ∧ cap ≤ maxLen ∧ m = (if spare a.block then cap else len) ∧
   x = (.slice ((List.range len).map D) ((List.range (m - len)).map fun j => D (len + j)), MemPlace.row a (m * fs.size) ++ (List.range m).flatMap Pl) ∧
   ∀ i, i < m → ∃ (ys : List (DataW H × List MemPlace)) (n : Nat), D i = .agg (ys.map (·.1)) ∧ Pl i = ys.flatMap (·.2) ∧ ys.length = fs.size ∧
    ∀ (j : Nat) (f : Field), fs[j]? = some f → ∃ (v : Value) (y : DataW H × List MemPlace), w.cell? (a.add (i * fs.size + j)) = some v ∧ ys[j]? = some y ∧ DataW.trod enc P w base spare held n f.type [v] = some y := by
 rcases open_slice ht h with h0 | ⟨a, len, cap, m, n, D, Pl, hcs, hb, hl, hm, hmm, hx, hi⟩
 · exact .inl h0
 · refine .inr ⟨a, len, cap, m, D, Pl, hcs, hb, hl, hm, hmm, by rw [hC] at hx; exact hx, fun i him => ?_⟩
   obtain ⟨cs', hc, ht'⟩ := hi i him
   rw [hC] at hc
   obtain ⟨ys, n', hn', hy, hlen, hyl, hf⟩ := DataW.trod_struct he ht'
   obtain ⟨_, hcl, hat⟩ := World.cells?_some hc
   simp only [Prod.mk.injEq] at hy
   refine ⟨ys, n', hy.1, hy.2, hyl, fun j f hj => ?_⟩
   obtain ⟨ho, hk⟩ := hone_of hone j f hj
   have hjl : j < fs.size := (Array.getElem?_eq_some_iff.1 hj).1
   have hcell := hat j hjl
   have hv : cs'[j]? = some (cs'[j]'(by omega)) := List.getElem?_eq_getElem (by omega)
   have h1 := hf j f hj
   rw [ho, hk] at h1
   have hone' : (cs'.drop j).take 1 = [cs'[j]'(by omega)] := by
    rw [List.drop_eq_getElem_cons (by omega)]
    rfl
   rw [hone'] at h1
   have hys : ys[j]? = some (ys[j]'(by omega)) := List.getElem?_eq_getElem (by omega)
   refine ⟨_, _, ?_, hys, h1.trans hys⟩
   rw [← Go.Deep.add_add, hcell, hv]
end
theorem list_of {α : Type} {P : Nat → α → Prop} (n : Nat) (h : ∀ k, k < n → ∃ x, P k x) : ∃ L : List α, L.length = n ∧ ∀ k x, L[k]? = some x → P k x := by
 induction n with
 | zero => exact ⟨[], rfl, fun k x hx => by simp at hx⟩
 | succ n ih =>
  obtain ⟨L, hl, hL⟩ := ih fun k hk => h k (by omega)
  obtain ⟨x, hx⟩ := h n (by omega)
  refine ⟨L ++ [x], by simp [hl], fun k y hy => ?_⟩
  by_cases hk : k < n
  · rw [List.getElem?_append_left (by omega)] at hy
    exact hL k y hy
  · have hlt := (List.getElem?_eq_some_iff.1 hy).1
    rw [List.length_append, List.length_singleton] at hlt
    have hkn : k = n := by omega
    subst hkn
    rw [List.getElem?_append_right (by omega), hl, Nat.sub_self] at hy
    simp at hy
    rw [← hy]
    exact hx
end
section
open Go Go.RowKit Go.ChangeShapes Go.WideShapes Go.ChangeAt Go.Deep
theorem cells_type : Tryz.prog.cellsOf 49 = 3 := by kernel_rfl
theorem cells_step9 : Tryz.prog.cellsOf 118 = 6 := by kernel_rfl
theorem bytes_int : Tryz.prog.bytesOf 3 = 8 := by kernel_rfl
theorem cells_int1 : Tryz.prog.cellsOf 3 = 1 := by kernel_rfl
theorem weightsAll_in {H : Type} {P : Program} {e : TypeId} {d : DataW H} {n : Nat} (hn : n ∈ d.weights P e) : ∀ {ds : List (DataW H)}, d ∈ ds → n ∈ DataW.weightsAll P e ds
 | d0 :: ds, hd => by
  simp only [DataW.weightsAll, List.mem_append]
  rcases List.mem_cons.1 hd with rfl | hd
  · exact .inl hn
  · exact .inr (weightsAll_in hn hd)
theorem open_types {H : Type} {enc : TypeId × Value → H} {w : World} {ao : Option Addr} {len cap fuel : Nat} {d : DataW H} {p : List MemPlace}
  (h : DataW.trod enc Tryz.prog w 0 (fun _ => true) true fuel 22 (Value.cells (.slice ao len cap)).toList = some (d, p)) :
  ∃ L : List Ty, (∀ t ∈ L, TyIn t) ∧ Src w ao len cap 3 (tys L) ∧ L.length = len ∧ len ≤ cap ∧ cap ≤ maxLen := by
 rcases open_slice_fields Tryz.underlying22 Tryz.underlying49 (by kernel_rfl) cells_type h with ⟨hcs, hx⟩ | ⟨a, len', cap', m, D, Pl, hcs, hb, hl, hm, hmm, hx, hcell⟩
 · simp [Value.cells] at hcs
   obtain ⟨rfl, rfl, rfl⟩ := hcs
   exact ⟨[], (fun _ h => by cases h), ⟨rfl, (fun _ => ⟨rfl, rfl⟩), (fun ad h => by cases h)⟩, rfl, Nat.le_refl _, Nat.zero_le _⟩
 · simp [Value.cells] at hcs
   obtain ⟨rfl, rfl, rfl⟩ := hcs
   simp only [if_true] at hmm
   subst hmm
   have hall : ∀ k, k < len → ∃ t : Ty, TyIn t ∧ w.cell? (a.add (k * 3)) = some (.int .u8 t.kind) ∧ w.cell? (a.add (k * 3 + 1)) = some (.int .i64 t.words) ∧ w.cell? (a.add (k * 3 + 2)) = some (.int .u64 t.mask) := by
    intro k hk
    obtain ⟨ys, n, -, -, -, hf⟩ := hcell k (by omega)
    obtain ⟨v0, y0, c0, -, t0⟩ := hf 0 _ rfl
    obtain ⟨v1, y1, c1, -, t1⟩ := hf 1 _ rfl
    obtain ⟨v2, y2, c2, -, t2⟩ := hf 2 _ rfl
    obtain ⟨x0, e0, -, b0⟩ := DataW.trod_int Tryz.underlying5 t0
    obtain ⟨x1, e1, -, b1⟩ := DataW.trod_int Tryz.underlying3 t1
    obtain ⟨x2, e2, -, b2⟩ := DataW.trod_int Tryz.underlying47 t2
    simp at e0 e1 e2
    subst e0; subst e1; subst e2
    have h0 := bounds_u8 b0
    have h1 := bounds_i64 b1
    have h2 := bounds_u64 b2
    obtain ⟨z0, rfl⟩ := Int.eq_ofNat_of_zero_le h0.1
    obtain ⟨z2, rfl⟩ := Int.eq_ofNat_of_zero_le h2.1
    refine ⟨⟨z0, x1, z2⟩, ⟨?_, ?_, ?_, ?_⟩, c0, c1, c2⟩
    · show z0 ≤ 255; omega
    · show _ ≤ x1; omega
    · show x1 ≤ _; omega
    · show z2 < _; omega
   obtain ⟨L, hL, hP⟩ := list_of len hall
   refine ⟨L, fun t ht => ?_, ⟨by rw [tys_length, hL], (by intro h; cases h), fun ad had j u hu => ?_⟩, hL, hl, hm⟩
   · obtain ⟨k, hk⟩ := List.getElem?_of_mem ht
     exact (hP k t hk).1
   · cases had
     have hjl : j < L.length * 3 := by rw [← tys_length]; exact (List.getElem?_eq_some_iff.1 hu).1
     have hj : j = j / 3 * 3 + j % 3 := (Nat.div_add_mod' j 3).symm
     have h3 : j % 3 < 3 := Nat.mod_lt _ (by omega)
     obtain ⟨t, ht⟩ : ∃ t, L[j / 3]? = some t := ⟨L[j / 3]'(by omega), List.getElem?_eq_getElem _⟩
     obtain ⟨-, q0, q1, q2⟩ := hP _ t ht
     rw [hj, tys_get ht h3] at hu
     rw [hj]
     have hc : j % 3 = 0 ∨ j % 3 = 1 ∨ j % 3 = 2 := by omega
     rcases hc with e | e | e <;> rw [e] at hu ⊢ <;> cases hu
     · exact q0
     · exact q1
     · exact q2
theorem open_steps9 {H : Type} {enc : TypeId × Value → H} {w : World} {ao : Option Addr} {len cap fuel : Nat} {d : DataW H} {p : List MemPlace}
  (h : DataW.trod enc Tryz.prog w 0 (fun _ => true) true fuel 23 (Value.cells (.slice ao len cap)).toList = some (d, p)) (hw : ∀ n ∈ d.weights Tryz.prog 23, n ≤ reachBytes) :
  ∃ ss : List Stp, Src w ao len cap 6 (sts ss) ∧ ss.length = len ∧ len ≤ maxLen ∧ ∀ s ∈ ss, s.w < 18446744073709551616 ∧ Src w s.ao s.ats.length s.cap 1 (ints s.ats) ∧ s.ats.length ≤ 17592186044416 := by
 rcases open_slice_fields Tryz.underlying23 Tryz.underlying118 (by kernel_rfl) cells_step9 h with ⟨hcs, hx⟩ | ⟨a, len', cap', m, D, Pl, hcs, hb, hl, hm, hmm, hx, hcell⟩
 · simp [Value.cells] at hcs
   obtain ⟨rfl, rfl, rfl⟩ := hcs
   exact ⟨[], ⟨rfl, (fun _ => ⟨rfl, rfl⟩), (fun ad h => by cases h)⟩, rfl, Nat.zero_le _, (fun _ h => by cases h)⟩
 · simp [Value.cells] at hcs
   obtain ⟨rfl, rfl, rfl⟩ := hcs
   simp only [Prod.mk.injEq] at hx
   simp only [if_true] at hmm
   subst hmm
   obtain ⟨rfl, -⟩ := hx
   have hall : ∀ k, k < len → ∃ s : Stp, (∀ j v, (stCells s)[j]? = some v → w.cell? (a.add (k * 6 + j)) = some v) ∧ s.w < 18446744073709551616 ∧ Src w s.ao s.ats.length s.cap 1 (ints s.ats) ∧ s.ats.length ≤ 17592186044416 := by
    intro k hk
    obtain ⟨ys, n, hD, -, -, hf⟩ := hcell k (by omega)
    obtain ⟨v0, y0, c0, -, t0⟩ := hf 0 _ rfl
    obtain ⟨v1, y1, c1, -, t1⟩ := hf 1 _ rfl
    obtain ⟨v2, y2, c2, -, t2⟩ := hf 2 _ rfl
    obtain ⟨v3, y3, c3, -, t3⟩ := hf 3 _ rfl
    obtain ⟨v4, y4, c4, -, t4⟩ := hf 4 _ rfl
    obtain ⟨v5, y5, c5, hy5, t5⟩ := hf 5 _ rfl
    obtain ⟨x0, e0, -, -⟩ := DataW.trod_int Tryz.underlying3 t0
    obtain ⟨x1, e1, -, -⟩ := DataW.trod_int Tryz.underlying3 t1
    obtain ⟨x2, e2, -, -⟩ := DataW.trod_int Tryz.underlying3 t2
    obtain ⟨x3, e3, -, -⟩ := DataW.trod_int Tryz.underlying3 t3
    obtain ⟨x4, e4, -, b4⟩ := DataW.trod_int Tryz.underlying47 t4
    simp at e0 e1 e2 e3 e4
    subst e0; subst e1; subst e2; subst e3; subst e4
    have h4 := bounds_u64 b4
    obtain ⟨z4, rfl⟩ := Int.eq_ofNat_of_zero_le h4.1
    have hz4 : z4 < 18446744073709551616 := by omega
    have cells : ∀ (s : Stp), s.dk = x0 → s.g = x1 → s.id = x2 → s.n = x3 → s.w = z4 → v5 = .slice s.ao s.ats.length s.cap → ∀ j v, (stCells s)[j]? = some v → w.cell? (a.add (k * 6 + j)) = some v := by
     intro s r0 r1 r2 r3 r4 r5 j v hv
     subst r0; subst r1; subst r2; subst r3; subst r4; subst r5
     have hj : j < 6 := (List.getElem?_eq_some_iff.1 hv).1
     have hc : j = 0 ∨ j = 1 ∨ j = 2 ∨ j = 3 ∨ j = 4 ∨ j = 5 := by omega
     rcases hc with rfl | rfl | rfl | rfl | rfl | rfl <;> cases hv
     · exact c0
     · exact c1
     · exact c2
     · exact c3
     · exact c4
     · exact c5
    rcases open_ints Tryz.underlying38 Tryz.underlying3 cells_int1 t5 with ⟨hv, -⟩ | ⟨a5, n5, c5', zs, hv, -, hl5, hm5, hzl, hy, hat, -⟩
    · simp at hv
      subst hv
      exact ⟨⟨x0, x1, x2, x3, z4, [], none, 0⟩, cells _ rfl rfl rfl rfl rfl rfl, hz4, ⟨rfl, (fun _ => ⟨rfl, rfl⟩), (fun ad h => by cases h)⟩, by show 0 ≤ _; omega⟩
    · simp at hv
      subst hv
      simp only [if_true] at hzl
      have h8 : n5 * 8 ≤ reachBytes := by
       have hd5 : y5.1 = .slice (lits .i64 (zs.take n5)) (lits .i64 (zs.drop n5)) := by rw [hy]
       have hw5 : ((lits (H := H) .i64 (zs.take n5)).length + (lits (H := H) .i64 (zs.drop n5)).length) * Tryz.prog.bytesOf 3 ∈ (y5.1).weights Tryz.prog 38 := by
        rw [hd5]
        simp [DataW.weights, Tryz.underlying38]
       have hag : ((lits (H := H) .i64 (zs.take n5)).length + (lits (H := H) .i64 (zs.drop n5)).length) * Tryz.prog.bytesOf 3 ∈ (D k).weights Tryz.prog 118 := by
        rw [hD]
        simp only [DataW.weights, Tryz.underlying118]
        exact DataW.weights_mem_each (j := 5) (t := 38) (d := y5.1) rfl (by rw [List.getElem?_map, hy5]; rfl) _ hw5
       have hall := hw _ (by
        simp only [DataW.weights, Tryz.underlying23]
        exact List.mem_cons_of_mem _ (List.mem_append_left _ (weightsAll_in hag (List.mem_map.2 ⟨k, List.mem_range.2 hk, rfl⟩))))
       rw [bytes_int] at hall
       have hl1 : (lits (H := H) .i64 (zs.take n5)).length = n5 := by simp [lits]; omega
       rw [hl1] at hall
       have h2 := Nat.mul_le_mul_right 8 (Nat.le_add_right n5 (lits (H := H) .i64 (zs.drop n5)).length)
       omega
      have hlen : (zs.take n5).length = n5 := by rw [List.length_take]; omega
      refine ⟨⟨x0, x1, x2, x3, z4, zs.take n5, some a5, c5'⟩, cells _ rfl rfl rfl rfl rfl (by rw [hlen]), hz4, ⟨by simp [ints], (fun h => by cases h), fun ad had j u hj => ?_⟩, ?_⟩
      · cases had
        have hjl : j < (zs.take n5).length := by have := (List.getElem?_eq_some_iff.1 hj).1; simpa [ints] using this
        have hjz : j < zs.length := by rw [List.length_take] at hjl; omega
        rw [hat j hjz]
        simp only [ints, List.getElem?_map] at hj
        rw [List.getElem?_take_of_lt (by rw [List.length_take] at hjl; omega), List.getElem?_eq_getElem hjz] at hj
        simp at hj
        rw [← hj]
        simp [hjz]
      · show (zs.take n5).length ≤ _
        rw [hlen]
        simp only [reachBytes] at h8
        omega
   obtain ⟨ss, hL, hP⟩ := list_of len hall
   refine ⟨ss, ⟨by rw [sts_length, hL], (by intro h; cases h), fun ad had j u hu => ?_⟩, hL, Nat.le_trans hl hm, fun s hs => ?_⟩
   · cases had
     have hjl : j < ss.length * 6 := by rw [← sts_length]; exact (List.getElem?_eq_some_iff.1 hu).1
     have hj : j = j / 6 * 6 + j % 6 := (Nat.div_add_mod' j 6).symm
     have h6 : j % 6 < 6 := Nat.mod_lt _ (by omega)
     obtain ⟨s, hs⟩ : ∃ s, ss[j / 6]? = some s := ⟨ss[j / 6]'(by omega), List.getElem?_eq_getElem _⟩
     rw [hj, sts_get hs h6] at hu
     rw [hj]
     exact (hP _ s hs).1 _ _ hu
   · obtain ⟨k, hk⟩ := List.getElem?_of_mem hs
     exact (hP k s hk).2
end
end Go.Proofs.YtbecgkejdacidaaGreatDoor
namespace Go.Proofs
open Go.Shelf
def Tryz.lays169_ren : Go.Shelf.Ren := ⟨fun | 169 => 133 | n => n, fun | 70 => 240 | 9 => 9 | 0 => 0 | 72 => 242 | 37 => 95 | 127 => 323 | 3 => 3 | 5 => 5 | n => n, fun | n => n⟩
theorem Tryz.lays169 : Go.Proofs.Lays.n169 Tryz.prog Tryz.lays169_ren := {
 mixed := by kernel_rfl
 f169 := Tryz.func133.trans (congrArg some (by kernel_rfl))
 t0 := Tryz.underlying0
 a0 := Tryz.isAgg0
 z0 := Tryz.sizeOf0
 v0 := Tryz.zeroValue0
 t3 := Tryz.underlying3
 a3 := Tryz.isAgg3
 z3 := Tryz.sizeOf3
 v3 := Tryz.zeroValue3
 t9 := Tryz.underlying9
 a9 := Tryz.isAgg9
 z9 := Tryz.sizeOf9
 v9 := Tryz.zeroValue9
 t37 := Tryz.underlying95
 a37 := Tryz.isAgg95
 z37 := Tryz.sizeOf95
 v37 := Tryz.zeroValue95
 t70 := Tryz.underlying240
 a70 := Tryz.isAgg240
 z70 := Tryz.sizeOf240
 v70 := Tryz.zeroValue240
 t72 := Tryz.underlying242
 a72 := Tryz.isAgg242
 z72 := Tryz.sizeOf242
 v72 := Tryz.zeroValue242
 t127 := Tryz.underlying323
 a127 := Tryz.isAgg323
 z127 := Tryz.sizeOf323
 v127 := Tryz.zeroValue323 }
def Tryz.laysM171_ren : Go.Shelf.Ren := ⟨fun | 171 => 106 | 243 => 173 | 246 => 222 | 283 => 223 | 284 => 224 | 285 => 225 | 286 => 226 | 129 => 258 | 317 => 260 | 318 => 261 | 319 => 262 | 320 => 263 | 337 => 283 | 338 => 284 | n => n, fun | 3 => 3 | 9 => 9 | 2 => 2 | 4 => 4 | 171 => 352 | 0 => 0 | 53 => 47 | 37 => 95 | 5 => 5 | 173 => 354 | 212 => 386 | 51 => 383 | 20 => 20 | 213 => 387 | 46 => 40 | 232 => 416 | 233 => 417 | n => n, fun | 17 => 1 | 18 => 3 | 19 => 4 | n => n⟩
theorem Tryz.laysM171 : Go.Proofs.LaysM.n171 Tryz.prog Tryz.laysM171_ren := {
 mixed := by kernel_rfl
 f129 := Tryz.func258.trans (congrArg some (by kernel_rfl))
 f171 := Tryz.func106.trans (congrArg some (by kernel_rfl))
 f243 := Tryz.func173.trans (congrArg some (by kernel_rfl))
 f246 := Tryz.func222.trans (congrArg some (by kernel_rfl))
 f283 := Tryz.func223.trans (congrArg some (by kernel_rfl))
 f284 := Tryz.func224.trans (congrArg some (by kernel_rfl))
 f285 := Tryz.func225.trans (congrArg some (by kernel_rfl))
 f286 := Tryz.func226.trans (congrArg some (by kernel_rfl))
 f317 := Tryz.func260.trans (congrArg some (by kernel_rfl))
 f318 := Tryz.func261.trans (congrArg some (by kernel_rfl))
 f319 := Tryz.func262.trans (congrArg some (by kernel_rfl))
 f320 := Tryz.func263.trans (congrArg some (by kernel_rfl))
 f337 := Tryz.func283.trans (congrArg some (by kernel_rfl))
 f338 := Tryz.func284.trans (congrArg some (by kernel_rfl))
 t0 := Tryz.underlying0
 a0 := Tryz.isAgg0
 z0 := Tryz.sizeOf0
 v0 := Tryz.zeroValue0
 t2 := Tryz.underlying2
 a2 := Tryz.isAgg2
 z2 := Tryz.sizeOf2
 v2 := Tryz.zeroValue2
 t3 := Tryz.underlying3
 a3 := Tryz.isAgg3
 z3 := Tryz.sizeOf3
 v3 := Tryz.zeroValue3
 t4 := Tryz.underlying4
 a4 := Tryz.isAgg4
 z4 := Tryz.sizeOf4
 v4 := Tryz.zeroValue4
 t5 := Tryz.underlying5
 a5 := Tryz.isAgg5
 z5 := Tryz.sizeOf5
 v5 := Tryz.zeroValue5
 t9 := Tryz.underlying9
 a9 := Tryz.isAgg9
 z9 := Tryz.sizeOf9
 v9 := Tryz.zeroValue9
 t20 := Tryz.underlying20
 a20 := Tryz.isAgg20
 z20 := Tryz.sizeOf20
 v20 := Tryz.zeroValue20
 t37 := Tryz.underlying95
 a37 := Tryz.isAgg95
 z37 := Tryz.sizeOf95
 v37 := Tryz.zeroValue95
 t46 := Tryz.underlying40
 a46 := Tryz.isAgg40
 z46 := Tryz.sizeOf40
 v46 := Tryz.zeroValue40
 t51 := Tryz.underlying383
 a51 := Tryz.isAgg383
 z51 := Tryz.sizeOf383
 v51 := Tryz.zeroValue383
 t53 := Tryz.underlying47
 a53 := Tryz.isAgg47
 z53 := Tryz.sizeOf47
 v53 := Tryz.zeroValue47
 t171 := Tryz.underlying352
 a171 := Tryz.isAgg352
 z171 := Tryz.sizeOf352
 v171 := Tryz.zeroValue352
 t173 := Tryz.underlying354
 a173 := Tryz.isAgg354
 z173 := Tryz.sizeOf354
 v173 := Tryz.zeroValue354
 t212 := Tryz.underlying386
 a212 := Tryz.isAgg386
 z212 := Tryz.sizeOf386
 v212 := Tryz.zeroValue386
 t213 := Tryz.underlying387
 a213 := Tryz.isAgg387
 z213 := Tryz.sizeOf387
 t232 := Tryz.underlying416
 a232 := Tryz.isAgg416
 z232 := Tryz.sizeOf416
 v232 := Tryz.zeroValue416
 t233 := Tryz.underlying417
 a233 := Tryz.isAgg417
 z233 := Tryz.sizeOf417
 v233 := Tryz.zeroValue417
 g17 := by kernel_rfl
 g18 := by kernel_rfl
 g19 := by kernel_rfl
 i0 := by kernel_rfl
 i2 := by kernel_rfl
 i3 := by kernel_rfl
 i4 := by kernel_rfl
 i5 := by kernel_rfl
 i9 := by kernel_rfl
 i20 := by kernel_rfl
 i37 := by kernel_rfl
 i46 := by kernel_rfl
 i51 := by kernel_rfl
 i53 := by kernel_rfl
 i171 := by kernel_rfl
 i173 := by kernel_rfl
 i212 := by kernel_rfl
 i232 := by kernel_rfl
 i233 := by kernel_rfl
 m17 := by kernel_rfl
 m18 := by kernel_rfl
 m19 := by kernel_rfl }
def Tryz.keysA_ren : Go.Shelf.Ren := ⟨fun | 7 => 145 | 10 => 200 | n => n, fun | 23 => 131 | 26 => 3 | 3 => 133 | 28 => 257 | 0 => 0 | 27 => 256 | 33 => 155 | 4 => 4 | n => n, fun | n => n⟩
def Tryz.sortedA_ren : Go.Shelf.Ren := ⟨fun | 6 => 144 | 8 => 198 | 9 => 199 | 11 => 241 | 13 => 220 | 12 => 242 | 23 => 257 | 24 => 258 | 14 => 267 | 15 => 268 | 16 => 269 | 17 => 270 | 18 => 271 | 19 => 272 | 20 => 273 | 21 => 274 | 22 => 275 | 25 => 288 | 26 => 278 | 27 => 279 | 28 => 289 | 29 => 290 | 30 => 291 | 31 => 302 | n => n, fun | 26 => 3 | 28 => 257 | 24 => 38 | 0 => 0 | 3 => 3 | 37 => 40 | 48 => 383 | 50 => 47 | 4 => 4 | 40 => 376 | 39 => 375 | 45 => 281 | 5 => 5 | 9 => 9 | 51 => 398 | 55 => 402 | 57 => 413 | 58 => 414 | 33 => 155 | n => n, fun | n => n⟩
def Tryz.sortA_ren : Go.Shelf.Ren := ⟨fun | 5 => 199 | 8 => 220 | 7 => 242 | 19 => 257 | 20 => 258 | 10 => 267 | 11 => 268 | 12 => 269 | 13 => 270 | 14 => 271 | 15 => 272 | 16 => 273 | 17 => 274 | 18 => 275 | 30 => 288 | 31 => 278 | 32 => 279 | 33 => 289 | 34 => 290 | 35 => 291 | 40 => 302 | n => n, fun | 23 => 38 | 25 => 3 | 3 => 3 | 32 => 40 | 22 => 38 | 0 => 0 | 44 => 383 | 46 => 47 | 4 => 4 | 36 => 376 | 35 => 375 | 41 => 281 | 5 => 5 | 9 => 9 | 53 => 398 | 57 => 402 | 63 => 413 | 64 => 414 | n => n, fun | n => n⟩
theorem Tryz.sortA : Go.Proofs.SlLaysM.n5 Tryz.prog Tryz.sortA_ren := {
 mixed := by kernel_rfl
 f5 := ⟨Tryz.f199.name, by decide, Tryz.func199.trans (congrArg some (by kernel_rfl))⟩
 f7 := ⟨Tryz.f242.name, by decide, Tryz.func242.trans (congrArg some (by kernel_rfl))⟩
 f8 := Tryz.func220.trans (congrArg some (by kernel_rfl))
 f10 := ⟨Tryz.f267.name, by decide, Tryz.func267.trans (congrArg some (by kernel_rfl))⟩
 f11 := ⟨Tryz.f268.name, by decide, Tryz.func268.trans (congrArg some (by kernel_rfl))⟩
 f12 := ⟨Tryz.f269.name, by decide, Tryz.func269.trans (congrArg some (by kernel_rfl))⟩
 f13 := ⟨Tryz.f270.name, by decide, Tryz.func270.trans (congrArg some (by kernel_rfl))⟩
 f14 := ⟨Tryz.f271.name, by decide, Tryz.func271.trans (congrArg some (by kernel_rfl))⟩
 f15 := ⟨Tryz.f272.name, by decide, Tryz.func272.trans (congrArg some (by kernel_rfl))⟩
 f16 := ⟨Tryz.f273.name, by decide, Tryz.func273.trans (congrArg some (by kernel_rfl))⟩
 f17 := ⟨Tryz.f274.name, by decide, Tryz.func274.trans (congrArg some (by kernel_rfl))⟩
 f18 := ⟨Tryz.f275.name, by decide, Tryz.func275.trans (congrArg some (by kernel_rfl))⟩
 f19 := Tryz.func257.trans (congrArg some (by kernel_rfl))
 f20 := Tryz.func258.trans (congrArg some (by kernel_rfl))
 f30 := ⟨Tryz.f288.name, by decide, Tryz.func288.trans (congrArg some (by kernel_rfl))⟩
 f31 := Tryz.func278.trans (congrArg some (by kernel_rfl))
 f32 := Tryz.func279.trans (congrArg some (by kernel_rfl))
 f33 := ⟨Tryz.f289.name, by decide, Tryz.func289.trans (congrArg some (by kernel_rfl))⟩
 f34 := ⟨Tryz.f290.name, by decide, Tryz.func290.trans (congrArg some (by kernel_rfl))⟩
 f35 := ⟨Tryz.f291.name, by decide, Tryz.func291.trans (congrArg some (by kernel_rfl))⟩
 f40 := ⟨Tryz.f302.name, by decide, Tryz.func302.trans (congrArg some (by kernel_rfl))⟩
 t0 := Tryz.underlying0
 a0 := Tryz.isAgg0
 z0 := Tryz.sizeOf0
 v0 := Tryz.zeroValue0
 t3 := Tryz.underlying3
 a3 := Tryz.isAgg3
 z3 := Tryz.sizeOf3
 v3 := Tryz.zeroValue3
 t4 := Tryz.underlying4
 a4 := Tryz.isAgg4
 z4 := Tryz.sizeOf4
 v4 := Tryz.zeroValue4
 t5 := Tryz.underlying5
 a5 := Tryz.isAgg5
 z5 := Tryz.sizeOf5
 v5 := Tryz.zeroValue5
 t9 := Tryz.underlying9
 a9 := Tryz.isAgg9
 z9 := Tryz.sizeOf9
 v9 := Tryz.zeroValue9
 t22 := Tryz.underlying38
 a22 := Tryz.isAgg38
 z22 := Tryz.sizeOf38
 v22 := Tryz.zeroValue38
 t23 := Tryz.underlying38
 a23 := Tryz.isAgg38
 z23 := Tryz.sizeOf38
 v23 := Tryz.zeroValue38
 t25 := Tryz.underlying3
 a25 := Tryz.isAgg3
 z25 := Tryz.sizeOf3
 v25 := Tryz.zeroValue3
 t32 := Tryz.underlying40
 a32 := Tryz.isAgg40
 z32 := Tryz.sizeOf40
 v32 := Tryz.zeroValue40
 t35 := Tryz.underlying375
 a35 := Tryz.isAgg375
 z35 := Tryz.sizeOf375
 v35 := Tryz.zeroValue375
 t36 := Tryz.underlying376
 a36 := Tryz.isAgg376
 z36 := Tryz.sizeOf376
 v36 := Tryz.zeroValue376
 t41 := Tryz.underlying281
 a41 := Tryz.isAgg281
 z41 := Tryz.sizeOf281
 v41 := Tryz.zeroValue281
 t44 := Tryz.underlying383
 a44 := Tryz.isAgg383
 z44 := Tryz.sizeOf383
 v44 := Tryz.zeroValue383
 t46 := Tryz.underlying47
 a46 := Tryz.isAgg47
 z46 := Tryz.sizeOf47
 v46 := Tryz.zeroValue47
 t53 := Tryz.underlying398
 a53 := Tryz.isAgg398
 z53 := Tryz.sizeOf398
 v53 := Tryz.zeroValue398
 t57 := Tryz.underlying402
 a57 := Tryz.isAgg402
 z57 := Tryz.sizeOf402
 v57 := Tryz.zeroValue402
 t63 := Tryz.underlying413
 a63 := Tryz.isAgg413
 z63 := Tryz.sizeOf413
 v63 := Tryz.zeroValue413
 t64 := Tryz.underlying414
 a64 := Tryz.isAgg414
 z64 := Tryz.sizeOf414
 v64 := Tryz.zeroValue414 }
end Go.Proofs
namespace Go.Proofs
open Go.Shelf
theorem Tryz.Builder_Extra_169 : Builder.Extra Tryz.prog Tryz.lays169_ren := {
 sizeBuilder := by kernel_rfl
 liesBuilder := by kernel_rfl
 t5 := Tryz.underlying5
 a5 := Tryz.isAgg5
 z5 := Tryz.sizeOf5
 v5 := Tryz.zeroValue5
 infoByte := by kernel_rfl
 cellsByte := by kernel_rfl
 sizeByte := by kernel_rfl
 neB5 := by decide }
open Go.RowKit in
theorem Tryz.Builder_String_any (B b : Nat) (l : List UInt8) (w : World) (h : Lib.IsBuilder 242 5 B b (Lib.byteCells l) w) (hBw : B ≤ w.heap.size) :
  Calls Tryz.prog 133 #[.pointer (some ⟨b, 0, none⟩)] w fun e w' => e = .returned (.string ⟨l.toArray⟩) ∧ Below B w w' := Any.Builder_String_any Tryz.lays169 Tryz.Builder_Extra_169 B b l w h hBw
open Go.RowKit Go.Sort Go.Lib in
theorem Tryz.strconv_Itoa (n : Int) (h0 : -9223372036854775808 ≤ n) (h1 : n ≤ 9223372036854775807) (w : World) (htab : Lib.TabIs Tryz.prog w "internal/strconv.uint64pow10" .u64 Lib.pow10Tab) :
  Calls Tryz.prog 106 #[.int .i64 n] w fun e w' => e = .returned (.string ⟨(Lib.itoa n).toArray⟩) ∧ ∃ k os, w' = grow (w.drewN k) os := Any.strconv_Itoa Tryz.laysM171 n h0 h1 w htab
end Go.Proofs
namespace Go.Proofs.YtbecgkejdacidaaGreatDoor
section
open Go Go.RowKit Go.Shelf
theorem bcheck (B b : Nat) (bs : List Value) (w : World) (h : Lib.IsBuilder 242 5 B b bs w) :
  Calls Tryz.prog 190 #[.pointer (some ⟨b, 0, none⟩)] w fun e w' => e = .returned (.tuple #[]) ∧ (Lib.BuilderAt 242 5 B b (.pointer (some ⟨b, 0, none⟩)) bs w' ∧ Below B w w') := by
 obtain ⟨j, hj, hjs⟩ := Option.map_eq_some_iff.1 (show (Tryz.prog.info? 242).map (·.size) = some 2 by kernel_rfl)
 rcases h with h | h
 · have h0 := h.cell0
   have hsh := h.shape
   have hfz := h.frozen0
   have H := uh h
   clear h
   go_enter Tryz.func190, Tryz.ntmps190
   go_wp2
   rw [Lib.run_to_unsafe w ⟨b, 0, none⟩ Tryz.underlying240 Tryz.underlying362 hj (by rw [hjs]; decide) hsh (Nat.zero_lt_succ 1)]
   simp only [Result.andThen]
   rw [Oper.upon_value]
   go_wp2
   rw [run_callFunc_extern Tryz.func234 (by kernel_rfl) (by kernel_rfl) (by kernel_rfl) (e := Extern.AbiNoEscape.same) (by kernel_rfl)]
   rw [Lib.run_noEscape]
   simp only [Result.andThen]
   rw [Oper.upon_value]
   go_wp2
   rw [Lib.run_from_unsafe w ⟨b, 0, none⟩ Tryz.underlying362 Tryz.underlying240 hj hsh (by kernel_rfl)]
   simp only [Result.andThen]
   rw [Oper.upon_value]
   go_wp2
   go_end0
   exact ⟨rfl, H.out.used _, (Below.refl B w).setCell (p := ⟨b, 0, none⟩) H.out.1 _⟩
 · have h0 := h.cell0
   have H := uh h
   clear h
   go_enter Tryz.func190, Tryz.ntmps190
   go_wp2
   rw [Lib.run_neq_ptr_same w _ Tryz.underlying240 hj]
   go_wp2
   go_end0
   exact ⟨rfl, H.out, Below.refl B _⟩
theorem bwrite (B b : Nat) (bs : List Value) (s : ByteArray) (w : World) (h : Lib.IsBuilder 242 5 B b bs w) (hlen : bs.length + s.size ≤ 140737488355328) (hBw : B ≤ w.heap.size) :
  Calls Tryz.prog 131 #[.pointer (some ⟨b, 0, none⟩), .string s] w fun e w' => e = .returned (.tuple #[.int .i64 s.size, .nilIface]) ∧ (Lib.BuilderAt 242 5 B b (.pointer (some ⟨b, 0, none⟩)) (bs ++ Lib.strCells s) w' ∧ Below B w w') := by
 obtain ⟨i0, hi, hz0, hz1, hz2⟩ := info_parts (show (Tryz.prog.info? 5).map (fun i => (i.zero, i.size, i.bytes)) = some (some (.int .u8 0), 1, 1) by kernel_rfl)
 go_enter Tryz.func131, Tryz.ntmps131
 go_wp2_with fail
 refine (bcheck B b bs _ h).mono ?_
 rintro e w1 ⟨rfl, h1, hb1⟩
 obtain ⟨hB, v, hbk, hown, hne⟩ := h1
 have c0 : w1.cell? ⟨b, 0, none⟩ = some (.pointer (some ⟨b, 0, none⟩)) := by rw [Lib.cell_of_heap hbk]; rfl
 have c1 : w1.cell? ⟨b, 1, none⟩ = some v := by rw [Lib.cell_of_heap hbk]; rfl
 go_wp2_with (at_builtin; refine Lib.wpList_append_own_string _ rfl _ _ 95 9 rfl B 5 i0 Tryz.underlying95 Tryz.underlying9 hi hz0 hz1 hz2 _ _ _ rfl hown s rfl ?c3 ?c4 ?c5 ?_)
 case c3 => unfold maxLen; omega
 case c4 => omega
 case c5 => have := hb1.size; omega
 intro v' w2 hown' hgrow _
 have hlt : b < w1.heap.size := by
  rcases Nat.lt_or_ge b w1.heap.size with h' | h'
  · exact h'
  · simp [Array.getElem?_eq_none h'] at hbk
 have hb2 : w2.heap[b]? = some (.cells #[.pointer (some ⟨b, 0, none⟩), v] 242 (0, 0)) := by
  rw [hgrow.block b hlt (fun e => hne e.symm)]
  exact hbk
 have d0 : w2.cell? ⟨b, 0, none⟩ = some (.pointer (some ⟨b, 0, none⟩)) := by rw [Lib.cell_of_heap hb2]; rfl
 have d1 : w2.cell? ⟨b, 1, none⟩ = some v := by rw [Lib.cell_of_heap hb2]; rfl
 have f1 : w2.frozen? ⟨b, 1, none⟩ = false := Lib.frozen_of_heap hb2 1
 obtain ⟨ao, n', cap, rfl⟩ : ∃ ao n' cap, v' = .slice ao n' cap := by
  rcases hown'.2 with ⟨hv, _⟩ | ⟨g, cap, cur, hv, _⟩
  · exact ⟨_, _, _, hv⟩
  · exact ⟨_, _, _, hv⟩
 go_wp2
 go_ret2
 refine ⟨rfl, ?_, ?_⟩
 · exact Lib.BuilderAt.put (T := 242) (e := 5) hB hb2 (bs' := bs ++ Lib.strCells s) (by simpa [Lib.strCells_length] using hown') (by decide)
 · exact (hb1.grown hgrow (by have := hb1.size; omega) (fun k hk => (hown.lt k hk).1)).setCell (p := ⟨b, 1, none⟩) hB _
end
section
open Go Go.RowKit Go.Shelf Go.IntWalk
abbrev TabW (w : World) : Prop := Lib.TabIs Tryz.prog w "internal/strconv.uint64pow10" .u64 Lib.pow10Tab
def lnW (l : List Int) : List UInt8 := l.flatMap fun n => 32 :: Lib.itoa n
theorem sitoa {L : List Blk} {w0 : World} (w : World) (T : Turn [] w0 L w) (ht : TabW w) (n : Int) (h0 : -9223372036854775808 ≤ n) (h1 : n ≤ 9223372036854775807) :
  Calls Tryz.prog 106 #[.int .i64 n] w fun e w' => e = .returned (.string ⟨(Lib.itoa n).toArray⟩) ∧ Turn [] w0 L w' :=
 (Tryz.strconv_Itoa n h0 h1 w ht).mono fun e w' ⟨he, k, os, hw⟩ => ⟨he, by
   subst hw
   exact T.call (Lib.below_grow _ _ (Nat.le_refl _) _ _)⟩
end
section
open Go Go.RowKit Go.ChangeShapes Go.WideShapes
theorem gPow : Tryz.prog.globalNamed "internal/strconv.uint64pow10" = some 1 := by kernel_rfl
theorem gPowType : (Tryz.prog.globals[1]?).map (·.type) = some 386 := by kernel_rfl
theorem cPow : Tryz.prog.cellsOf 386 = 20 := by kernel_rfl
theorem cU64 : Tryz.prog.cellsOf 47 = 1 := by kernel_rfl
theorem powData : (Rows.laid_internal_strconv_uint64pow10 : DataW Unit) = Lib.tabData .u64 Lib.pow10Tab := by kernel_rfl
theorem gFld : Tryz.prog.globalNamed "skerry/head.fields" = some 0 := by kernel_rfl
theorem gFldType : (Tryz.prog.globals[0]?).map (·.type) = some 338 := by kernel_rfl
theorem cPair : Tryz.prog.cellsOf 337 = 2 := by kernel_rfl
theorem cells_of_pairs {H : Type} {enc : TypeId × Value → H} {P : Program} {w : World} {base : Nat} {sp : Nat → Bool} {held : Bool} {fuel : Nat} {t e u : TypeId} {n : Nat} {fs : Array Field} {cs : List Value} {ds : List (DataW H)} {p : List MemPlace}
  (ht : P.underlying t = some (.array n e)) (he : P.underlying e = some (.struct fs)) (hf : fs.size = 2) (f0 : (fs[0]?).map (fun f => (f.type, f.offset)) = some (u, 0)) (f1 : (fs[1]?).map (fun f => (f.type, f.offset)) = some (u, 1)) (hu : P.underlying u = some (.int .i64)) (hcu : P.cellsOf u = 1) (hce : P.cellsOf e = 2)
  (h : DataW.trod enc P w base sp held fuel t cs = some (.agg ds, p)) (i : Nat) (a b : Int) (hi : i < n) (hd : ds[i]? = some (.agg [.lit (.int .i64 a), .lit (.int .i64 b)])) : cs[i * 2]? = some (.int .i64 a) ∧ cs[i * 2 + 1]? = some (.int .i64 b) := by
 cases fuel with
 | zero => simp [DataW.trod] at h
 | succ fuel =>
  simp only [DataW.trod, ht, hce] at h
  split at h
  · obtain ⟨xs, hm, hx⟩ := Option.map_eq_some_iff.1 h
    simp only [Prod.mk.injEq, DataW.agg.injEq] at hx
    obtain ⟨hx, -⟩ := hx
    obtain ⟨y, hy, hg⟩ := Lib.mapM_at hm i i (by simp [hi])
    have hyd : y.1 = .agg [.lit (.int .i64 a), .lit (.int .i64 b)] := by
     rw [← hx, List.getElem?_map, hy] at hd
     simpa using hd
    obtain ⟨ys, n', -, hy2, hlen, hyl, hfl⟩ := DataW.trod_struct he hg
    rw [hf] at hyl
    have hys : ys.map (·.1) = [.lit (.int .i64 a), .lit (.int .i64 b)] := by
     rw [hy2] at hyd
     simpa using hyd
    have one : ∀ (j : Nat) (z : Int), j < 2 → (fs[j]?).map (fun f => (f.type, f.offset)) = some (u, j) → (ys.map (·.1))[j]? = some (.lit (.int .i64 z)) → cs[i * 2 + j]? = some (.int .i64 z) := by
     intro j z hj hfj hz
     obtain ⟨f, hf1, hf2⟩ := Option.map_eq_some_iff.1 hfj
     simp only [Prod.mk.injEq] at hf2
     have h1 := hfl j f hf1
     rw [hf2.1, hf2.2, hcu] at h1
     obtain ⟨q, hq⟩ : ∃ q, ys[j]? = some q := ⟨ys[j]'(by omega), List.getElem?_eq_getElem _⟩
     rw [hq] at h1
     obtain ⟨z', hc, hv, -⟩ := DataW.trod_int hu h1
     rw [List.getElem?_map, hq] at hz
     rw [hv] at hz
     simp at hz
     subst hz
     have h3 := congrArg (·[0]?) hc
     simp [List.getElem?_take, List.getElem?_drop] at h3
     exact h3.2
    exact ⟨one 0 a (by omega) f0 (by rw [hys]; rfl), one 1 b (by omega) f1 (by rw [hys]; rfl)⟩
  · cases h
theorem fields_of {W : World} {rest : List (String × DataW Unit)} (h : laidMet Tryz.prog (("skerry/head.fields", Rows.laid_skerry_head_fields) :: rest) W) : Fields W := by
 obtain ⟨ps, ⟨g', t', cs, fuel, p, q, hg', ht', hvar, hd, _, _⟩, _⟩ := h
 obtain rfl := Option.some.inj (gFld.symm.trans hg')
 obtain rfl := Option.some.inj (gFldType.symm.trans ht')
 have hp := fun i a b hi hdi => cells_of_pairs (u := 3) Tryz.underlying338 Tryz.underlying337 rfl rfl rfl Tryz.underlying3 (by kernel_rfl) cPair hd i a b hi hdi
 have hc : ∀ (j : Nat) (v : Value), cs.toList[j]? = some v → W.cell? ⟨0, j, none⟩ = some v := fun j v hv => by
  have := World.var?_cell gFld hvar j
  rw [this]
  rw [Array.getElem?_toList] at hv
  exact hv
 have p0 := hp 0 0 2 (by omega) rfl
 have p1 := hp 1 2 12 (by omega) rfl
 have p2 := hp 2 14 2 (by omega) rfl
 have p3 := hp 3 16 24 (by omega) rfl
 have p4 := hp 4 40 24 (by omega) rfl
 intro j v hv
 have hj : j < 10 := (List.getElem?_eq_some_iff.1 hv).1
 rw [Nat.zero_add]
 have hcases : j = 0 ∨ j = 1 ∨ j = 2 ∨ j = 3 ∨ j = 4 ∨ j = 5 ∨ j = 6 ∨ j = 7 ∨ j = 8 ∨ j = 9 := by omega
 rcases hcases with rfl | rfl | rfl | rfl | rfl | rfl | rfl | rfl | rfl | rfl <;> cases hv
 · exact hc _ _ p0.1
 · exact hc _ _ p0.2
 · exact hc _ _ p1.1
 · exact hc _ _ p1.2
 · exact hc _ _ p2.1
 · exact hc _ _ p2.2
 · exact hc _ _ p3.1
 · exact hc _ _ p3.2
 · exact hc _ _ p4.1
 · exact hc _ _ p4.2
theorem env9_of (W : World) (hL : laidMet Tryz.prog Rows.statsSumRow.laid W) : Fields W ∧ TabW W := by
 have h3 := hL.tail.tail
 have h4 := h3.tail
 have h3' : laidMet Tryz.prog (("internal/strconv.uint64pow10", Lib.tabData .u64 Lib.pow10Tab) :: (Rows.statsSumRow.laid.tail.tail.tail)) W := by rw [← powData]; exact h3
 exact ⟨fields_of h4, Lib.tabIs_of_head gPow gPowType Tryz.underlying386 Tryz.underlying47 cU64 cPow h3'⟩
section
variable {H : Type} {enc : TypeId × Value → H} {P : Program} {w : World} {base : Nat} {spare : Nat → Bool} {held : Bool}
end
theorem returns_listed9 {H : Type} {enc : TypeId × Value → H} {a : Assume} {C : Checked} {os : Os} {f : FuncId} {fn : Func} {s : ChangeSpec} {conds : List PathCond} {apart fresh handsOn again : Bool} {laid : List (String × DataW Unit)}
  (own : ownKnob C.prog.godebug = none) (started : os.Started) (noInit : C.prog.inits.idxOf? f = none) (hfn : C.prog.funcs[f]? = some fn)
  (witness : ∃ (w : World) (tape : Tape) (i : Input), w.os = os ∧ (w.forCall tape i).Shaped C.prog ∧ i.vars = [] ∧ Input.okWide C.prog (w.forCall tape i) .any w.heap.size f i ∧
    ((s.pre enc C.prog fn conds apart (w.forCall tape i).memory i.args ∧ laidMetH C.prog laid (w.forCall tape i).memory) ∧ sizedMet enc C.prog fn (OpenSpec.ofChange s) apart (w.forCall tape i).memory i.args) ∧ a.holds C.prog (lone (Frame.enter C.prog f i.args .normal) [] (w.forCall tape i)))
  (contract : ∀ (W : World) (base : Nat) (args : Array Value) (ds gs : List (DataW H)) (before : List MemPlace),
    (∀ (j : Nat) t v, fn.params[j]? = some t → args[j]? = some v → Value.okWide C.prog W .any base t v) →
    DataW.Whole enc C.prog fn.params.toList s.vars apart W args.toList ds gs before →
    conds.all (PathCond.test C.prog ⟨fn.params.toList, ds, s.plain.varTypes C.prog, gs⟩) = true →
    (DataW.weightsEach C.prog (fn.params.toList ++ s.plain.varTypes C.prog) (ds ++ gs)).all (· ≤ reachBytes) = true → laidMetH C.prog laid W →
    Calls C.prog f args W fun e W' => ∃ v, e = .returned v ∧ s.post enc C.prog fn apart fresh handsOn again W args v W') :
  ReturnsInHanded a C os f .any (fun w args => (s.pre enc C.prog fn conds apart w args ∧ laidMetH C.prog laid w) ∧ sizedMet enc C.prog fn (OpenSpec.ofChange s) apart w args) (s.post enc C.prog fn apart fresh handsOn again) :=
 returnsInHanded_of_change_and (X := fun w _ => laidMetH C.prog laid w) (fun _ _ _ hh hx => laidMetH.of_heap hh hx) own started noInit hfn witness
  fun W base args ds gs before h1 h2 h3 h4 h5 _ => contract W base args ds gs before h1 h2 h3 h4 h5
end
section
open Go Go.RowKit
def veil : List Nat → List Value → List Value
 | [], L => L
 | i :: is, L => veil is (L.set i undef)
def unveil : List Nat → List Value → List Value → List Value
 | i :: is, v :: vs, L => (unveil is vs L).set i v
 | _, _, L => L
end
section
open Go Go.RowKit Go.Shelf Go.IntWalk
theorem bcopy (w : World) (bb n : Nat) (B : List Nat) (bo : Option Addr) (cap : Nat) (hA : BitAt w bb B n bo cap) (hl : B.length ≤ 65536) :
  Calls Tryz.prog 208 #[.pointer (some ⟨bb, 0, none⟩)] w fun e w' => ∃ b2 l, e = .returned (.pointer (some ⟨b2, 0, none⟩)) ∧ BitIs b2 B n l ∧ Turn [] w l w' := by
 have Hc := uh (fun w' (hB : Below w.heap.size w w') => clone_u64 (R := []) w' ((hA.below hB).src) (Has.nil _) (u64s_one _) (by omega))
 have HA := uh hA
 clear hA
 go_enter Tryz.func208, Tryz.ntmps208
 go_wp2_with fail
 have hS : Below w.heap.size w w.drew := (Turn.refl (Has.nil w)).drew.below
 refine wp_region_noPanic ?_
 refine wp_region_listed (S := fun u => Below w.heap.size w u) 12 [false, false, false, false, false, false, false, false, false, false, false, false] rfl rfl (by kernel_rfl) ?_
 generalize w.drew = u0 at *
 refine tkA 0 5 hS ?_
 refine tkA 1 6 hS ?_
 refine tkA 2 7 hS ?_
 refine tkB 3 8 hS (fun w hSw => (HA.out.below hSw).c0) ?_
 refine tkA 5 10 hS ?_
 refine tkA 6 11 hS ?_
 refine tkA 7 12 hS ?_
 refine tkB 8 13 hS (fun w hSw => (HA.out.below hSw).c1) ?_
 refine rdyA 4 (fun K hK => ?_)
 go_simp
 refine (Hc.out u0 hS).mono ?_
 rintro e u1 ⟨ao, cp, l1, rfl, hr, T1, -⟩
 rw [List.append_nil] at T1
 have T2 : Turn [] w l1 u1 := by
  have h := (Turn.of_below (Has.nil w) hS).grow T1
  rwa [List.append_nil] at h
 have Hr := uh hr
 clear T1 hr hS
 refine hK.out _ _ T2.below fun _ => ?_
 clear hK K
 simp only [st0, st1, st2]
 refine tkA 9 14 T2.below ?_
 refine rdyA 10 (fun K hK => ?_)
 go_simp
 have T3 := T2.alloc (.cells #[.slice ao B.length cp, .int .i64 n] 270)
 refine hK.out _ _ T3.below fun _ => ?_
 clear hK K
 simp only [st0, st1, st2]
 refine tkA 11 2 T3.below ?_
 refine wpAnyH_done (by kernel_rfl) ?_ _
 refine NoPanic.normal ?_
 have HT3 := uh T3
 clear T3 T2
 go_wp2_with fail
 go_ret
 exact ⟨u1.heap.size, _, rfl, ⟨ao, cp, l1, Hr.out, rfl⟩, HT3.out⟩
theorem sstarts (w : World) (sb bb n : Nat) (B : List Nat) (bo : Option Addr) (cap : Nat) (c2 : w.cell? ⟨sb, 2, none⟩ = some (.pointer (some ⟨bb, 0, none⟩))) (hA : BitAt w bb B n bo cap) (hl : B.length ≤ 65536) :
  Calls Tryz.prog 157 #[.pointer (some ⟨sb, 0, none⟩)] w fun e w' => ∃ b2 l, e = .returned (.pointer (some ⟨b2, 0, none⟩)) ∧ BitIs b2 B n l ∧ Turn [] w l w' := by
 have Hc := uh (bcopy w bb n B bo cap hA hl)
 clear hA
 go_enter Tryz.func157, Tryz.ntmps157
 go_wp2_with fail
 refine Hc.out.mono ?_
 rintro e w1 ⟨b2, l, rfl, hI, T⟩
 have HI := uh hI
 have HT := uh T
 clear hI T Hc
 go_wp2_with fail
 go_ret
 exact ⟨b2, l, rfl, HI.out, HT.out⟩
end
section
open Go Go.RowKit Go.Shelf Go.IntWalk
attribute [local go_sem] Oper.semAt_some
theorem wpListIn_byG {F : Fence} {n : Nat} {P : Program} {ops : Array Oper} {Q : Exit → Act → World → Prop} {o : Oper} {rest : List Oper} {a : Act} {w : World} (hF : Follows F n P) (hw : Region.wanted o (yielded ops a.tmps) = true) (hd : ∀ c, o.op ≠ .defer c)
  (h : o.wp P a w (wpListIn F n P ops Q rest) Q) : wpListIn F n P ops Q (o :: rest) a w := by
 unfold wpListIn
 rw [if_pos hw]
 exact hF.op o a w _ Q hd h
structure WkAt (w : World) (a aw tb : Nat) (W : List Nat) (tao : Option Addr) (tcap : Nat) (L : List Ty) : Prop where
 ar : ArAt w a aw W
 tab : TabAt w tb tao tcap L
 fields : Fields w
theorem WkAt.below {w w' : World} {a aw tb : Nat} {W : List Nat} {tao : Option Addr} {tcap : Nat} {L : List Ty} (h : WkAt w a aw tb W tao tcap L) (hk : Below w.heap.size w w') : WkAt w' a aw tb W tao tcap L :=
 ⟨h.ar.below hk, h.tab.below hk, range_below h.fields hk⟩
theorem wcells_in (n : Nat) (a tb : Nat) (w : World) :
  CallsIn Fence.wide n Tryz.prog 201 #[.pointer (some ⟨a, 0, none⟩), .pointer (some ⟨tb, 0, none⟩)] w fun e w' => e = .returned (.func (.func 243) #[] #[.pointer (some ⟨w.heap.size, 0, none⟩), .pointer (some ⟨w.heap.size + 1, 0, none⟩)]) ∧ w' = (w.alloc (.cells #[.pointer (some ⟨a, 0, none⟩)] 112)).alloc (.cells #[.pointer (some ⟨tb, 0, none⟩)] 119) := by
 have hf : Fence.wide.fn 201 := trivial
 refine callsIn_of_wp Tryz.func201 rfl hf ?_ rfl
 simp only [Tryz.ntmps201, List.size_toArray, List.length_cons, List.length_nil, Nat.reduceAdd, Nat.reduceSub, Array.replicate_succ, Array.replicate_zero, List.push_toArray, List.append_toArray, List.nil_append, List.cons_append]
 gi_wp2
 go_ret
 exact ⟨rfl, rfl⟩
end
section
open Go Go.RowKit Go.Shelf
def ownPostT {α : Type} (B : Nat) (Kp : World → World → Prop) (I : List α → World → Prop) (xs : List α) (W : World) : Exit → Act → World → Prop
 | .normal, _, W' => KeepsFrom B W W' ∧ Kp W W' ∧ I xs W'
 | .ret, _, _ => False
 | .exit _, _, _ => False
 | .goto _, _, _ => False
 | .panic _, _, _ => False
 | .outgrown, _, _ => False
section
variable {F : Fence} {n : Nat} {P : Program}
def SeqG {α : Type} (F : Fence) (n : Nat) (P : Program) (g : Nat) (lb : Array Value) (encs : α → Array Value) (Kp : World → World → Prop) (Nx : List α → α → Prop) (S : List α → Prop) (G : World → Prop) (w : World) : Prop :=
 ∀ (l : Nat) (J : List α → World → Prop) (W : World), Below w.heap.size w W → AbidesFrom W.heap.size J → (∀ pre W, J pre W → G W) →
  (∀ pre x W1, Nx pre x → J pre W1 → YieldAt F (n - 1) P l (encs x) W1 fun e W' => e = .returned (.bool true) ∧ J (pre ++ [x]) W' ∧ Kp W1 W') →
  J [] W →
  CallsIn F n P g (#[.func (.yield l) #[] #[]] ++ lb) W fun e W' => (∃ v, e = .returned v) ∧ ∃ xs, S xs ∧ J xs W'
theorem wpIn_rangeFunc_g {α β : Type} {FA : α → β → Act} {g : Operand} {ps : Array Tmp} {assign body : Code} {Q : Exit → Act → World → Prop} {a : Act} {w : World}
  (hro : F.round = none) (h1 : 1 ≤ n) {gf : Nat} {lb : Array Value} (hg : a.eval g = .func (.func gf) #[] lb) (hFg : F.fn gf) (eg : ∀ args w, (callFunc gf args).run P w = .ok (.enter gf args) w)
  {encs : α → Array Value} {Kp : World → World → Prop} {Nx : List α → α → Prop} {S : List α → Prop} {G : World → Prop} {w0 : World} (hseq : SeqG F (n - 1) P gf lb encs Kp Nx S G w0)
  (hKt : ∀ {A B C : World}, Kp A B → Kp B C → Kp A C) (hKb : ∀ (W : World) (l : Nat) (o o' : Obj), w.heap.size ≤ l → W.heap[l]? = some o → o.isCells = false → o.isWalk = false → Kp W (W.putObj l o')) (hb0 : Below w0.heap.size w0 w) (hps : ∀ x, (encs x).size = ps.size)
  (I : List α → World → Prop) (M : α → β → List α → World → Prop) (hI : OwnFrom w.heap.size I) (hM : ∀ x nb, OwnFrom w.heap.size (M x nb)) (h0 : I [] w) (hG : ∀ pre W, I pre W → G W)
  (hassign : ∀ (l : Nat) (pre : List α) (x : α) (W : World), Nx pre x → I pre W →
    assign.wpIn (F.inRound l) (n - 1 - 1) P (Exit.then (fun a' W' => KeepsFrom w.heap.size W W' ∧ Kp W W' ∧ ∃ nb, a' = FA x nb ∧ M x nb pre W') (fun _ _ _ => False)) { tmps := (ps.zip (encs x)).foldl (fun t (p, v) => t.setIfInBounds p v) a.tmps, defers := [] } W)
  (hbody : ∀ (l : Nat) (pre : List α) (x : α) (nb : β) (W : World), Nx pre x → M x nb pre W → body.wpIn (F.inRound l) (n - 1 - 1) P (ownPostT w.heap.size Kp I (pre ++ [x]) W) (FA x nb) W)
  (hdone : ∀ (D : Nat) (xs : List α) (W : World), w.heap.size ≤ D → S xs → I xs W → W.heap[D]? = some (.deferred (some [])) → Q .normal { a with defers := { target := .collected D, args := #[] } :: a.defers } W) :
  (Code.rangeFunc g ps assign body).wpIn F n P Q a w := by
 refine wpIn_rangeFunc fun fn hfn => ?_
 rw [hro]
 let rc : LoopState → Option Code → Loop := fun st pe => { state := st, pending := pe, fn, tmps := a.tmps, params := ps, assign, body, defers := w.heap.size }
 have hsz1 : ((w.alloc (.deferred (some []))).alloc (.loop (rc .ready none))).heap.size = w.heap.size + 2 := by simp
 have hm1 : Marks w.heap.size (rc .ready none) ((w.alloc (.deferred (some []))).alloc (.loop (rc .ready none))) := by
  refine ⟨(Below.heap_alloc _ _ _ (by simp)).trans (World.alloc_heap_new w _), ?_⟩
  have := World.alloc_heap_new (w.alloc (.deferred (some []))) (.loop (rc .ready none))
  rwa [World.size_alloc] at this
 have hi1 : I [] ((w.alloc (.deferred (some []))).alloc (.loop (rc .ready none))) := hI.alloc _ (hI.alloc _ h0)
 have hb1 : Below w0.heap.size w0 ((w.alloc (.deferred (some []))).alloc (.loop (rc .ready none))) := hb0.trans ((((Below.refl _ w).alloc (Nat.le_refl _) _).alloc (by simp) _).mono hb0.size)
 have hrun := run_enterLoop_outer (P := P) (w := w) fn a.tmps ps assign body
 change _ = Result.ok _ ((w.alloc (.deferred (some []))).alloc (.loop (rc .ready none))) at hrun
 generalize ((w.alloc (.deferred (some []))).alloc (.loop (rc .ready none))) = W1 at hsz1 hm1 hi1 hb1 hrun
 refine ⟨w.heap.size + 1, [{ target := .collected w.heap.size, args := #[] }], W1, { target := .fn (.func gf) lb, args := #[.func (.yield (w.heap.size + 1)) #[] #[]] }, W1, gf,
  #[.func (.yield (w.heap.size + 1)) #[] #[]] ++ lb, W1, hrun, ?_, ?_, ?_, fun _ => h1, ?_⟩
 · simp only [resolve, hg]
   simp [go_sem]
 · intro f' hf'; simp [Target.leads] at hf'; subst hf'; exact hFg
 · simp [invoke, go_sem, eg]
 have hrow : ∀ {A : World} {row : Option Nat}, (∀ r, row = some r → W1.heap.size ≤ r ∧ ∃ o : Obj, A.heap[r]? = some o ∧ o.isWalk = true) → (∀ r, row = some r → w.heap.size ≤ r ∧ ∃ o : Obj, A.heap[r]? = some o ∧ o.isCells = false) :=
  fun hr r e => by obtain ⟨hB, o, ho, hw⟩ := hr r e; exact ⟨by omega, o, ho, Obj.not_cells_of_walk hw⟩
 refine (hseq (w.heap.size + 1) (fun pre W => I pre W ∧ Marks w.heap.size (rc .ready none) W) W1 hb1
  (fun s A B row hs hg' hr => ⟨hI s A B row hs.1 hg' (hrow hr), hs.2.grown hg' fun j e => (hr j e).2⟩) (fun pre W h => hG pre W h.1) ?_ ⟨hi1, hm1⟩).mono ?_
 · rintro pre x W hnx ⟨hi, hm⟩
   refine ⟨fn, _, assign, body, run_yield hm.loop (hps x), roundIn_of_wpIn hfn (wpIn_mono (hassign _ pre x W hnx hi) ?_)⟩
   rintro e a' Wa hp
   cases e with
   | normal =>
    obtain ⟨hka, hkpa, nb, ha, hMa⟩ := hp
    subst ha
    have hma := hm.keeps hka
    refine ⟨_, run_beginRound hma.loop rfl, ?_⟩
    have hmb := hma.put (rc .busy none)
    have hkb : Kp W (Wa.putObj (w.heap.size + 1) (.loop (rc .busy none))) := hKt hkpa (hKb _ _ _ _ (Nat.le_succ _) hma.loop rfl rfl)
    refine wpIn_mono (hbody _ pre x nb _ hnx ((hM x nb).putObj _ hMa (Nat.le_succ _) hma.loop rfl)) ?_
    rintro e a3 W3 hp
    cases e with
    | normal =>
     obtain ⟨hk3, hkp3, hi3⟩ := hp
     have hl3 := (hmb.keeps hk3).loop
     exact ⟨_, _, run_endRound (P := P) none hl3, rfl, ⟨hI.putObj _ hi3 (Nat.le_succ _) hl3 rfl, (hmb.keeps hk3).put _⟩, hKt (hKt hkb hkp3) (hKb _ _ _ _ (Nat.le_succ _) hl3 rfl rfl)⟩
    | ret => exact hp.elim
    | exit id => exact hp.elim
    | goto t => exact hp.elim
    | panic ch => exact hp.elim
    | outgrown => exact hp.elim
   | ret => exact hp.elim
   | exit id => exact hp.elim
   | goto t => exact hp.elim
   | panic ch => exact hp.elim
   | outgrown => exact hp.elim
 · rintro e W2 ⟨⟨v, rfl⟩, xs, hS, hi, hm⟩
   exact ⟨none, _, run_endLoop (P := P) hm.loop (by simp [rc]), hdone _ xs _ (Nat.le_refl _) hS (hI.putObj _ hi (Nat.le_succ _) hm.loop rfl) ((World.putObj_heap_other (by omega)).trans hm.dfr)⟩
end
structure KpD (n₀ : Nat) (D : World → Nat → Prop) (A B : World) : Prop where
 below : Below n₀ A B
 size : A.heap.size ≤ B.heap.size
 same : ∀ b o, A.heap[b]? = some o → o.isCells = true → ¬ D A b → B.heap[b]? = some o
 own : ∀ b, b < A.heap.size → D B b → D A b
theorem KpD.t {n₀ : Nat} {D : World → Nat → Prop} {A B C : World} (h : KpD n₀ D A B) (k : KpD n₀ D B C) : KpD n₀ D A C :=
 ⟨h.below.trans k.below, Nat.le_trans h.size k.size, fun b o h1 h2 h3 => k.same b o (h.same b o h1 h2 h3) h2 (fun hd => h3 (h.own b (lt_of_block h1) hd)), fun b hb hd => h.own b hb (k.own b (Nat.lt_of_lt_of_le hb h.size) hd)⟩
theorem KpD.b {n₀ : Nat} {D : World → Nat → Prop} {w : World} (hn : n₀ ≤ w.heap.size) (hD : ∀ W l o', w.heap.size ≤ l → ∀ b, D (W.putObj l o') b → D W b) (W : World) (l : Nat) (o o' : Obj) (hl : w.heap.size ≤ l) (h : W.heap[l]? = some o) (hc : o.isCells = false) (hw : o.isWalk = false) : KpD n₀ D W (W.putObj l o') := by
 refine ⟨belowK_b hn W l o o' hl h hc hw, (grownBy_putObj' W l o').size, fun b o2 h1 h2 _ => ?_, fun b _ hd => hD W l o' hl b hd⟩
 by_cases hb : b = l
 · subst hb
   rw [h] at h1
   cases h1
   rw [hc] at h2
   cases h2
 · rw [World.putObj_heap_other hb]
   exact h1
theorem KpD.of {n₀ : Nat} {D : World → Nat → Prop} {L L' : List Blk} {A B : World} (h : Turn L A L' B) (hn : n₀ ≤ A.heap.size) (hL : ∀ b ∈ keys L, n₀ ≤ b ∧ D A b) (hO : ∀ b, b < A.heap.size → D B b → D A b) : KpD n₀ D A B :=
 ⟨⟨h.os, h.tape, h.output, h.size, fun b hb => h.same b (Nat.lt_of_lt_of_le hb hn) (fun hm => by have := (hL b hm).1; omega)⟩,
  h.size, fun b o h1 _ h3 => (h.same b (lt_of_block h1) (fun hm => h3 (hL b hm).2)).trans h1, hO⟩
theorem Turn.grownC {l L : List Blk} {w W W' : World} {B : Nat} {row : Option Nat} (h : Turn l w L W) (hB : w.heap.size ≤ B) (hL : ∀ x ∈ L, x.2.isCells = true ∨ x.1 < B) (hg : W.grownBy W' row) (hr : ∀ r, row = some r → B ≤ r ∧ ∃ o : Obj, W.heap[r]? = some o ∧ o.isCells = false) : Turn l w L W' := by
 have hne : ∀ b o, (b, o) ∈ L → some b ≠ row := fun b o hm he => by
  obtain ⟨hb, o', ho', hc⟩ := hr b he.symm
  have h1 := h.has.own b o hm
  rw [h1] at ho'
  cases ho'
  rcases hL _ hm with h2 | h2
  · rw [hc] at h2
    cases h2
  · exact absurd h2 (Nat.not_lt.2 hb)
 refine ⟨hg.os.trans h.os, hg.tape.trans h.tape, hg.output.trans h.output, Nat.le_trans h.size hg.size, ⟨h.has.nd, fun b o hm => ?_⟩, h.new, fun b hb hn => ?_⟩
 · rw [hg.block b (lt_of_block (h.has.own b o hm)) (hne b o hm)]
   exact h.has.own b o hm
 · rw [hg.block b (Nat.lt_of_lt_of_le hb h.size) (fun he => by have := (hr b he.symm).1; omega)]
   exact h.same b hb hn
def ResD (n4 : Nat) (A : World) (b : Nat) : Prop := b = n4 ∨ ∃ k cap t, A.heap[n4]? = some (.cells #[.slice (some ⟨b, 0, none⟩) k cap] t)
def ResG (n4 Bs : Nat) (A : World) : Prop := ∀ b, ResD n4 A b → b < A.heap.size ∧ b ≠ Bs
theorem ResD.old {n4 Bs : Nat} {A B : World} {b : Nat} (hg : ResG n4 Bs A) (hB : Below A.heap.size A B) (h : ResD n4 B b) : ResD n4 A b := by
 rcases h with h | ⟨k, cap, t, h⟩
 · exact .inl h
 · refine .inr ⟨k, cap, t, ?_⟩
   rw [← hB.block n4 (hg n4 (.inl rfl)).1]
   exact h
theorem ResD.put {n4 : Nat} {W : World} {l b : Nat} (hl : n4 < l) (o' : Obj) (h : ResD n4 (W.putObj l o') b) : ResD n4 W b := by
 rcases h with h | ⟨k, cap, t, h⟩
 · exact .inl h
 · refine .inr ⟨k, cap, t, ?_⟩
   rw [World.putObj_heap_other (by omega)] at h
   exact h
theorem resBx_cells {e te ts : TypeId} {size n cap : Nat} {xs : List Value} {ao : Option Addr} {lr : List Blk} {n4 Bs : Nat} {v : Value} (h : Row e size ao n cap xs lr) : ∀ x ∈ lr ++ [(n4, .cells #[.slice ao n cap] te), (Bs, .cells #[v] ts)], x.2.isCells = true := fun x hx => by
 rcases List.mem_append.1 hx with hx | hx
 · exact h.cells x hx
 · simp only [List.mem_cons, List.not_mem_nil, or_false] at hx
   rcases hx with rfl | rfl <;> rfl
theorem resBx1_cells {e te : TypeId} {size n cap : Nat} {xs : List Value} {ao : Option Addr} {lr : List Blk} {n4 : Nat} (h : Row e size ao n cap xs lr) : ∀ x ∈ lr ++ [(n4, .cells #[.slice ao n cap] te)], x.2.isCells = true := fun x hx => by
 rcases List.mem_append.1 hx with hx | hx
 · exact h.cells x hx
 · simp only [List.mem_cons, List.not_mem_nil, or_false] at hx
   rw [hx]; rfl
theorem resG_of {e te ts : TypeId} {size n cap : Nat} {xs : List Value} {ao : Option Addr} {lr : List Blk} {n4 Bs : Nat} {v : Value} {w W : World} (h : Row e size ao n cap xs lr) (T : Turn [] w (lr ++ [(n4, .cells #[.slice ao n cap] te), (Bs, .cells #[v] ts)]) W) : ResG n4 Bs W := by
 intro b hb
 have hnd := T.has.nd
 rcases hb with rfl | ⟨k, cap', t, hb⟩
 · refine ⟨T.has.lt (by simp [keys]), ?_⟩
   intro he
   rw [keys_append, List.nodup_append] at hnd
   simp [keys, he] at hnd
 · have h1 := T.has.own n4 _ (by simp : (n4, Obj.cells #[.slice ao n cap] te) ∈ _)
   rw [h1] at hb
   simp only [Option.some.injEq, Obj.cells.injEq, Array.mk.injEq, List.cons.injEq, Value.slice.injEq] at hb
   obtain ⟨⟨⟨rfl, rfl, rfl⟩, -⟩, -⟩ := hb
   rcases h.2.2.2 with ⟨h2, -⟩ | ⟨g, cur, h2, rfl, -⟩
   · cases h2
   · cases h2
     refine ⟨T.has.lt (by simp [keys]), ?_⟩
     rintro rfl
     simp [keys] at hnd
theorem KpD.res {n₀ n4 : Nat} {e te : TypeId} {size n cap n' cap' : Nat} {xs xs' : List Value} {ao ao' : Option Addr} {lr lr' Y : List Blk} {A B : World} (h1 : Row e size ao n cap xs lr) (h2 : Row e size ao' n' cap' xs' lr')
  (K : Turn (lr ++ [(n4, .cells #[.slice ao n cap] te)]) A ((n4, .cells #[.slice ao' n' cap'] te) :: (lr' ++ Y)) B) (hH : Has A (lr ++ [(n4, .cells #[.slice ao n cap] te)])) (hn : n₀ ≤ n4) (hl : ∀ b ∈ keys lr, n₀ ≤ b) : KpD n₀ (ResD n4) A B := by
 have hlt := hH.lt (b := n4) (by simp [keys])
 have hown : ∀ b ∈ keys lr, ResD n4 A b := by
  intro b hb
  rcases h1.2.2.2 with ⟨-, -, rfl⟩ | ⟨g, cur, rfl, rfl, -⟩
  · cases hb
  · have : b = g := by simpa [keys] using hb
    subst this
    exact .inr ⟨n, cap, te, hH.own n4 _ (by simp)⟩
 refine KpD.of K (by omega) (fun b hb => ?_) (fun b hb hd => ?_)
 · rw [keys_append, List.mem_append] at hb
   rcases hb with hb | hb
   · exact ⟨hl b hb, hown b hb⟩
   · have : b = n4 := by simpa [keys] using hb
     exact ⟨by omega, .inl this⟩
 · rcases hd with hd | ⟨k, c, t, hd⟩
   · exact .inl hd
   · rw [K.has.own n4 _ (List.mem_cons_self ..)] at hd
     simp only [Option.some.injEq, Obj.cells.injEq, Array.mk.injEq, List.cons.injEq, Value.slice.injEq] at hd
     obtain ⟨⟨⟨rfl, rfl, rfl⟩, -⟩, -⟩ := hd
     rcases h2.2.2.2 with ⟨h3, -⟩ | ⟨g, cur, h3, rfl, -⟩
     · cases h3
     · cases h3
       rcases K.new b (by simp [keys]) with h4 | h4
       · rw [keys_append, List.mem_append] at h4
         rcases h4 with h4 | h4
         · exact hown b h4
         · exact .inl (by simpa [keys] using h4)
       · omega
end
section
open Go Go.RowKit Go.Shelf Go.IntWalk
attribute [local go_sem] Oper.semAt_some
theorem wcells_g (n : Nat) (hn : 2 ≤ n) (wb : World) (a aw tb : Nat) (W : List Nat) (tao : Option Addr) (tcap : Nat) (L : List Ty) (hA : WkAt wb a aw tb W tao tcap L) (hf : W.length ≤ 65536) (hu : ∀ v ∈ W, v < 18446744073709551616) (hTy : ∀ t ∈ L, TyIn t) (hL : L.length ≤ 1000)
  (cs : List Ce) (hC : Chain L W 0 cs (W.length / 2)) (Bs Bt : Nat) (D : World → Nat → Prop) (G : World → Prop) (hGD : ∀ A, G A → ∀ b, D A b → b < A.heap.size ∧ b ≠ Bs ∧ b ≠ Bt) (hDD : ∀ A B b, G A → Below A.heap.size A B → D B b → D A b) (w : World) (hw : Below wb.heap.size wb w) (hBs : w.heap[Bs]? = some (.cells #[.pointer (some ⟨a, 0, none⟩)] 112)) (hBt : w.heap[Bt]? = some (.cells #[.pointer (some ⟨tb, 0, none⟩)] 119)) :
  SeqG Fence.wide n Tryz.prog 243 #[.pointer (some ⟨Bs, 0, none⟩), .pointer (some ⟨Bt, 0, none⟩)] ceArgs (KpD wb.heap.size D) (fun pre x => ∃ post, cs = pre ++ x :: post) (fun xs => xs = cs) G w := fun l J W0 hW hJ hG hY h0 => by
 have hB0 : W0.heap[Bs]? = some (.cells #[.pointer (some ⟨a, 0, none⟩)] 112) := (hW.block Bs (lt_of_block hBs)).trans hBs
 have hT0 : W0.heap[Bt]? = some (.cells #[.pointer (some ⟨tb, 0, none⟩)] 119) := (hW.block Bt (lt_of_block hBt)).trans hBt
 have hw0 : Below wb.heap.size wb W0 := hw.trans (hW.mono hw.size)
 have HA0 := uh hw.size
 have hW0 := hW.size
 have hFl : Fence.wide.fn 243 := trivial
 have hf1 : Fence.wide.fn 63 := trivial
 have hf2 : Fence.wide.fn 126 := trivial
 have hf3 : Fence.wide.fn 128 := trivial
 refine callsIn_of_wp Tryz.func243 rfl hFl ?_ rfl
 simp only [Tryz.ntmps243, List.size_toArray, List.length_cons, List.length_nil, Nat.reduceAdd, Nat.reduceSub, Array.replicate_succ, Array.replicate_zero, List.push_toArray, List.append_toArray, List.nil_append, List.cons_append]
 have h1 : 1 ≤ n := by omega
 have h2 : 1 ≤ n - 1 := by omega
 have HY := uh hY
 have HJ := uh hJ
 have hszH := sz_head
 have Hln := uh (alen W0 (hA.below hw0).ar)
 have Hhd := uh (fun w' (hB : Below wb.heap.size wb w') (g : Int) => shead w' (hA.below hB).fields (hA.below hB).ar hu g)
 have Hft := uh (fun w' (hB : Below wb.heap.size wb w') h hi => hfits w' (hA.below hB).fields L hTy hL tb tao tcap (hA.below hB).tab h hi)
 have HA := uh hA
 have HC := uh hC
 have hlen := hC.len
 have hdiv : ((W.length : Int)).tdiv 2 = ((W.length / 2 : Nat) : Int) := tdiv_nat _ 2
 have hdiv2 : (W.length : Int) / 2 = ((W.length / 2 : Nat) : Int) := by omega
 obtain ⟨z, hz⟩ : ∃ z : Nat, W.length / 2 = z := ⟨_, rfl⟩
 have hzb : z ≤ 32768 := by omega
 rw [hz] at HC hlen hdiv hdiv2
 have Hw0 := uh hw0
 have HB0 := uh hB0
 have HT0 := uh hT0
 have HG := uh hG
 have q1 : W0.cell? ⟨Bs, 0, none⟩ = some (.pointer (some ⟨a, 0, none⟩)) := (Has.one hB0).cell (List.mem_cons_self ..) 0
 clear hY hJ hG hW hw hBs hBt hB0 hT0 hw0 hA hu hTy hC hz
 gi_wp2_with (first
  | (gi_at_call 63; refine (callsIn_wide.2 Hln.out).mono ?_; rintro e w' ⟨rfl, hw⟩; rw [hw]; clear hw w')
  | fail)
 clear q1 Hln hdiv hdiv2
 gi_loopw [5] (fun v5 wr => ∃ (pre post : List Ce) (g : Nat), cs = pre ++ post ∧ v5 = .int .i64 g ∧ Chain L W g post z ∧ J pre wr ∧ Below wb.heap.size wb wr ∧ wr.heap[Bs]? = some (.cells #[.pointer (some ⟨a, 0, none⟩)] 112) ∧ wr.heap[Bt]? = some (.cells #[.pointer (some ⟨tb, 0, none⟩)] 119) ∧ w.heap.size ≤ wr.heap.size) (fun v5 _ => z + 1 - (intOf v5).toNat)
 case atStart => exact ⟨[], cs, 0, rfl, by go_num, HC.out, h0, Hw0.out, HB0.out, HT0.out, hW0⟩
 case round =>
  clear HC h0 Hw0 HB0 HT0
  obtain ⟨pre, post, g, hcs, rfl, hch, hJw, hwr, hBw, hTw, hwl⟩ := hrel
  have hbx : wr.cell? ⟨Bs, 0, none⟩ = some (.pointer (some ⟨a, 0, none⟩)) := (Has.one hBw).cell (List.mem_cons_self ..) 0
  have htx : wr.cell? ⟨Bt, 0, none⟩ = some (.pointer (some ⟨tb, 0, none⟩)) := (Has.one hTw).cell (List.mem_cons_self ..) 0
  cases post with
  | nil =>
   obtain rfl : g = z := hch
   rw [List.append_nil] at hcs
   have HX := uh (⟨hcs.symm, hJw⟩ : pre = cs ∧ J pre wr)
   have hnl : ¬ (g : Int) < (g : Int) := by omega
   clear hJw hcs hwr hBw hTw
   gi_wp2_with fail
   go_end0
   exact ⟨⟨_, rfl⟩, by have h := HX.out.2; rw [HX.out.1] at h; exact h⟩
  | cons c post =>
   obtain ⟨cg, h⟩ := c
   obtain ⟨hcg, hst, hnext⟩ := hch
   simp only at hcg hst hnext
   subst hcg
   have hpos := hst.pos
   have hroom : cg + h.size ≤ z := hnext.le
   obtain ⟨e1, e2, e3, e4⟩ := stands_head hst
   have hmay := hst.2.1.1
   have Hh2 := uh (Hhd.out wr hwr cg)
   rw [e1, e2] at Hh2
   simp only [Option.getD_some] at Hh2
   have HF1 := uh (fun w' (hB : Below wr.heap.size wr w') => Hft.out w' (hwr.trans (hB.mono (Nat.le_trans HA0.out hwl))) h (may_in hmay))
   rw [e3] at HF1
   have HY2 := uh (fun W1 => HY.out pre (cg, h) W1 ⟨post, hcs⟩)
   unfold ceArgs at HY2
   obtain ⟨xa, xb, xc, xd⟩ := h
   simp only at hpos hroom HY2
   have hoX := hd_one ⟨xa, xb, xc, xd⟩
   simp only at hoX
   have k1 : IntKind.i64.wrap ((z : Int) - (cg : Int)) = (z : Int) - (cg : Int) := i64_in _ (by omega)
   have k2 : decide (((z : Int) - (cg : Int)) < (xd : Int)) = false := decide_eq_false (by omega)
   have k3 : ¬ ((z : Int) - (cg : Int)) < (xd : Int) := by omega
   have k4 : (cg : Int) < (z : Int) := by omega
   have Hnext := uh hnext
   have Hcs := uh hcs
   have HJw := uh hJw
   have hT0 := uh (Turn.refl (Has.nil wr))
   have HS := uh (fun w' b4 (V : Turn [] wr [(b4, .cells #[.int .u8 xa, .int .i64 xb, .int .i64 xc, .int .i64 xd] 79)] w') =>
    (⟨(V.below.cell (p := ⟨Bs, 0, none⟩) (World.block_lt_of_cell? wr _ hbx)).trans hbx, (V.below.cell (p := ⟨Bt, 0, none⟩) (World.block_lt_of_cell? wr _ htx)).trans htx, V.range1⟩ : w'.cell? ⟨Bs, 0, none⟩ = some (.pointer (some ⟨a, 0, none⟩)) ∧ w'.cell? ⟨Bt, 0, none⟩ = some (.pointer (some ⟨tb, 0, none⟩)) ∧ w'.rangeAt b4 0 [.int .u8 xa, .int .i64 xb, .int .i64 xc, .int .i64 xd]))
   have hGr := HG.out pre wr hJw
   have HN8 := uh (fun w8 w' b4 (hj : J (pre ++ [(cg, ⟨xa, xb, xc, xd⟩)]) w8) (k : KpD wb.heap.size D w' w8) (V : Turn [] wr [(b4, .cells #[.int .u8 xa, .int .i64 xb, .int .i64 xc, .int .i64 xd] 79)] w') =>
    (⟨hj, (hwr.trans (V.below.mono (Nat.le_trans HA0.out hwl))).trans k.below, k.same Bs _ ((V.below.block Bs (lt_of_block hBw)).trans hBw) rfl (fun hd => (hGD wr hGr Bs (hDD wr w' Bs hGr V.below hd)).2.1 rfl), k.same Bt _ ((V.below.block Bt (lt_of_block hTw)).trans hTw) rfl (fun hd => (hGD wr hGr Bt (hDD wr w' Bt hGr V.below hd)).2.2 rfl), Nat.le_trans hwl (Nat.le_trans V.size k.size)⟩ : J (pre ++ [(cg, ⟨xa, xb, xc, xd⟩)]) w8 ∧ Below wb.heap.size wb w8 ∧ w8.heap[Bs]? = some (.cells #[.pointer (some ⟨a, 0, none⟩)] 112) ∧ w8.heap[Bt]? = some (.cells #[.pointer (some ⟨tb, 0, none⟩)] 119) ∧ w.heap.size ≤ w8.heap.size))
   have HS2 := uh (fun w8 w' b4 (k : KpD wb.heap.size D w' w8) (V : Turn [] wr [(b4, .cells #[.int .u8 xa, .int .i64 xb, .int .i64 xc, .int .i64 xd] 79)] w') => by
    have h9 : wr.heap.size ≤ b4 := (V.new b4 (by simp [keys])).resolve_left (by simp [keys])
    have h8 := k.same b4 _ (V.has.own _ _ (List.mem_cons_self ..)) rfl (fun hd => by have := (hGD wr hGr b4 (hDD wr w' b4 hGr V.below hd)).1; omega)
    exact ((Has.one h8).range (List.mem_cons_self ..) : w8.rangeAt b4 0 [.int .u8 xa, .int .i64 xb, .int .i64 xc, .int .i64 xd]))
   clear hGr hJw hcs hwr hBw hTw hnext hst e1 e2 e3 e4 hmay HY
   gi_wp2_with (first
    | (gi_at_call 126; refine (callsIn_wide.2 Hh2.out).mono ?_; rintro e w1 ⟨rfl, hB1⟩; have T2 := (hT0.out.call hB1).alloc (.cells #[.int .u8 0, .int .i64 0, .int .i64 0, .int .i64 0] 79); have hth : (w1.alloc (.cells #[.int .u8 0, .int .i64 0, .int .i64 0, .int .i64 0] 79)).there w1.heap.size 0 4 := T2.there1; have HT2 := uh (T2.laid [.int .u8 xa, .int .i64 xb, .int .i64 xc, .int .i64 xd] rfl); clear hB1 T2)
    | (show wpListIn _ _ _ _ _ (⟨_, Op.store 79 _ _, _, _, _, _⟩ :: _) _ _; refine wpListIn_by (follows_wide _ _) rfl (by intro c h; cases h) (wp_store_mid 79 _ _ rfl _ 0 #[.int .u8 xa, .int .i64 xb, .int .i64 xc, .int .i64 xd] rfl rfl hth hszH hoX ?_); clear hth; generalize (w1.alloc (.cells #[.int .u8 0, .int .i64 0, .int .i64 0, .int .i64 0] 79)).setCells w1.heap.size 0 [.int .u8 xa, .int .i64 xb, .int .i64 xc, .int .i64 xd] = w5 at *; generalize w1.heap.size = b4 at *; have HT5 := uh HT2.out; have hS5 := HS.out _ _ HT5.out; have hS5b := hS5.2.1; have hr5 := hS5.2.2; have HF2 := uh (HF1.out _ HT5.out.below); clear HT2 hbx htx Hh2 hT0 hS5)
    | (show wpListIn _ _ _ _ _ (⟨_, Op.load 79 _, _, _, _, _⟩ :: _) _ _; first | refine wpListIn_byG (follows_wide _ _) (by rfl) (by intro c h; cases h) (wp_load_mid 79 _ rfl b4 0 rfl [.int .u8 xa, .int .i64 xb, .int .i64 xc, .int .i64 xd] _ hr5 Tryz.underlying79 rfl hszH ?_) | refine wpListIn_byG (follows_wide _ _) (by rfl) (by intro c h; cases h) (wp_load_mid 79 _ rfl b4 0 rfl [.int .u8 xa, .int .i64 xb, .int .i64 xc, .int .i64 xd] _ hr6 Tryz.underlying79 rfl hszH ?_))
    | (gi_at_call 128; refine (callsIn_wide.2 HF2.out).mono ?_; rintro e w6 ⟨rfl, hB6⟩; have HT6 := uh (HT5.out.call hB6); have hr6 := (HS.out _ _ HT6.out).2.2; have hc6 := hr6 3 _ rfl; obtain ⟨fn, tmps, assign, body, hy, hR⟩ := HY2.out _ (HJ.out pre wr _ none HJw.out (below_grownBy HT6.out.below) (fun r e => by cases e)); have HR := uh hR; clear hR hB6 HF2 HT5 hr5 hS5b)
    | fail)
   refine HR.out.mono ?_
   rintro e w8 ⟨rfl, hJ8, hk8⟩
   · have HN := uh (HN8.out _ _ _ hJ8 hk8 HT6.out)
     have hr8 := HS2.out _ _ _ hk8 HT6.out
     have hc8 := hr8 3 _ rfl
     clear hJ8 hk8 hr8 hr6 hc6 HT6 HS HS2 HN8 HR hy HY2 HF1
     gi_wp2_with fail
     go_roundw
     case rel => exact ⟨pre ++ [(cg, ⟨xa, xb, xc, xd⟩)], post, cg + xd, by rw [Hcs.out]; simp, by go_num, Hnext.out, HN.out.1, HN.out.2.1, HN.out.2.2.1, HN.out.2.2.2.1, HN.out.2.2.2.2⟩
     case measure => simp [intOf]; omega
end
section
open Go Go.RowKit Go.Shelf
def ResE (g : Nat) (A : World) (b : Nat) : Prop := b = g ∨ ∃ c f t k cap, A.heap[g]? = some (.cells c t f) ∧ c[3]? = some (.slice (some ⟨b, 0, none⟩) k cap)
def ResEG (g Bs Bt : Nat) (A : World) : Prop := ∀ b, ResE g A b → b < A.heap.size ∧ b ≠ Bs ∧ b ≠ Bt
theorem ResE.old {g Bs Bt : Nat} {A B : World} {b : Nat} (hg : ResEG g Bs Bt A) (hB : Below A.heap.size A B) (h : ResE g B b) : ResE g A b := by
 rcases h with h | ⟨c, f, t, k, cap, h, h2⟩
 · exact .inl h
 · refine .inr ⟨c, f, t, k, cap, ?_, h2⟩
   rw [← hB.block g (hg g (.inl rfl)).1]
   exact h
theorem ResE.put {g : Nat} {W : World} {l b : Nat} (hl : g < l) (o' : Obj) (h : ResE g (W.putObj l o') b) : ResE g W b := by
 rcases h with h | ⟨c, f, t, k, cap, h, h2⟩
 · exact .inl h
 · refine .inr ⟨c, f, t, k, cap, ?_, h2⟩
   rw [World.putObj_heap_other (by omega)] at h
   exact h
theorem resE_of {e tg : TypeId} {size n cap : Nat} {xs : List Value} {ao : Option Addr} {lr : List Blk} {g m p Bs Bt : Nat} {gc : Array Value} {f : Nat × Nat} {ob op os ot : Obj} {w W : World} (h : Row e size ao n cap xs lr) (hg : gc[3]? = some (.slice ao n cap))
  (T : Turn [] w ((g, .cells gc tg f) :: (m, ob) :: (lr ++ [(p, op), (Bs, os), (Bt, ot)])) W) : ResEG g Bs Bt W := by
 intro b hb
 have hnd := T.has.nd
 rcases hb with rfl | ⟨c, f', t, k, cap', hb, hc⟩
 · refine ⟨T.has.lt (by simp [keys]), ?_, ?_⟩
   · rintro rfl; simp [keys] at hnd
   · rintro rfl; simp [keys] at hnd
 · rw [T.has.own g _ (List.mem_cons_self ..)] at hb
   simp only [Option.some.injEq, Obj.cells.injEq] at hb
   obtain ⟨rfl, -, -⟩ := hb
   rw [hg] at hc
   simp only [Option.some.injEq, Value.slice.injEq] at hc
   obtain ⟨rfl, -, -⟩ := hc
   rcases h.2.2.2 with ⟨h2, -⟩ | ⟨q, cur, h2, rfl, -⟩
   · cases h2
   · cases h2
     refine ⟨T.has.lt (by simp [keys]), ?_, ?_⟩
     · rintro rfl; simp [keys] at hnd
     · rintro rfl; simp [keys] at hnd
theorem KpD.of2 {n₀ : Nat} {D : World → Nat → Prop} {L L' : List Blk} {A B : World} (h : Turn L A L' B) (hH : Has A L) (hn : n₀ ≤ A.heap.size) (hL : ∀ x ∈ L, n₀ ≤ x.1 ∧ (D A x.1 ∨ x.2.isCells = false)) (hO : ∀ b, b < A.heap.size → D B b → D A b) : KpD n₀ D A B :=
 ⟨⟨h.os, h.tape, h.output, h.size, fun b hb => h.same b (Nat.lt_of_lt_of_le hb hn) (fun hm => by obtain ⟨o, ho⟩ := mem_keys.1 hm; have := (hL _ ho).1; simp only at this; omega)⟩,
  h.size, fun b o h1 h2 h3 => (h.same b (lt_of_block h1) (fun hm => by
   obtain ⟨o', ho⟩ := mem_keys.1 hm
   rcases (hL _ ho).2 with h4 | h4
   · exact h3 h4
   · have h5 := hH.own b o' ho
     rw [h1] at h5
     cases h5
     simp only at h4
     rw [h2] at h4
     cases h4)).trans h1, hO⟩
theorem KpD.resE {n₀ g m : Nat} {e tg : TypeId} {size n cap n' cap' : Nat} {xs xs' : List Value} {ao ao' : Option Addr} {lr lr' Y : List Blk} {gc gc' : Array Value} {ob ob' : Obj} {A B : World} (h1 : Row e size ao n cap xs lr) (h2 : Row e size ao' n' cap' xs' lr') (hob : ob.isCells = false)
  (hg : gc[3]? = some (.slice ao n cap)) (hg' : gc'[3]? = some (.slice ao' n' cap'))
  (K : Turn ((g, .cells gc tg) :: (m, ob) :: lr) A ((g, .cells gc' tg) :: (m, ob') :: (lr' ++ Y)) B) (hH : Has A ((g, .cells gc tg) :: (m, ob) :: lr)) (hn : ∀ b ∈ keys ((g, .cells gc tg) :: (m, ob) :: lr), n₀ ≤ b) : KpD n₀ (ResE g) A B := by
 have hlt := hH.lt (b := g) (by simp [keys])
 have hgn := hn g (by simp [keys])
 have hown : ∀ b ∈ keys lr, ResE g A b := by
  intro b hb
  rcases h1.2.2.2 with ⟨-, -, rfl⟩ | ⟨q, cur, rfl, rfl, -⟩
  · cases hb
  · have : b = q := by simpa [keys] using hb
    subst this
    exact .inr ⟨gc, (0, 0), tg, n, cap, hH.own g _ (by simp), hg⟩
 refine KpD.of2 K hH (by omega) (fun x hx => ⟨hn x.1 (mem_keys.2 ⟨x.2, hx⟩), ?_⟩) (fun b hb hd => ?_)
 · rcases List.mem_cons.1 hx with rfl | hx
   · exact .inl (.inl rfl)
   rcases List.mem_cons.1 hx with rfl | hx
   · exact .inr hob
   · exact .inl (hown x.1 (mem_keys.2 ⟨x.2, hx⟩))
 · rcases hd with hd | ⟨c, f, t, k, cp, hd, hc⟩
   · exact .inl hd
   · rw [K.has.own g _ (List.mem_cons_self ..)] at hd
     simp only [Option.some.injEq, Obj.cells.injEq] at hd
     obtain ⟨rfl, -, -⟩ := hd
     rw [hg'] at hc
     simp only [Option.some.injEq, Value.slice.injEq] at hc
     obtain ⟨rfl, -, -⟩ := hc
     rcases h2.2.2.2 with ⟨h3, -⟩ | ⟨q, cur, h3, rfl, -⟩
     · cases h3
     · cases h3
       rcases K.new b (by simp [keys]) with h4 | h4
       · have hnd := K.has.nd
         simp only [keys, List.map_cons, List.mem_cons] at h4
         rcases h4 with h4 | h4 | h4
         · exact .inl h4
         · rw [h4] at hnd
           simp [keys] at hnd
         · exact hown b h4
       · omega
theorem Turn.keepsFrom {L L' : List Blk} {W W' : World} {B : Nat} (h : Turn L W L' W') (hH : Has W L) (hc : ∀ x ∈ L, x.2.isCells = true ∨ x.1 < B) : KeepsFrom B W W' :=
 ⟨h.size, fun k o hb hk ho => (h.same k (lt_of_block hk) (fun hm => by
  obtain ⟨o', ho'⟩ := mem_keys.1 hm
  have h1 := hH.own k o' ho'
  rw [hk] at h1
  cases h1
  rcases hc _ ho' with h2 | h2
  · rw [ho] at h2
    cases h2
  · exact absurd h2 (Nat.not_lt.2 hb))).trans hk⟩
section
variable {P : Program} {w : World} {ops : Array Oper} {o : Oper} {a : Act} {K : Act → World → Prop} {Q : Exit → Act → World → Prop} {q : IntKind} {mp : List (Int × Value)} {b : Nat} {ob : Obj}
theorem step_mupdate {E : Prop} (hgd : o.guard = none) (m x v : Operand) (t : TypeId) (hop : o.op = Op.mapUpdate t m x v) (kt e : TypeId) (ht : P.underlying t = some (.map kt e)) (hk : P.underlying kt = some (.int q))
  (hm : a.eval m = .map (some b)) (hb : w.heap[b]? = some ob) (hmo : MapObj q mp ob) (k : Int) (hx : a.eval x = .int q k) (u : Value) (hv : a.eval v = u)
  (hK : ∀ o', MapObj q (mput mp k u) o' → K (a.put o.dst undef) { w with heap := w.heap.setIfInBounds b o' }) : if Region.wanted o (yielded ops a.tmps) = true then Oper.wp P o a w K Q else E := by
 have hw : Region.wanted o (yielded ops a.tmps) = true := by simp [Region.wanted, hgd]
 rw [if_pos hw]
 obtain ⟨o', ho', hrun⟩ := run_mupdate hb hmo ht hk k u
 unfold Oper.wp
 simp only [execOp, hop, hm, hx, hv, hrun, Sem.run_bind, Result.andThen_ok, Sem.run_pure]
 exact hK o' ho'
end
def mpOf (l : List Nat) : List (Int × Value) := l.foldl (fun (m : List (Int × Value)) (g : Nat) => mput m (g : Int) (.bool true)) []
theorem mpOf_snoc (l : List Nat) (g : Nat) : mpOf (l ++ [g]) = mput (mpOf l) (g : Int) (.bool true) := by unfold mpOf; rw [List.foldl_append]; rfl
theorem mpOf_fold : ∀ (l : List Nat) (m : List (Int × Value)) (k : Nat), mget (l.foldl (fun (m : List (Int × Value)) (g : Nat) => mput m (g : Int) (.bool true)) m) (k : Int) = if k ∈ l then some (.bool true) else mget m (k : Int)
 | [], m, k => by simp
 | g :: l, m, k => by
  rw [List.foldl_cons, mpOf_fold l, mget_put]
  by_cases h : k ∈ l
  · rw [if_pos h, if_pos (by simp [h])]
  · rw [if_neg h]
    by_cases hk : k = g
    · subst hk
      rw [if_pos rfl, if_pos (by simp)]
    · rw [if_neg (by omega), if_neg (by simp [h, hk])]
theorem mpOf_get (l : List Nat) (k : Nat) : mget (mpOf l) (k : Int) = if k ∈ l then some (.bool true) else none := mpOf_fold l [] k
theorem mapObj_cells {q : IntKind} {m : List (Int × Value)} {o : Obj} (h : MapObj q m o) : o.isCells = false := by
 obtain ⟨es, c, rfl, -⟩ := h
 rfl
theorem ats_snoc (pre : List Ce) (x : Ce) : ats (pre ++ [x]) = ats pre ++ if x.2.tag = 1 then [x.1] else [] := by
 have h := ats_next (cs := pre ++ [x]) (i := pre.length) (c := x) (by simp)
 rw [List.take_of_length_le (by simp), List.take_left'] at h
 · exact h
 · rfl
theorem ats_len (cs : List Ce) : (ats cs).length ≤ cs.length := by
 unfold ats objs
 rw [List.length_map]
 exact List.length_filter_le ..
end
section
open Go Go.RowKit Go.Shelf Go.IntWalk
attribute [local go_sem] Oper.semAt_some
theorem wpIn_abs {F : Fence} {n : Nat} {P : Program} {c : Code} {Q : Exit → Act → World → Prop} {a : Act} {w : World} (I : World → Prop) (h0 : I w) (h : ∀ W, I W → c.wpIn F n P Q a W) : c.wpIn F n P Q a w := h w h0
theorem endOf_snoc2 (pre : List Ce) (x : Ce) : endOf 0 (pre ++ [x]) = x.1 + x.2.size := endOf_snoc pre x 0
theorem wthrough (w : World) (a aw tb : Nat) {W : List Nat} (tao : Option Addr) (tcap : Nat) (L : List Ty) (hA : WkAt w a aw tb W tao tcap L) (hf : W.length ≤ 65536) (hu : ∀ v ∈ W, v < 18446744073709551616) (hTy : ∀ t ∈ L, TyIn t) (hL : L.length ≤ 1000)
  (cs : List Ce) (hC : Chain L W 0 cs (W.length / 2)) :
  Calls Tryz.prog 146 #[.pointer (some ⟨a, 0, none⟩), .pointer (some ⟨tb, 0, none⟩)] w fun e w' => ∃ (g m : Nat) (ob : Obj) (ao : Option Addr) (cap : Nat) (lr : List Blk), e = .returned (.pointer (some ⟨g, 0, none⟩)) ∧ MapObj .i64 (mpOf (ats cs)) ob ∧ Row 3 1 ao (ats cs).length cap (nats (ats cs)) lr ∧
   Turn [] w ((g, .cells #[.pointer (some ⟨a, 0, none⟩), .pointer (some ⟨tb, 0, none⟩), .map (some m), .slice ao (ats cs).length cap, .int .i64 (endOf 0 cs : Nat)] 334) :: (m, ob) :: lr) w' := by
 refine (callsIn_wide (n := 6)).1 ?_
 have h3 : Fence.wide.fn 146 := trivial
 have h6 : Fence.wide.fn 201 := trivial
 have h7 : Fence.wide.fn 243 := trivial
 have hro : Fence.wide.round = none := rfl
 have h1 : 1 ≤ 6 := by omega
 have hlen := hC.len
 have hcl : cs.length ≤ 32768 := by omega
 have Hend := uh (fun x (hx : x ∈ cs) => (hC.mem x hx).2.1)
 refine callsIn_of_wp_marks Tryz.func146 rfl h3 ?_ hro
 simp only [Tryz.ntmps146, List.size_toArray, List.length_cons, List.length_nil, Nat.reduceAdd, Nat.reduceSub, Array.replicate_succ, Array.replicate_zero, List.push_toArray, List.append_toArray, List.nil_append, List.cons_append]
 have HIt := uh (fun Bs Bt D G hGD hDD w0 hw hBs hBt => wcells_g (6 - 1) (by omega) w a aw tb W tao tcap L hA hf hu hTy hL cs hC Bs Bt D G hGD hDD w0 hw hBs hBt)
 have hT0 := uh (Turn.refl (Has.nil w))
 have hmm := @run_makeMap Tryz.prog
 clear hA hC hu hTy hlen
 gi_wp2_with (first
  | (gi_at_call 201; refine (wcells_in (6 - 1) a tb _).mono ?_; rintro e w' ⟨rfl, hw⟩; rw [hw]; clear hw w')
  | fail)
 obtain ⟨n4, hn4⟩ : ∃ n4, w.heap.size = n4 := ⟨_, rfl⟩
 have T5 := ((((hT0.out.alloc (.map #[] 0)).alloc (.cells #[.pointer (some ⟨a, 0, none⟩), .pointer (some ⟨tb, 0, none⟩), .map (some w.heap.size), .slice none 0 0, .int .i64 0] 334)).alloc (.cells #[.pointer (some ⟨w.heap.size + 1, 0, none⟩)] 260)).alloc (.cells #[.pointer (some ⟨a, 0, none⟩)] 112)).alloc (.cells #[.pointer (some ⟨tb, 0, none⟩)] 119)
 simp only [World.size_alloc] at T5
 have hsz0 : (((((w.alloc (.map #[] 0)).alloc (.cells #[.pointer (some ⟨a, 0, none⟩), .pointer (some ⟨tb, 0, none⟩), .map (some w.heap.size), .slice none 0 0, .int .i64 0] 334)).alloc (.cells #[.pointer (some ⟨w.heap.size + 1, 0, none⟩)] 260)).alloc (.cells #[.pointer (some ⟨a, 0, none⟩)] 112)).alloc (.cells #[.pointer (some ⟨tb, 0, none⟩)] 119)).heap.size = w.heap.size + 1 + 1 + 1 + 1 + 1 := by simp
 generalize ((((w.alloc (.map #[] 0)).alloc (.cells #[.pointer (some ⟨a, 0, none⟩), .pointer (some ⟨tb, 0, none⟩), .map (some w.heap.size), .slice none 0 0, .int .i64 0] 334)).alloc (.cells #[.pointer (some ⟨w.heap.size + 1, 0, none⟩)] 260)).alloc (.cells #[.pointer (some ⟨a, 0, none⟩)] 112)).alloc (.cells #[.pointer (some ⟨tb, 0, none⟩)] 119) = W0 at T5 hsz0 ⊢
 have R8 : Below w.heap.size w W0 := T5.below
 rw [hn4] at T5 hsz0 ⊢
 clear hT0 hmm
 have T8 : Turn [] w ((n4 + 1, .cells #[.pointer (some ⟨a, 0, none⟩), .pointer (some ⟨tb, 0, none⟩), .map (some n4), .slice none 0 0, .int .i64 0] 334) :: (n4, .map #[] 0) :: ([] ++ [(n4 + 1 + 1, .cells #[.pointer (some ⟨n4 + 1, 0, none⟩)] 260), (n4 + 1 + 1 + 1, .cells #[.pointer (some ⟨a, 0, none⟩)] 112), (n4 + 1 + 1 + 1 + 1, .cells #[.pointer (some ⟨tb, 0, none⟩)] 119)])) W0 := T5.perm po
 clear T5
 have hBs : W0.heap[n4 + 1 + 1 + 1]? = some (.cells #[.pointer (some ⟨a, 0, none⟩)] 112) := T8.has.own _ _ (by simp)
 have hBt : W0.heap[n4 + 1 + 1 + 1 + 1]? = some (.cells #[.pointer (some ⟨tb, 0, none⟩)] 119) := T8.has.own _ _ (by simp)
 have hw0W : w.heap.size ≤ W0.heap.size := R8.size
 have hAc : ∀ (lr : List Blk) (ob : Obj) (gc : Array Value), (∀ x ∈ lr, x.2.isCells = true) → ∀ x ∈ ((n4 + 1, .cells gc 334) : Blk) :: (n4, ob) :: (lr ++ [(n4 + 1 + 1, .cells #[.pointer (some ⟨n4 + 1, 0, none⟩)] 260), (n4 + 1 + 1 + 1, .cells #[.pointer (some ⟨a, 0, none⟩)] 112), (n4 + 1 + 1 + 1 + 1, .cells #[.pointer (some ⟨tb, 0, none⟩)] 119)]), x.2.isCells = true ∨ x.1 < W0.heap.size := fun lr ob gc hl x hx => by
  simp only [List.mem_cons, List.mem_append, List.not_mem_nil, or_false] at hx
  rcases hx with rfl | rfl | hx | rfl | rfl | rfl
  · exact .inl rfl
  · exact .inr (by show n4 < W0.heap.size; omega)
  · exact .inl (hl x hx)
  · exact .inl rfl
  · exact .inl rfl
  · exact .inl rfl
 apply wpIn_rangeFunc_g (β := Nat) hro h1 (gf := 243) (lb := #[.pointer (some ⟨n4 + 1 + 1 + 1, 0, none⟩), .pointer (some ⟨n4 + 1 + 1 + 1 + 1, 0, none⟩)]) rfl h7 (enters_of Tryz.func243 (by kernel_rfl) rfl)
  (HIt.out (n4 + 1 + 1 + 1) (n4 + 1 + 1 + 1 + 1) (ResE (n4 + 1)) (ResEG (n4 + 1) (n4 + 1 + 1 + 1) (n4 + 1 + 1 + 1 + 1)) (fun A h => h) (fun A B b hg hB => ResE.old hg hB) W0 R8 hBs hBt)
  (fun h k => h.t k) (KpD.b (by omega) (fun W l o' hl b => ResE.put (by omega) o')) (Below.refl _ _) (fun _ => rfl)
  (fun pre W' => ∃ ao cap lr ob, MapObj .i64 (mpOf (ats pre)) ob ∧ Row 3 1 ao (ats pre).length cap (nats (ats pre)) lr ∧ pre.length ≤ 32768 ∧ Turn [] w ((n4 + 1, .cells #[.pointer (some ⟨a, 0, none⟩), .pointer (some ⟨tb, 0, none⟩), .map (some n4), .slice ao (ats pre).length cap, .int .i64 (endOf 0 pre : Nat)] 334) :: (n4, ob) :: (lr ++ [(n4 + 1 + 1, .cells #[.pointer (some ⟨n4 + 1, 0, none⟩)] 260), (n4 + 1 + 1 + 1, .cells #[.pointer (some ⟨a, 0, none⟩)] 112), (n4 + 1 + 1 + 1 + 1, .cells #[.pointer (some ⟨tb, 0, none⟩)] 119)])) W')
  (fun x nb pre W' => ∃ ao cap lr ob, MapObj .i64 (mpOf (ats pre)) ob ∧ Row 3 1 ao (ats pre).length cap (nats (ats pre)) lr ∧ pre.length + 1 ≤ 32768 ∧ Turn [] w ((nb, ceObj x) :: (n4 + 1, .cells #[.pointer (some ⟨a, 0, none⟩), .pointer (some ⟨tb, 0, none⟩), .map (some n4), .slice ao (ats pre).length cap, .int .i64 (endOf 0 pre : Nat)] 334) :: (n4, ob) :: (lr ++ [(n4 + 1 + 1, .cells #[.pointer (some ⟨n4 + 1, 0, none⟩)] 260), (n4 + 1 + 1 + 1, .cells #[.pointer (some ⟨a, 0, none⟩)] 112), (n4 + 1 + 1 + 1 + 1, .cells #[.pointer (some ⟨tb, 0, none⟩)] 119)])) W')
  (fun s A D row ⟨ao, cap, lr, ob, e0, e1, e2, hT⟩ hg hr => ⟨ao, cap, lr, ob, e0, e1, e2, hT.grownC hw0W (hAc lr ob _ e1.cells) hg hr⟩)
  (fun x nb s A D row ⟨ao, cap, lr, ob, e0, e1, e2, hT⟩ hg hr => ⟨ao, cap, lr, ob, e0, e1, e2, hT.grownC hw0W (by
    intro y hy
    rcases List.mem_cons.1 hy with rfl | hy
    · exact .inl rfl
    · exact hAc lr ob _ e1.cells y hy) hg hr⟩)
  ⟨none, 0, [], _, MapObj.new .i64, Row.nil _ _, by simp, T8⟩
  (fun pre W' ⟨ao, cap, lr, ob, e0, e1, e2, hT⟩ => resE_of e1 rfl hT)
 case hassign =>
  rintro l1 pre x W2 ⟨post, hnx⟩ ⟨ao, cap, lr, ob, e0, e1, e2, hT⟩
  have hpl : pre.length + 1 ≤ 32768 := by rw [hnx, List.length_append, List.length_cons] at hcl; omega
  have T2 := hT.alloc (.cells #[.int .i64 0, .int .u8 0, .int .i64 0, .int .i64 0, .int .i64 0] 81)
  have hth : (W2.alloc (.cells #[.int .i64 0, .int .u8 0, .int .i64 0, .int .i64 0, .int .i64 0] 81)).there W2.heap.size 0 5 := T2.there1
  have HT2 := uh (T2.laid [.int .i64 x.1, .int .u8 x.2.tag, .int .i64 x.2.typ, .int .i64 x.2.len, .int .i64 x.2.size] rfl)
  have HX := uh (((Turn.refl (Has.nil W2)).alloc (.cells #[.int .i64 0, .int .u8 0, .int .i64 0, .int .i64 0, .int .i64 0] 81)).laid [.int .i64 x.1, .int .u8 x.2.tag, .int .i64 x.2.typ, .int .i64 x.2.len, .int .i64 x.2.size] rfl)
  have hszC := sz_cell
  have hoC := ce_one x
  have hGb := resE_of e1 rfl hT
  have hE := uh (⟨e0, e1⟩ : MapObj .i64 (mpOf (ats pre)) ob ∧ Row 3 1 ao (ats pre).length cap (nats (ats pre)) lr)
  have hw2 := hT.size
  unfold ceArgs
  clear T2 hnx hT e1 e0
  gi_wp2_with (first
   | (show wpListIn _ _ _ _ _ (⟨_, Op.store 81 _ _, _, _, _, _⟩ :: _) _ _; refine wpListIn_by (follows_round _ _ _) rfl (by intro c h; cases h) (wp_store_mid 81 _ _ rfl _ 0 #[.int .i64 x.1, .int .u8 x.2.tag, .int .i64 x.2.typ, .int .i64 x.2.len, .int .i64 x.2.size] rfl rfl hth hszC hoC ?_); clear hth)
   | fail)
  have HK := uh (⟨((KeepsOthers.alloc _ _).trans (keepsOthers_setCells _ _ _)).from _, KpD.of HX.out (by omega) (fun b hb => by cases hb) (fun b hb hd => ResE.old hGb HX.out.below hd)⟩ :
   KeepsFrom W0.heap.size W2 ((W2.alloc (.cells #[.int .i64 0, .int .u8 0, .int .i64 0, .int .i64 0, .int .i64 0] 81)).setCells W2.heap.size 0 [.int .i64 x.1, .int .u8 x.2.tag, .int .i64 x.2.typ, .int .i64 x.2.len, .int .i64 x.2.size]) ∧ KpD w.heap.size (ResE (n4 + 1)) W2 ((W2.alloc (.cells #[.int .i64 0, .int .u8 0, .int .i64 0, .int .i64 0, .int .i64 0] 81)).setCells W2.heap.size 0 [.int .i64 x.1, .int .u8 x.2.tag, .int .i64 x.2.typ, .int .i64 x.2.len, .int .i64 x.2.size]))
  clear HX hoC hGb
  generalize (W2.alloc (.cells #[.int .i64 0, .int .u8 0, .int .i64 0, .int .i64 0, .int .i64 0] 81)).setCells W2.heap.size 0 [.int .i64 x.1, .int .u8 x.2.tag, .int .i64 x.2.typ, .int .i64 x.2.len, .int .i64 x.2.size] = W3 at *
  generalize W2.heap.size = nb at *
  exact ⟨HK.out.1, HK.out.2, nb, rfl, ao, cap, lr, ob, hE.out.1, hE.out.2, hpl, HT2.out⟩
 case hbody =>
  rintro l1 pre x nb W2 ⟨post, hnx⟩ ⟨ao, cap, lr, ob, e0, e1, e2, hT⟩
  have hxe : x.1 + x.2.size ≤ 32768 := by have := Hend.out x (by rw [hnx]; simp); omega
  have hal := ats_len pre
  -- what this client turns: L0; what lies beside it: R0
  have hT0 : Turn [] w (((n4 + 1, .cells #[.pointer (some ⟨a, 0, none⟩), .pointer (some ⟨tb, 0, none⟩), .map (some n4), .slice ao (ats pre).length cap, .int .i64 (endOf 0 pre : Nat)] 334) :: (n4, ob) :: lr) ++ ((nb, ceObj x) :: [(n4 + 1 + 1, .cells #[.pointer (some ⟨n4 + 1, 0, none⟩)] 260), (n4 + 1 + 1 + 1, .cells #[.pointer (some ⟨a, 0, none⟩)] 112), (n4 + 1 + 1 + 1 + 1, .cells #[.pointer (some ⟨tb, 0, none⟩)] 119)])) W2 := hT.perm po
  have hH0 : Has W2 ((n4 + 1, .cells #[.pointer (some ⟨a, 0, none⟩), .pointer (some ⟨tb, 0, none⟩), .map (some n4), .slice ao (ats pre).length cap, .int .i64 (endOf 0 pre : Nat)] 334) :: (n4, ob) :: lr) := hT0.has.left
  have HTK := uh (fun w' (L1 : List Blk) (K : Turn ((n4 + 1, .cells #[.pointer (some ⟨a, 0, none⟩), .pointer (some ⟨tb, 0, none⟩), .map (some n4), .slice ao (ats pre).length cap, .int .i64 (endOf 0 pre : Nat)] 334) :: (n4, ob) :: lr) W2 L1 w') => hT0.trans (K.more hT0.has))
  have HH0 := uh hH0
  have hn0 : ∀ b ∈ keys ((n4 + 1, .cells #[.pointer (some ⟨a, 0, none⟩), .pointer (some ⟨tb, 0, none⟩), .map (some n4), .slice ao (ats pre).length cap, .int .i64 (endOf 0 pre : Nat)] 334) :: (n4, ob) :: lr), w.heap.size ≤ b := fun b hb => (hT0.new b (by rw [keys_append, List.mem_append]; exact .inl hb)).resolve_left (by simp [keys])
  have HFin := uh (fun w' (ao' : Option Addr) (n' cap' : Nat) (xs' : List Value) (en : Int) (ob' : Obj) (lr' Z : List Blk) (h2 : Row 3 1 ao' n' cap' xs' lr') (K : Turn ((n4 + 1, .cells #[.pointer (some ⟨a, 0, none⟩), .pointer (some ⟨tb, 0, none⟩), .map (some n4), .slice ao (ats pre).length cap, .int .i64 (endOf 0 pre : Nat)] 334) :: (n4, ob) :: lr) W2 ((n4 + 1, .cells #[.pointer (some ⟨a, 0, none⟩), .pointer (some ⟨tb, 0, none⟩), .map (some n4), .slice ao' n' cap', .int .i64 en] 334) :: (n4, ob') :: (lr' ++ Z)) w') =>
   (⟨Turn.keepsFrom K hH0 (fun y hy => by
       rcases List.mem_cons.1 hy with rfl | hy
       · exact .inl rfl
       rcases List.mem_cons.1 hy with rfl | hy
       · exact .inr (by show n4 < W0.heap.size; omega)
       · exact .inl (e1.cells y hy)), KpD.resE e1 h2 (mapObj_cells e0) rfl rfl K hH0 hn0⟩ : KeepsFrom W0.heap.size W2 w' ∧ KpD w.heap.size (ResE (n4 + 1)) W2 w'))
  have HS := uh (fun w' (ao' : Option Addr) (n' cap' : Nat) (en : Int) (Z : List Blk) (K : Turn ((n4 + 1, .cells #[.pointer (some ⟨a, 0, none⟩), .pointer (some ⟨tb, 0, none⟩), .map (some n4), .slice ao (ats pre).length cap, .int .i64 (endOf 0 pre : Nat)] 334) :: (n4, ob) :: lr) W2 ((n4 + 1, .cells #[.pointer (some ⟨a, 0, none⟩), .pointer (some ⟨tb, 0, none⟩), .map (some n4), .slice ao' n' cap', .int .i64 en] 334) :: Z) w') => by
   have T := HTK.out w' _ K
   have hxr := T.has.range (b := nb) (c := #[.int .i64 x.1, .int .u8 x.2.tag, .int .i64 x.2.typ, .int .i64 x.2.len, .int .i64 x.2.size]) (e := 81) (f := (0, 0)) (by simp [ceObj])
   exact (⟨T.has.cell (b := n4 + 1 + 1) (c := #[.pointer (some ⟨n4 + 1, 0, none⟩)]) (e := 260) (f := (0, 0)) (by simp) 0, K.cell1 2, K.cell1 3, hxr⟩ :
    w'.cell? ⟨n4 + 1 + 1, 0, none⟩ = some (.pointer (some ⟨n4 + 1, 0, none⟩)) ∧ w'.cell? ⟨n4 + 1, 2, none⟩ = some (.map (some n4)) ∧ w'.cell? ⟨n4 + 1, 3, none⟩ = some (.slice ao' n' cap') ∧ w'.rangeAt nb 0 [.int .i64 x.1, .int .u8 x.2.tag, .int .i64 x.2.typ, .int .i64 x.2.len, .int .i64 x.2.size]))
  have HE0 := uh e0
  have HE1 := uh e1
  have HSn := uh (ats_snoc pre x)
  have HEn := uh (endOf_snoc2 pre x)
  have hK0 := Turn.refl hH0
  have hS0 := HS.out W2 _ _ _ _ _ hK0
  have q1 := hS0.2.2.2 1 _ rfl
  have h63 : (ats pre).length + 1 ≤ maxLen := by unfold maxLen; omega
  have hby : ((ats pre).length + 1) * 8 ≤ 140737488355328 := by omega
  clear e0 e1 hT hT0 hH0 hn0 hnx
  by_cases ht : x.2.tag = 1
  · rw [if_pos ht] at HSn
    have k1 : ((x.2.tag : Int) == 1) = true := by rw [beq_iff_eq]; omega
    have k2 : (x.2.tag == 1) = true := by rw [beq_iff_eq]; exact ht
    have HK0 := uh hK0.drew
    clear hK0 ht hS0
    gi_wp2_with fail
    clear q1
    have hS1 := HS.out _ _ _ _ _ _ HK0.out
    refine wpIn_region_round (S := fun W' => W'.cell? ⟨n4 + 1 + 1, 0, none⟩ = some (.pointer (some ⟨n4 + 1, 0, none⟩)) ∧ W'.cell? ⟨n4 + 1, 2, none⟩ = some (.map (some n4)) ∧ W'.cell? ⟨n4 + 1, 3, none⟩ = some (.slice ao (ats pre).length cap) ∧ W'.rangeAt nb 0 [.int .i64 x.1, .int .u8 x.2.tag, .int .i64 x.2.typ, .int .i64 x.2.len, .int .i64 x.2.size]) 7 [false, false, false, false, false, false, false] rfl rfl (by kernel_rfl) (by rfl) (by rintro ⟨a, w, h⟩; exact h) ?_
    refine tkB 0 20 hS1 (fun w hSw => hSw.1) ?_
    refine tkA 1 21 hS1 ?_
    refine tkA 2 22 hS1 ?_
    refine tkB 3 23 hS1 (fun w hSw => hSw.2.1) ?_
    refine tkA 4 24 hS1 ?_
    refine tkB 5 25 hS1 (fun w hSw => hSw.2.2.2 0 _ rfl) ?_
    refine rdyA 6 (fun K hK => ?_)
    refine step_mupdate (q := .i64) rfl _ _ _ 332 rfl 3 4 Tryz.underlying332 Tryz.underlying3 rfl (HK0.out.has.own n4 ob (by simp)) HE0.out (x.1 : Int) rfl (.bool true) rfl ?_
    intro ob' hob'
    have K2 := (HK0.out.swap.setBlk ob').swap
    have hS2 := HS.out _ _ _ _ _ _ K2
    have HK2 := uh K2
    have Hob := uh hob'
    refine hK.out _ _ hS2 fun _ => ?_
    clear hK K K2 hob' hS1 HK0
    simp only [st0, st1, st2]
    refine wpAnyH_done (by kernel_rfl) ?_ _
    clear hS2
    gi_wp2_with fail
    refine wpIn_abs (fun W' => Turn ((n4 + 1, .cells #[.pointer (some ⟨a, 0, none⟩), .pointer (some ⟨tb, 0, none⟩), .map (some n4), .slice ao (ats pre).length cap, .int .i64 (endOf 0 pre : Nat)] 334) :: (n4, ob) :: lr) W2 ((n4 + 1, .cells #[.pointer (some ⟨a, 0, none⟩), .pointer (some ⟨tb, 0, none⟩), .map (some n4), .slice ao (ats pre).length cap, .int .i64 (endOf 0 pre : Nat)] 334) :: (n4, ob') :: lr) W'.drew) HK2.out.drew fun W3 K3 => ?_
    clear HK2
    refine wpIn_region_round (S := fun W' => W'.cell? ⟨n4 + 1 + 1, 0, none⟩ = some (.pointer (some ⟨n4 + 1, 0, none⟩)) ∧ W'.rangeAt nb 0 [.int .i64 x.1, .int .u8 x.2.tag, .int .i64 x.2.typ, .int .i64 x.2.len, .int .i64 x.2.size]) 12 [false, false, false, false, false, false, false, false, false, false, false, false] rfl rfl (by kernel_rfl) (by rfl) (by rintro ⟨a, w, h⟩; exact h) ?_
    generalize W3.drew = W5 at *
    have HK3 := uh K3
    have hS3 := HS.out _ _ _ _ _ _ K3
    have q3 := hS3.2.2.1
    have hS3b : W5.cell? ⟨n4 + 1 + 1, 0, none⟩ = some (.pointer (some ⟨n4 + 1, 0, none⟩)) ∧ W5.rangeAt nb 0 [.int .i64 x.1, .int .u8 x.2.tag, .int .i64 x.2.typ, .int .i64 x.2.len, .int .i64 x.2.size] := ⟨hS3.1, hS3.2.2.2⟩
    have K4 := K3.alloc (.cells #[.int .i64 x.1] 3)
    have hS4 := HS.out _ _ _ _ _ _ (K4.perm (l2 := (n4 + 1, .cells #[.pointer (some ⟨a, 0, none⟩), .pointer (some ⟨tb, 0, none⟩), .map (some n4), .slice ao (ats pre).length cap, .int .i64 (endOf 0 pre : Nat)] 334) :: ((n4, ob') :: (lr ++ [(W5.heap.size, (.cells #[.int .i64 x.1] 3))]))) po)
    have q4 := hS4.2.2.1
    have hS4b := (⟨hS4.1, hS4.2.2.2⟩ : (fun W' => W'.cell? ⟨n4 + 1 + 1, 0, none⟩ = some (.pointer (some ⟨n4 + 1, 0, none⟩)) ∧ W'.rangeAt nb 0 [.int .i64 x.1, .int .u8 x.2.tag, .int .i64 x.2.typ, .int .i64 x.2.len, .int .i64 x.2.size]) (W5.alloc (.cells #[.int .i64 x.1] 3)))
    have HK4 := uh K4
    clear K3 K4 hS3 hS4
    refine tkB 0 26 hS3b (fun w hSw => hSw.1) ?_
    refine tkB 1 27 hS3b (fun w hSw => hSw.1) ?_
    refine tkA 2 28 hS3b ?_
    refine tkA 3 29 hS3b ?_
    refine tkA 5 31 hS3b ?_
    refine tkB 6 32 hS3b (fun w hSw => hSw.2 0 _ rfl) ?_
    refine wpAnyH_ready (rs := [4, 7]) (by kernel_rfl) (by simp) (AllReadyH.cons rfl (fun K hK => ?_) (AllReadyH.cons rfl (fun K hK => ?_) AllReadyH.nil))
    · go_simp
      refine hK.out _ _ hS3b fun _ => ?_
      clear hK K
      simp only [st0, st1, st2]
      refine rdyA 7 (fun K hK => ?_)
      go_simp
      refine hK.out _ _ hS4b fun _ => ?_
      clear hK K
      simp only [st0, st1, st2]
      refine rdyA 8 (fun K hK => ?_)
      refine step_append_row rfl _ _ rfl el_int rfl HE1.out (R := [(W5.heap.size, (.cells #[.int .i64 x.1] 3)), (n4 + 1, .cells #[.pointer (some ⟨a, 0, none⟩), .pointer (some ⟨tb, 0, none⟩), .map (some n4), .slice ao (ats pre).length cap, .int .i64 (endOf 0 pre : Nat)] 334), (n4, ob')]) (HK4.out.perm po).has rfl (news := [.int .i64 x.1]) rfl (news_of (heap_alloc_new _ _)) (by simp [Value.oneCell']) h63 hby ?_
      intro a9 p9 l9 w4 hr9 V4 hno
      have K5 := ((HK4.out.perm po).trans V4).perm (l2 := (n4 + 1, .cells #[.pointer (some ⟨a, 0, none⟩), .pointer (some ⟨tb, 0, none⟩), .map (some n4), .slice ao (ats pre).length cap, .int .i64 (endOf 0 pre : Nat)] 334) :: ((n4, ob') :: (l9 ++ [(W5.heap.size, (.cells #[.int .i64 x.1] 3))]))) po
      have hS5 := HS.out _ _ _ _ _ _ K5
      have Hr9 := uh hr9
      have hq5 := K5.cell1 3
      have hf5 := K5.free1 3
      have hS5b : w4.cell? ⟨n4 + 1 + 1, 0, none⟩ = some (.pointer (some ⟨n4 + 1, 0, none⟩)) ∧ w4.rangeAt nb 0 [.int .i64 x.1, .int .u8 x.2.tag, .int .i64 x.2.typ, .int .i64 x.2.len, .int .i64 x.2.size] := ⟨hS5.1, hS5.2.2.2⟩
      have K6 : Turn ((n4 + 1, .cells #[.pointer (some ⟨a, 0, none⟩), .pointer (some ⟨tb, 0, none⟩), .map (some n4), .slice ao (ats pre).length cap, .int .i64 (endOf 0 pre : Nat)] 334) :: (n4, ob) :: lr) W2 ((n4 + 1, .cells #[.pointer (some ⟨a, 0, none⟩), .pointer (some ⟨tb, 0, none⟩), .map (some n4), .slice a9 ((ats pre).length + 1) p9, .int .i64 (endOf 0 pre : Nat)] 334) :: ((n4, ob') :: (l9 ++ [(W5.heap.size, (.cells #[.int .i64 x.1] 3))]))) _ := K5.setCell 3 (.slice a9 ((ats pre).length + 1) p9)
      have hS6 := HS.out _ _ _ _ _ _ K6
      have hS6b := (⟨hS6.1, hS6.2.2.2⟩ : (fun W' => W'.cell? ⟨n4 + 1 + 1, 0, none⟩ = some (.pointer (some ⟨n4 + 1, 0, none⟩)) ∧ W'.rangeAt nb 0 [.int .i64 x.1, .int .u8 x.2.tag, .int .i64 x.2.typ, .int .i64 x.2.len, .int .i64 x.2.size]) (w4.setCell ⟨n4 + 1, 3, none⟩ (.slice a9 ((ats pre).length + 1) p9)))
      have HK6 := uh K6
      refine hK.out _ _ hS5b fun _ => ?_
      clear hK K V4 hno hr9 HK4 hS5 K5 hS6 K6
      simp only [st0, st1, st2]
      refine tkA 9 35 hS5b ?_
      refine tkA 10 36 hS5b ?_
      clear hS5b
      refine rdyA 11 (fun K hK => ?_)
      go_simp
      refine hK.out _ _ hS6b fun _ => ?_
      clear hK K hq5 hf5
      generalize w4.setCell ⟨n4 + 1, 3, none⟩ (.slice a9 ((ats pre).length + 1) p9) = w7 at *
      simp only [st0, st1, st2]
      refine wpAnyH_done (by kernel_rfl) ?_ _
      have hS7 := HS.out _ _ _ _ _ _ HK6.out
      have p1 := hS7.1
      have p2 := hS7.2.2.2 0 _ rfl
      have p3 := hS7.2.2.2 4 _ rfl
      have p4 := HK6.out.cell1 4
      have p5 := HK6.out.free1 4
      have HK7 := uh (HK6.out.setCell 4 (.int .i64 (x.1 + x.2.size)))
      clear hS7 hS6b HK6
      gi_wp2_with fail
      have hkk := HFin.out _ a9 ((ats pre).length + 1) p9 _ _ ob' l9 [(W5.heap.size, (.cells #[.int .i64 x.1] 3))] Hr9.out HK7.out
      have hT9 := HTK.out _ _ HK7.out
      have hl1 : (ats (pre ++ [x])).length = (ats pre).length + 1 := by rw [HSn.out]; simp
      refine ⟨hkk.1, hkk.2, a9, p9, l9, ob', by rw [HSn.out, mpOf_snoc]; exact Hob.out, ?_, by simp; omega, ?_⟩
      · rw [hl1, HSn.out, nats_append]
        exact Hr9.out
      · rw [hl1, HEn.out]
        exact (hT9.perm (l2 := [(W5.heap.size, (.cells #[.int .i64 x.1] 3)), (nb, ceObj x)] ++ ((n4 + 1, .cells #[.pointer (some ⟨a, 0, none⟩), .pointer (some ⟨tb, 0, none⟩), .map (some n4), .slice a9 ((ats pre).length + 1) p9, .int .i64 ((x.1 + x.2.size : Nat) : Int)] 334) :: (n4, ob') :: (l9 ++ [(n4 + 1 + 1, .cells #[.pointer (some ⟨n4 + 1, 0, none⟩)] 260), (n4 + 1 + 1 + 1, .cells #[.pointer (some ⟨a, 0, none⟩)] 112), (n4 + 1 + 1 + 1 + 1, .cells #[.pointer (some ⟨tb, 0, none⟩)] 119)]))) po).drop
    · go_simp
      refine hK.out _ _ hS4b fun _ => ?_
      clear hK K
      simp only [st0, st1, st2]
      refine rdyA 4 (fun K hK => ?_)
      go_simp
      refine hK.out _ _ hS4b fun _ => ?_
      clear hK K
      simp only [st0, st1, st2]
      refine rdyA 8 (fun K hK => ?_)
      refine step_append_row rfl _ _ rfl el_int rfl HE1.out (R := [(W5.heap.size, (.cells #[.int .i64 x.1] 3)), (n4 + 1, .cells #[.pointer (some ⟨a, 0, none⟩), .pointer (some ⟨tb, 0, none⟩), .map (some n4), .slice ao (ats pre).length cap, .int .i64 (endOf 0 pre : Nat)] 334), (n4, ob')]) (HK4.out.perm po).has rfl (news := [.int .i64 x.1]) rfl (news_of (heap_alloc_new _ _)) (by simp [Value.oneCell']) h63 hby ?_
      intro a9 p9 l9 w4 hr9 V4 hno
      have K5 := ((HK4.out.perm po).trans V4).perm (l2 := (n4 + 1, .cells #[.pointer (some ⟨a, 0, none⟩), .pointer (some ⟨tb, 0, none⟩), .map (some n4), .slice ao (ats pre).length cap, .int .i64 (endOf 0 pre : Nat)] 334) :: ((n4, ob') :: (l9 ++ [(W5.heap.size, (.cells #[.int .i64 x.1] 3))]))) po
      have hS5 := HS.out _ _ _ _ _ _ K5
      have Hr9 := uh hr9
      have hq5 := K5.cell1 3
      have hf5 := K5.free1 3
      have hS5b : w4.cell? ⟨n4 + 1 + 1, 0, none⟩ = some (.pointer (some ⟨n4 + 1, 0, none⟩)) ∧ w4.rangeAt nb 0 [.int .i64 x.1, .int .u8 x.2.tag, .int .i64 x.2.typ, .int .i64 x.2.len, .int .i64 x.2.size] := ⟨hS5.1, hS5.2.2.2⟩
      have K6 : Turn ((n4 + 1, .cells #[.pointer (some ⟨a, 0, none⟩), .pointer (some ⟨tb, 0, none⟩), .map (some n4), .slice ao (ats pre).length cap, .int .i64 (endOf 0 pre : Nat)] 334) :: (n4, ob) :: lr) W2 ((n4 + 1, .cells #[.pointer (some ⟨a, 0, none⟩), .pointer (some ⟨tb, 0, none⟩), .map (some n4), .slice a9 ((ats pre).length + 1) p9, .int .i64 (endOf 0 pre : Nat)] 334) :: ((n4, ob') :: (l9 ++ [(W5.heap.size, (.cells #[.int .i64 x.1] 3))]))) _ := K5.setCell 3 (.slice a9 ((ats pre).length + 1) p9)
      have hS6 := HS.out _ _ _ _ _ _ K6
      have hS6b := (⟨hS6.1, hS6.2.2.2⟩ : (fun W' => W'.cell? ⟨n4 + 1 + 1, 0, none⟩ = some (.pointer (some ⟨n4 + 1, 0, none⟩)) ∧ W'.rangeAt nb 0 [.int .i64 x.1, .int .u8 x.2.tag, .int .i64 x.2.typ, .int .i64 x.2.len, .int .i64 x.2.size]) (w4.setCell ⟨n4 + 1, 3, none⟩ (.slice a9 ((ats pre).length + 1) p9)))
      have HK6 := uh K6
      refine hK.out _ _ hS5b fun _ => ?_
      clear hK K V4 hno hr9 HK4 hS5 K5 hS6 K6
      simp only [st0, st1, st2]
      refine tkA 9 35 hS5b ?_
      refine tkA 10 36 hS5b ?_
      clear hS5b
      refine rdyA 11 (fun K hK => ?_)
      go_simp
      refine hK.out _ _ hS6b fun _ => ?_
      clear hK K hq5 hf5
      generalize w4.setCell ⟨n4 + 1, 3, none⟩ (.slice a9 ((ats pre).length + 1) p9) = w7 at *
      simp only [st0, st1, st2]
      refine wpAnyH_done (by kernel_rfl) ?_ _
      have hS7 := HS.out _ _ _ _ _ _ HK6.out
      have p1 := hS7.1
      have p2 := hS7.2.2.2 0 _ rfl
      have p3 := hS7.2.2.2 4 _ rfl
      have p4 := HK6.out.cell1 4
      have p5 := HK6.out.free1 4
      have HK7 := uh (HK6.out.setCell 4 (.int .i64 (x.1 + x.2.size)))
      clear hS7 hS6b HK6
      gi_wp2_with fail
      have hkk := HFin.out _ a9 ((ats pre).length + 1) p9 _ _ ob' l9 [(W5.heap.size, (.cells #[.int .i64 x.1] 3))] Hr9.out HK7.out
      have hT9 := HTK.out _ _ HK7.out
      have hl1 : (ats (pre ++ [x])).length = (ats pre).length + 1 := by rw [HSn.out]; simp
      refine ⟨hkk.1, hkk.2, a9, p9, l9, ob', by rw [HSn.out, mpOf_snoc]; exact Hob.out, ?_, by simp; omega, ?_⟩
      · rw [hl1, HSn.out, nats_append]
        exact Hr9.out
      · rw [hl1, HEn.out]
        exact (hT9.perm (l2 := [(W5.heap.size, (.cells #[.int .i64 x.1] 3)), (nb, ceObj x)] ++ ((n4 + 1, .cells #[.pointer (some ⟨a, 0, none⟩), .pointer (some ⟨tb, 0, none⟩), .map (some n4), .slice a9 ((ats pre).length + 1) p9, .int .i64 ((x.1 + x.2.size : Nat) : Int)] 334) :: (n4, ob') :: (l9 ++ [(n4 + 1 + 1, .cells #[.pointer (some ⟨n4 + 1, 0, none⟩)] 260), (n4 + 1 + 1 + 1, .cells #[.pointer (some ⟨a, 0, none⟩)] 112), (n4 + 1 + 1 + 1 + 1, .cells #[.pointer (some ⟨tb, 0, none⟩)] 119)]))) po).drop
  · rw [if_neg ht, List.append_nil] at HSn
    have k1 : ((x.2.tag : Int) == 1) = false := by rw [beq_eq_false_iff_ne]; omega
    have k2 : (x.2.tag == 1) = false := by rw [beq_eq_false_iff_ne]; exact ht
    have p1 := hS0.1
    have p2 := hS0.2.2.2 0 _ rfl
    have p3 := hS0.2.2.2 4 _ rfl
    have p4 := hK0.cell1 4
    have p5 := hK0.free1 4
    have HK7 := uh (hK0.setCell 4 (.int .i64 (x.1 + x.2.size)))
    clear hK0 ht hS0
    gi_wp2_with fail
    have hkk := HFin.out _ ao (ats pre).length cap _ _ ob lr [] HE1.out (by rw [List.append_nil]; exact HK7.out)
    have hT9 := HTK.out _ _ HK7.out
    refine ⟨hkk.1, hkk.2, ao, cap, lr, ob, by rw [HSn.out]; exact HE0.out, by rw [HSn.out]; exact HE1.out, by simp; omega, ?_⟩
    rw [HSn.out, HEn.out]
    exact (hT9.perm (l2 := [(nb, ceObj x)] ++ ((n4 + 1, .cells #[.pointer (some ⟨a, 0, none⟩), .pointer (some ⟨tb, 0, none⟩), .map (some n4), .slice ao (ats pre).length cap, .int .i64 ((x.1 + x.2.size : Nat) : Int)] 334) :: (n4, ob) :: (lr ++ [(n4 + 1 + 1, .cells #[.pointer (some ⟨n4 + 1, 0, none⟩)] 260), (n4 + 1 + 1 + 1, .cells #[.pointer (some ⟨a, 0, none⟩)] 112), (n4 + 1 + 1 + 1 + 1, .cells #[.pointer (some ⟨tb, 0, none⟩)] 119)]))) po).drop
 case hdone =>
  rintro D xs W2 hD rfl ⟨ao, cap, lr, ob, e0, e1, e2, hT⟩ hK
  have q0 : W2.cell? ⟨n4 + 1 + 1, 0, none⟩ = some (.pointer (some ⟨n4 + 1, 0, none⟩)) := hT.has.cell (b := n4 + 1 + 1) (c := #[.pointer (some ⟨n4 + 1, 0, none⟩)]) (e := 260) (f := (0, 0)) (by simp) 0
  have HT10 := uh (hT.grownC (B := W0.heap.size) hw0W (hAc lr ob _ e1.cells) (grownBy_putObj' W2 D (.deferred none)) (fun r e => by cases e; exact ⟨hD, _, hK, rfl⟩))
  have HE := uh (⟨e0, e1⟩ : MapObj .i64 (mpOf (ats xs)) ob ∧ Row 3 1 ao (ats xs).length cap (nats (ats xs)) lr)
  clear hT e0 e1
  gi_wp2_with fail
  refine ⟨by simp, .inl ⟨_, _, rfl, run_takeDeferred hK, ?_⟩⟩
  refine ⟨.pointer (some ⟨n4 + 1, 0, none⟩), ?_, n4 + 1, n4, ob, ao, cap, lr, rfl, HE.out.1, HE.out.2, (HT10.out.perm (l2 := [(n4 + 1 + 1, .cells #[.pointer (some ⟨n4 + 1, 0, none⟩)] 260), (n4 + 1 + 1 + 1, .cells #[.pointer (some ⟨a, 0, none⟩)] 112), (n4 + 1 + 1 + 1 + 1, .cells #[.pointer (some ⟨tb, 0, none⟩)] 119)] ++ ((n4 + 1, .cells #[.pointer (some ⟨a, 0, none⟩), .pointer (some ⟨tb, 0, none⟩), .map (some n4), .slice ao (ats xs).length cap, .int .i64 (endOf 0 xs : Nat)] 334) :: (n4, ob) :: lr)) po).drop⟩
  simp [results, Tryz.results146, go_sem]
end
section
open Go Go.RowKit Go.IntWalk
section
variable {P : Program} {w : World} {ops : Array Oper} {rest : List Oper} {o : Oper} {a : Act} {Q : Exit → Act → World → Prop} {q : IntKind} {mp : List (Int × Value)} {b : Nat} {ob : Obj}
theorem wpList_mlookup_g (hw : Region.wanted o (yielded ops a.tmps) = true) (m x : Operand) (t : TypeId) (ok : Bool) (hop : o.op = Op.lookup t m x ok) (kt e : TypeId) (ht : P.underlying t = some (.map kt e)) (hk : P.underlying kt = some (.int q)) (z : Value) (hz : (zeroValue e).run P w = .ok z w)
  (hm : a.eval m = .map (some b)) (hb : w.heap[b]? = some ob) (hmo : MapObj q mp ob) (k : Int) (hx : a.eval x = .int q k)
  (hK : wpList P ops Q rest (a.put o.dst (let v := (mget mp k).getD z; if ok then .tuple #[v, .bool (mget mp k).isSome] else v)) w) : wpList P ops Q (o :: rest) a w := by
 refine wpList_wanted hw fun K' hK' => ?_
 have hrun := run_mlookup hb hmo ht hk hz k ok
 unfold Oper.wp
 simp only [execOp, hop, hm, hx, hrun, Sem.run_bind, Result.andThen_ok, Sem.run_pure]
 exact hK' _ _ hK
end
theorem sword (w : World) (v : Nat) (hv : v < 18446744073709551616) : Calls Tryz.prog 209 #[.int .u64 v] w fun e w' => e = .returned (.tuple #[.int .i64 (if 1048576 ≤ v ∧ v < 1114112 then ((v - 1048576 : Nat) : Int) else 0), .bool (decide (1048576 ≤ v ∧ v < 1114112))]) ∧ w' = w := by
 by_cases h1 : v < 1048576
 · have k1 : decide ((v : Int) < 1048576) = true := decide_eq_true (by omega)
   have k2 : decide (v < 1048576) = true := decide_eq_true h1
   have hn : ¬ (1048576 ≤ v ∧ v < 1114112) := by omega
   rw [if_neg hn, decide_eq_false hn]
   clear hn h1
   go_enter Tryz.func209, Tryz.ntmps209
   go_wp2
   refine bodyPost_ret (results_tmp2 rfl _ _ _) rfl ?_
   exact ⟨rfl, rfl⟩
 · have k1 : decide ((v : Int) < 1048576) = false := decide_eq_false (by omega)
   have k2 : decide (v < 1048576) = false := decide_eq_false h1
   have hw : IntKind.u64.wrap ((v : Int) - 1048576) = ((v - 1048576 : Nat) : Int) := by rw [IntKind.wrap_u64]; omega
   by_cases h2 : v < 1114112
   · have hn : 1048576 ≤ v ∧ v < 1114112 := by omega
     rw [if_pos hn, decide_eq_true hn]
     obtain ⟨u, hu⟩ : ∃ u, v - 1048576 = u := ⟨_, rfl⟩
     have hus : u < 65536 := by omega
     have k3 : decide ((65536 : Int) ≤ (u : Int)) = false := decide_eq_false (by omega)
     have k4 : decide (65536 ≤ u) = false := decide_eq_false (by omega)
     have hcv : IntKind.i64.wrap (u : Int) = (u : Int) := i64_in _ (by omega)
     rw [hu] at hw ⊢
     clear hu hn h1 h2
     go_enter Tryz.func209, Tryz.ntmps209
     go_wp2
     refine bodyPost_ret (results_tmp2 rfl _ _ _) rfl ?_
     exact ⟨rfl, rfl⟩
   · have hn : ¬ (1048576 ≤ v ∧ v < 1114112) := by omega
     rw [if_neg hn, decide_eq_false hn]
     obtain ⟨u, hu⟩ : ∃ u, v - 1048576 = u := ⟨_, rfl⟩
     have k3 : decide ((65536 : Int) ≤ (u : Int)) = true := decide_eq_true (by omega)
     have k4 : decide (65536 ≤ u) = true := decide_eq_true (by omega)
     rw [hu] at hw
     clear hu hn h1 h2
     go_enter Tryz.func209, Tryz.ntmps209
     go_wp2
     refine bodyPost_ret (results_tmp2 rfl _ _ _) rfl ?_
     exact ⟨rfl, rfl⟩
def tgt (A : List Nat) (v : Nat) : Int := if 1048576 ≤ v ∧ v < 1114112 ∧ v % 2 = 0 ∧ (v - 1048576) / 2 ∈ A then (((v - 1048576) / 2 : Nat) : Int) else -1
theorem wtarget (w : World) (g m : Nat) (ob : Obj) (A : List Nat) (hc : w.cell? ⟨g, 2, none⟩ = some (.map (some m))) (hb : w.heap[m]? = some ob) (hmo : MapObj .i64 (mpOf A) ob) (v : Nat) (hv : v < 18446744073709551616) :
  Calls Tryz.prog 203 #[.pointer (some ⟨g, 0, none⟩), .int .u64 v] w fun e w' => e = .returned (.int .i64 (tgt A v)) ∧ w' = w := by
 have HW := uh (sword w v hv)
 have HB := uh hb
 have HM := uh hmo
 have hz : ∀ w, (zeroValue 4).run Tryz.prog w = .ok (.bool false) w := fun _ => by kernel_rfl
 clear hb hmo
 by_cases h1 : 1048576 ≤ v ∧ v < 1114112
 · rw [if_pos h1, decide_eq_true h1] at HW
   obtain ⟨u, hu⟩ : ∃ u, v - 1048576 = u := ⟨_, rfl⟩
   have hus : u < 65536 := by omega
   have hm2 : ((u : Int)).tmod 2 = ((u % 2 : Nat) : Int) := tmod_nat _ 2
   have hm3 : ((u : Int)) % 2 = ((u % 2 : Nat) : Int) := by omega
   have hd2 : ((u : Int)).tdiv 2 = ((u / 2 : Nat) : Int) := tdiv_nat _ 2
   have hd3 : ((u : Int)) / 2 = ((u / 2 : Nat) : Int) := by omega
   by_cases h2 : u % 2 = 0
   · obtain ⟨d, hd⟩ : ∃ d, u / 2 = d := ⟨_, rfl⟩
     by_cases h3 : d ∈ A
     · have ht : tgt A v = (d : Int) := by unfold tgt; rw [hu, hd, if_pos ⟨h1.1, h1.2, by omega, h3⟩]
       have HG := uh (mpOf_get A d)
       rw [if_pos h3] at HG
       rw [ht]
       rw [hu] at HW
       rw [hd] at hd2 hd3
       rw [h2] at hm2 hm3
       clear ht hd hu h1 h3 h2
       go_enter Tryz.func203, Tryz.ntmps203
       go_wp2_with fail
       refine HW.out.mono ?_
       rintro e w2 ⟨rfl, hw⟩
       subst hw
       go_wp2_with (first
        | (show wpList _ _ _ (⟨_, Op.lookup 332 _ _ _, _, _, _, _⟩ :: _) _ _; refine wpList_mlookup_g (q := .i64) (by rfl) _ _ 332 false rfl 3 4 Tryz.underlying332 Tryz.underlying3 (.bool false) (hz _) rfl HB.out HM.out (d : Int) rfl ?_; rw [HG.out]; simp only [Option.getD_some])
        | fail)
       go_ret
       exact ⟨rfl, rfl⟩
     · have ht : tgt A v = -1 := by unfold tgt; rw [hu, hd, if_neg (fun h => h3 h.2.2.2)]
       have HG := uh (mpOf_get A d)
       rw [if_neg h3] at HG
       rw [ht]
       rw [hu] at HW
       rw [hd] at hd2 hd3
       rw [h2] at hm2 hm3
       clear ht hd hu h1 h3 h2
       go_enter Tryz.func203, Tryz.ntmps203
       go_wp2_with fail
       refine HW.out.mono ?_
       rintro e w2 ⟨rfl, hw⟩
       subst hw
       go_wp2_with (first
        | (show wpList _ _ _ (⟨_, Op.lookup 332 _ _ _, _, _, _, _⟩ :: _) _ _; refine wpList_mlookup_g (q := .i64) (by rfl) _ _ 332 false rfl 3 4 Tryz.underlying332 Tryz.underlying3 (.bool false) (hz _) rfl HB.out HM.out (d : Int) rfl ?_; rw [HG.out]; simp only [Option.getD_none])
        | fail)
       go_ret
       exact ⟨rfl, rfl⟩
   · have ht : tgt A v = -1 := by unfold tgt; rw [if_neg (fun h => by omega)]
     have hm1 : u % 2 = 1 := by omega
     rw [ht]
     rw [hu] at HW
     rw [hm1] at hm2 hm3
     clear ht hu h1 h2 hm1
     go_enter Tryz.func203, Tryz.ntmps203
     go_wp2_with fail
     refine HW.out.mono ?_
     rintro e w2 ⟨rfl, hw⟩
     subst hw
     go_wp2_with fail
     go_ret
     exact ⟨rfl, rfl⟩
 · rw [if_neg h1, decide_eq_false h1] at HW
   have ht : tgt A v = -1 := by unfold tgt; rw [if_neg (fun h => h1 ⟨h.1, h.2.1⟩)]
   rw [ht]
   clear ht h1
   go_enter Tryz.func203, Tryz.ntmps203
   go_wp2_with fail
   refine HW.out.mono ?_
   rintro e w2 ⟨rfl, hw⟩
   subst hw
   go_wp2_with fail
   go_ret
   exact ⟨rfl, rfl⟩
def prevB (B : List Nat) : Nat → Option Nat
 | 0 => if bitAt B 0 then some 0 else none
 | i + 1 => if bitAt B (i + 1) then some (i + 1) else prevB B i
def prevI (B : List Nat) (j : Int) : Option Nat := if j < 0 then none else prevB B j.toNat
theorem prevI_nat (B : List Nat) (j : Nat) : prevI B j = prevB B j := by
 unfold prevI
 rw [if_neg (by omega), Int.toNat_natCast]
theorem prevB_hit {B : List Nat} {j : Nat} (h : bitAt B j = true) : prevB B j = some j := by
 cases j <;> simp [prevB, h]
theorem prevI_miss {B : List Nat} {j : Nat} (h : bitAt B j = false) : prevI B ((j : Int) - 1) = prevB B j := by
 cases j with
 | zero => simp [prevI, prevB, h]
 | succ j =>
  rw [show (((j + 1 : Nat) : Int) - 1) = (j : Nat) by omega, prevI_nat, prevB, h]
  simp
theorem prevI_skip {B : List Nat} {j : Nat} (h : B.getD (j / 64) 0 = 0) : ∀ r : Nat, r ≤ j % 64 → prevI B ((j : Int) - (r : Int) - 1) = prevB B j
 | 0, _ => by
  rw [show ((j : Int) - ((0 : Nat) : Int) - 1) = (j : Int) - 1 by omega]
  exact prevI_miss (by unfold bitAt; rw [h, Nat.zero_testBit])
 | r + 1, hr => by
  have ih := prevI_skip h r (by omega)
  rw [← ih, show ((j : Int) - (r : Int) - 1) = ((j - (r + 1) : Nat) : Int) by omega, prevI_nat, ← prevI_miss (j := j - (r + 1)) (by unfold bitAt; rw [show (j - (r + 1)) / 64 = j / 64 by omega, h, Nat.zero_testBit])]
  congr 1
  omega
theorem below_drewN {B : Nat} {w w' : World} (h : Below B w w') (n : Nat) : Below B w (w'.drewN n) := ⟨h.os, h.tape, h.output, h.size, h.block⟩
theorem prevI_neg (B : List Nat) {j : Int} (h : j < 0) : prevI B j = none := if_pos h
theorem bprev (w : World) (bb n0 : Nat) (B : List Nat) (bo : Option Addr) (cap : Nat) (hA : BitAt w bb B n0 bo cap) (hB : u64ok B) (hL : (n0 + 63) / 64 ≤ B.length) (g : Nat) (h : g < n0) (h0 : n0 ≤ 65536) :
  Calls Tryz.prog 210 #[.pointer (some ⟨bb, 0, none⟩), .int .i64 g] w fun e w' => e = .returned (.tuple #[.int .i64 ((prevB B g).getD 0 : Nat), .bool (prevB B g).isSome]) ∧ Below w.heap.size w w' := by
 have c1 := hA.c1
 have HA := uh hA
 have HB := uh hB
 have hmn : (g : Int) ≤ (n0 : Int) - 1 := by omega
 clear hA hB
 go_enter Tryz.func210, Tryz.ntmps210
 go_wp2_with fail
 clear c1
 go_loopw [1] (fun v1 wr => ∃ j : Int, v1 = .int .i64 j ∧ -1 ≤ j ∧ j ≤ g ∧ prevI B j = prevB B g ∧ Below w.heap.size w wr) (fun v1 _ => (intOf v1 + 1).toNat)
 case atStart => exact ⟨g, (by first | rfl | rw [Int.min_eq_left hmn]), by omega, by omega, prevI_nat _ _, Below.refl _ _⟩
 case round =>
  obtain ⟨j, rfl, hj1, hjg, hP, hBw⟩ := hrel
  have HP := uh hP
  clear hP
  by_cases hj : 0 ≤ j
  · obtain ⟨j, rfl⟩ : ∃ q : Nat, j = q := ⟨j.toNat, by omega⟩
    have Hat := uh (bat wr j (by omega))
    have hA1 := HA.out.below hBw
    have hq : j / 64 < B.length := by omega
    have hgd : B.getD (j / 64) 0 = B[j / 64] := by rw [List.getD_eq_getElem?_getD, List.getElem?_eq_getElem hq]; rfl
    have hv : (u64s B)[j / 64]? = some (.int .u64 (B.getD (j / 64) 0 : Nat)) := by rw [hgd]; exact u64s_get (List.getElem?_eq_getElem hq)
    have hub := getD_u64 HB.out (j / 64)
    have hbit := has_bits (b := j % 64) hub
    have Hres : Hid (bitAt B j = (B.getD (j / 64) 0).testBit (j % 64)) := uh rfl
    have Hsk := uh (fun (h : B.getD (j / 64) 0 = 0) => (prevI_skip h (j % 64) (Nat.le_refl _)).trans ((prevI_nat B j).symm.trans HP.out))
    have Hhit := uh (fun (h : bitAt B j = true) => (prevB_hit h).symm.trans ((prevI_nat B j).symm.trans HP.out))
    have Hmis := uh (fun (h : bitAt B j = false) => (prevI_miss h).trans ((prevI_nat B j).symm.trans HP.out))
    obtain ⟨gb, off, rfl, hcell⟩ := hA1.src.form (by rw [u64s_length]; omega)
    have hcg := hcell _ _ hv
    have hqi : ((j / 64 : Nat) : Int) < (B.length : Int) := by omega
    have hr : j % 64 < 64 := by omega
    have hrj : j % 64 ≤ j := Nat.mod_le _ _
    have hq6 : j / 64 ≤ 65536 := by omega
    have HBw := uh hBw
    clear hA1 hcell hv hgd HP hBw
    generalize B.getD (j / 64) 0 = bv at *
    generalize j / 64 = q at *
    generalize j % 64 = r at *
    go_wp2_with fail
    refine Hat.out.mono ?_
    rintro e w1 ⟨rfl, hB1⟩
    have T1 := ((Turn.refl (Has.nil wr)).call hB1).alloc (.cells #[.int .i64 q, .int .i64 r] 272)
    have hA2 := HA.out.below (HBw.out.trans (T1.below.mono HBw.out.size))
    have c0 := hA2.c0
    have hcg1 := (T1.below.cell (p := ⟨gb, off + q, none⟩) (World.block_lt_of_cell? wr _ hcg)).trans hcg
    have d0 : (w1.alloc (.cells #[.int .i64 q, .int .i64 r] 272)).cell? ⟨w1.heap.size, 0, none⟩ = some (.int .i64 q) := T1.cell1 0
    have d1 : (w1.alloc (.cells #[.int .i64 q, .int .i64 r] 272)).cell? ⟨w1.heap.size, 1, none⟩ = some (.int .i64 r) := T1.cell1 1
    have HT1 := uh (HBw.out.trans (T1.below.mono HBw.out.size))
    clear hA2 hB1 Hat hcg T1 HBw
    go_upto_region 7 with fail
    generalize w1.alloc (.cells #[.int .i64 q, .int .i64 r] 272) = w2 at *
    generalize w1.heap.size = b5 at *
    by_cases hz : bv = 0
    · have hz2 : ((bv : Nat) : Int) = 0 := by omega
      go_quiet (fail)
      go_wp2_with fail
      go_roundw
      case rel => exact ⟨(j : Int) - (r : Int) - 1, by go_num, by omega, by omega, Hsk.out hz, below_drewN HT1.out _⟩
      case measure => simp [intOf]; omega
    · have hz2 : ¬ ((bv : Nat) : Int) = 0 := by omega
      have HT2 := uh (fun n => below_drewN HT1.out n)
      clear HT1
      go_quiet (fail)
      have e0 : (w2.drewN nq).cell? ⟨b5, 0, none⟩ = some (.int .i64 q) := d0
      have e1 : (w2.drewN nq).cell? ⟨b5, 1, none⟩ = some (.int .i64 r) := d1
      go_upto_region 9 with fail
      go_quiet (fail)
      have hb2 : (bits .and .u64 ((bv : Int) / 2 ^ r) 1 == 1) = bv.testBit r := by
       rw [Int.fdiv_eq_ediv_of_nonneg _ (Int.le_of_lt (Int.pow_pos (by decide)))] at hbit
       rw [hbit]
       cases bv.testBit r <;> rfl
      cases hbt : bv.testBit r with
      | true =>
       rw [hbt] at hb2
       have hres := Hhit.out (Hres.out.trans hbt)
       have HR := uh hres
       clear hres Hres Hsk Hhit Hmis hbit
       go_wp2_with fail
       refine bodyPost_ret (results_tmp2 rfl _ _ _) rfl ?_
       exact ⟨by rw [← HR.out]; rfl, below_drewN (HT2.out _) _⟩
      | false =>
       rw [hbt] at hb2
       have hres := Hmis.out (Hres.out.trans hbt)
       clear Hres Hsk Hhit Hmis hbit
       go_wp2_with fail
       go_roundw
       case rel => exact ⟨(j : Int) - 1, by go_num, by omega, by omega, hres, HT2.out _⟩
       case measure => simp [intOf] <;> omega
  · have hn := HP.out
    rw [prevI_neg B (by omega)] at hn
    have Hn := uh hn
    have HBw := uh hBw
    clear hn HP hBw
    go_wp2_with fail
    refine bodyPost_ret (results_tmp2 rfl _ _ _) rfl ?_
    exact ⟨by rw [← Hn.out]; rfl, HBw.out⟩
end
section
open Go Go.RowKit Go.Shelf Go.IntWalk
attribute [local go_sem] Oper.semAt_some
theorem scells_g (n : Nat) (hn : 2 ≤ n) (wb : World) (sb a aw tb : Nat) (W : List Nat) (tao : Option Addr) (tcap : Nat) (L : List Ty) (hA : SpAt wb sb a aw tb W tao tcap L) (hf : W.length ≤ 65536) (hu : ∀ v ∈ W, v < 18446744073709551616) (hTy : ∀ t ∈ L, TyIn t) (hL : L.length ≤ 1000)
  (cs : List Ce) (hC : Chain L W 0 cs (W.length / 2)) (Bs : Nat) (D : World → Nat → Prop) (G : World → Prop) (hGD : ∀ A, G A → ∀ b, D A b → b < A.heap.size ∧ b ≠ Bs) (hDD : ∀ A B b, G A → Below A.heap.size A B → D B b → D A b) (w : World) (hw : Below wb.heap.size wb w) (hBs : w.heap[Bs]? = some (.cells #[.pointer (some ⟨sb, 0, none⟩)] 26)) :
  SeqG Fence.wide n Tryz.prog 149 #[.pointer (some ⟨Bs, 0, none⟩)] ceArgs (KpD wb.heap.size D) (fun pre x => ∃ post, cs = pre ++ x :: post) (fun xs => xs = cs) G w := fun l J W0 hW hJ hG hY h0 => by
 have hBl : Bs < w.heap.size := lt_of_block hBs
 have hB0 : W0.heap[Bs]? = some (.cells #[.pointer (some ⟨sb, 0, none⟩)] 26) := (hW.block Bs hBl).trans hBs
 have hw0 : Below wb.heap.size wb W0 := hw.trans (hW.mono hw.size)
 have hW0 := hW.size
 have HA0 := uh hw.size
 have HA0 := uh hw.size
 have HA0 := uh hw.size
 have HA0 := uh hw.size
 have hFl : Fence.wide.fn 149 := trivial
 have hf1 : Fence.wide.fn 13 := trivial
 have hf2 : Fence.wide.fn 126 := trivial
 have hf3 : Fence.wide.fn 128 := trivial
 refine callsIn_of_wp Tryz.func149 rfl hFl ?_ rfl
 simp only [Tryz.ntmps149, List.size_toArray, List.length_cons, List.length_nil, Nat.reduceAdd, Nat.reduceSub, Array.replicate_succ, Array.replicate_zero, List.push_toArray, List.append_toArray, List.nil_append, List.cons_append]
 have h1 : 1 ≤ n := by omega
 have hro : Fence.wide.round = none := rfl
 have h2 : 1 ≤ n - 1 := by omega
 have HY := uh hY
 have HJ := uh hJ
 have hszH := sz_head
 have Hgr := uh (fun w' (hB : Below wb.heap.size wb w') => sgran w' (hA.below hB).c0 (hA.below hB).ar hf)
 have Hhd := uh (fun w' (hB : Below wb.heap.size wb w') (g : Int) => shead w' (hA.below hB).fields (hA.below hB).ar hu g)
 have Hft := uh (fun w' (hB : Below wb.heap.size wb w') h hi => hfits w' (hA.below hB).fields L hTy hL tb tao tcap (hA.below hB).tab h hi)
 have HA := uh hA
 have HC := uh hC
 have hlen := hC.len
 obtain ⟨z, hz⟩ : ∃ z : Nat, W.length / 2 = z := ⟨_, rfl⟩
 have hzb : z ≤ 32768 := by omega
 rw [hz] at Hgr HC hlen
 have Hw0 := uh hw0
 have HB0 := uh hB0
 have HG := uh hG
 clear hY hJ hG hW hw hBs hB0 hw0 hA hu hTy hC
 gi_wp2_with fail
 gi_loopw [3] (fun v3 wr => ∃ (pre post : List Ce) (g : Nat), cs = pre ++ post ∧ v3 = .int .i64 g ∧ Chain L W g post z ∧ J pre wr ∧ Below wb.heap.size wb wr ∧ wr.heap[Bs]? = some (.cells #[.pointer (some ⟨sb, 0, none⟩)] 26) ∧ w.heap.size ≤ wr.heap.size) (fun v3 _ => z + 1 - (intOf v3).toNat)
 case atStart => exact ⟨[], cs, 0, rfl, by go_num, HC.out, h0, Hw0.out, HB0.out, hW0⟩
 case round =>
  clear HC h0 Hw0 HB0
  obtain ⟨pre, post, g, hcs, rfl, hch, hJw, hwr, hBw, hwl⟩ := hrel
  have hH1 : Has wr [(Bs, .cells #[.pointer (some ⟨sb, 0, none⟩)] 26)] := Has.one hBw
  have hbx : wr.cell? ⟨Bs, 0, none⟩ = some (.pointer (some ⟨sb, 0, none⟩)) := hH1.cell (List.mem_cons_self ..) 0
  have hsp := HA.out.below hwr
  have q0 := hsp.c0
  cases post with
  | nil =>
   obtain rfl : g = z := hch
   rw [List.append_nil] at hcs
   have HX := uh (⟨hcs.symm, hJw⟩ : pre = cs ∧ J pre wr)
   have Hg := uh (Hgr.out wr hwr)
   have hnl : ¬ (g : Int) < (g : Int) := by omega
   clear hJw hsp hH1 hcs hwr hBw
   gi_wp2_with (gi_at_call 13; refine (callsIn_wide.2 Hg.out).mono ?_; rintro e w' ⟨rfl, hw⟩; rw [hw]; clear hw w')
   go_end0
   exact ⟨⟨_, rfl⟩, pre, HX.out.1, HX.out.2⟩
  | cons c post =>
   obtain ⟨cg, h⟩ := c
   obtain ⟨hcg, hst, hnext⟩ := hch
   simp only at hcg hst hnext
   subst hcg
   have hpos := hst.pos
   have hroom : cg + h.size ≤ z := hnext.le
   obtain ⟨e1, e2, e3, e4⟩ := stands_head hst
   have hmay := hst.2.1.1
   have Hh2 := uh (Hhd.out wr hwr cg)
   rw [e1, e2] at Hh2
   simp only [Option.getD_some] at Hh2
   have HF1 := uh (fun w' (hB : Below wr.heap.size wr w') => Hft.out w' (hwr.trans (hB.mono (Nat.le_trans HA0.out hwl))) h (may_in hmay))
   rw [e3] at HF1
   have HY2 := uh (fun W1 => HY.out pre (cg, h) W1 ⟨post, hcs⟩)
   unfold ceArgs at HY2
   have Hgr2 := uh (fun w' X (V : Turn [] wr X w') => Hgr.out w' (hwr.trans (V.below.mono (Nat.le_trans HA0.out hwl))))
   obtain ⟨xa, xb, xc, xd⟩ := h
   simp only at hpos hroom HY2
   have hoX := hd_one ⟨xa, xb, xc, xd⟩
   simp only at hoX
   have k1 : IntKind.i64.wrap ((z : Int) - (cg : Int)) = (z : Int) - (cg : Int) := i64_in _ (by omega)
   have k2 : decide (((z : Int) - (cg : Int)) < (xd : Int)) = false := decide_eq_false (by omega)
   have k3 : ¬ ((z : Int) - (cg : Int)) < (xd : Int) := by omega
   have k4 : (cg : Int) < (z : Int) := by omega
   have Hnext := uh hnext
   have Hcs := uh hcs
   have HJw := uh hJw
   have Hg := uh (Hgr.out wr hwr)
   have hT0 := uh (Turn.refl (Has.nil wr))
   have HS := uh (fun w' b4 (V : Turn [] wr [(b4, .cells #[.int .u8 xa, .int .i64 xb, .int .i64 xc, .int .i64 xd] 79)] w') =>
    (⟨(V.below.cell (p := ⟨Bs, 0, none⟩) (World.block_lt_of_cell? wr _ hbx)).trans hbx, (V.below.cell (p := ⟨sb, 1, none⟩) (World.block_lt_of_cell? wr _ hsp.c1)).trans hsp.c1, V.range1⟩ : w'.cell? ⟨Bs, 0, none⟩ = some (.pointer (some ⟨sb, 0, none⟩)) ∧ w'.cell? ⟨sb, 1, none⟩ = some (.pointer (some ⟨tb, 0, none⟩)) ∧ w'.rangeAt b4 0 [.int .u8 xa, .int .i64 xb, .int .i64 xc, .int .i64 xd]))
   have hsbl : sb < wb.heap.size := World.block_lt_of_cell? wb _ HA.out.c0
   have hGr := HG.out pre wr hJw
   have HS2 := uh (fun w8 w' b4 (k : KpD wb.heap.size D w' w8) (V : Turn [] wr [(b4, .cells #[.int .u8 xa, .int .i64 xb, .int .i64 xc, .int .i64 xd] 79)] w') => by
    have h := HS.out w' b4 V
    have h9 : wr.heap.size ≤ b4 := (V.new b4 (by simp [keys])).resolve_left (by simp [keys])
    have h8 := k.same b4 _ (V.has.own _ _ (List.mem_cons_self ..)) rfl (fun hd => by have := (hGD wr hGr b4 (hDD wr w' b4 hGr V.below hd)).1; omega)
    have h7 := k.same Bs _ ((V.below.block Bs (lt_of_block hBw)).trans hBw) rfl (fun hd => (hGD wr hGr Bs (hDD wr w' Bs hGr V.below hd)).2 rfl)
    exact (⟨(Has.one h7).cell (List.mem_cons_self ..) 0, (k.below.cell (p := ⟨sb, 1, none⟩) hsbl).trans h.2.1, (Has.one h8).range (List.mem_cons_self ..)⟩ : w8.cell? ⟨Bs, 0, none⟩ = some (.pointer (some ⟨sb, 0, none⟩)) ∧ w8.cell? ⟨sb, 1, none⟩ = some (.pointer (some ⟨tb, 0, none⟩)) ∧ w8.rangeAt b4 0 [.int .u8 xa, .int .i64 xb, .int .i64 xc, .int .i64 xd]))
   have HN8 := uh (fun w8 w' b4 (hj : J (pre ++ [(cg, ⟨xa, xb, xc, xd⟩)]) w8) (k : KpD wb.heap.size D w' w8) (V : Turn [] wr [(b4, .cells #[.int .u8 xa, .int .i64 xb, .int .i64 xc, .int .i64 xd] 79)] w') =>
    (⟨hj, (hwr.trans (V.below.mono (Nat.le_trans HA0.out hwl))).trans k.below, k.same Bs _ ((V.below.block Bs (lt_of_block hBw)).trans hBw) rfl (fun hd => (hGD wr hGr Bs (hDD wr w' Bs hGr V.below hd)).2 rfl), Nat.le_trans hwl (Nat.le_trans V.size k.size)⟩ : J (pre ++ [(cg, ⟨xa, xb, xc, xd⟩)]) w8 ∧ Below wb.heap.size wb w8 ∧ w8.heap[Bs]? = some (.cells #[.pointer (some ⟨sb, 0, none⟩)] 26) ∧ w.heap.size ≤ w8.heap.size))
   clear hGr hJw hsp hH1 hcs hwr hBw hnext hst e1 e2 e3 e4 hmay HY
   gi_wp2_with (first
    | (gi_at_call 13; refine (callsIn_wide.2 Hg.out).mono ?_; rintro e w' ⟨rfl, hw⟩; rw [hw]; clear hw w')
    | (gi_at_call 126; refine (callsIn_wide.2 Hh2.out).mono ?_; rintro e w1 ⟨rfl, hB1⟩; have T2 := (hT0.out.call hB1).alloc (.cells #[.int .u8 0, .int .i64 0, .int .i64 0, .int .i64 0] 79); have hth : (w1.alloc (.cells #[.int .u8 0, .int .i64 0, .int .i64 0, .int .i64 0] 79)).there w1.heap.size 0 4 := T2.there1; have HT2 := uh (T2.laid [.int .u8 xa, .int .i64 xb, .int .i64 xc, .int .i64 xd] rfl); clear hB1 T2)
    | (show wpListIn _ _ _ _ _ (⟨_, Op.store 79 _ _, _, _, _, _⟩ :: _) _ _; refine wpListIn_by (follows_wide _ _) rfl (by intro c h; cases h) (wp_store_mid 79 _ _ rfl _ 0 #[.int .u8 xa, .int .i64 xb, .int .i64 xc, .int .i64 xd] rfl rfl hth hszH hoX ?_); clear hth)
    | fail)
   generalize (w1.alloc (.cells #[.int .u8 0, .int .i64 0, .int .i64 0, .int .i64 0] 79)).setCells w1.heap.size 0 [.int .u8 xa, .int .i64 xb, .int .i64 xc, .int .i64 xd] = w5 at *
   generalize w1.heap.size = b4 at *
   have HT5 := uh HT2.out.drew
   have hS5 := HS.out _ _ HT5.out
   have HF2 := uh (HF1.out _ HT5.out.below)
   have HY3 := HY2
   clear HT2 q0 hbx Hg Hh2 hT0
   refine wpIn_region_noPanic ?_
   refine wpIn_region_listedHI (S := fun W' => W'.cell? ⟨Bs, 0, none⟩ = some (.pointer (some ⟨sb, 0, none⟩)) ∧ W'.cell? ⟨sb, 1, none⟩ = some (.pointer (some ⟨tb, 0, none⟩)) ∧ W'.rangeAt b4 0 [.int .u8 xa, .int .i64 xb, .int .i64 xc, .int .i64 xd]) 28 [false, false, false, false, false, false, false, false, false, false, false, false, false, false, false, false, false, false, false, false, false, false, false, false, false, false, false, false] rfl rfl (by kernel_rfl) ?_
   refine tkI 0 19 hro hS5 ?_
   refine tkI 1 20 hro hS5 ?_
   refine tkI 2 21 hro hS5 ?_
   refine tkJ 3 22 hro hS5 (fun w hSw => hSw.1) ?_
   refine tkI 4 23 hro hS5 ?_
   refine tkI 5 24 hro hS5 ?_
   refine tkJ 6 25 hro hS5 (fun w hSw => hSw.2.1) ?_
   refine takeGI 7 26 hro rfl rfl (by rfl) (by kernel_rfl) (by kernel_rfl) (by kernel_rfl) (fun _ _ _ _ h => h) hS5 (fun _ => rfl) (fun w' hSw => load_mid_run 79 _ rfl b4 0 rfl [.int .u8 xa, .int .i64 xb, .int .i64 xc, .int .i64 xd] _ hSw.2.2 Tryz.underlying79 rfl hszH) ?_
   simp only [st1, st2]
   refine wpAnyHI_call (i := 8) (by kernel_rfl) rfl (fun K hK => ?_)
   go_simp
   refine (callsIn_wide.2 HF2.out).mono ?_
   rintro e w6 ⟨rfl, hB6⟩
   have HT6 := uh (HT5.out.call hB6)
   have hS6 := HS.out _ _ HT6.out
   clear hB6 HF2 HT5 hS5
   refine hK.out _ _ hS6 ?_
   clear hK K
   simp only [st0, st1, st2]
   refine tkI 9 28 hro hS6 ?_
   refine tkI 10 29 hro hS6 ?_
   refine tkI 11 30 hro hS6 ?_
   refine tkI 12 31 hro hS6 ?_
   refine tkJ 13 32 hro hS6 (fun w hSw => hSw.2.2 3 _ rfl) ?_
   refine tkJ 14 33 hro hS6 (fun w hSw => hSw.1) ?_
   refine tkI 16 35 hro hS6 ?_
   refine wpAnyHI_call (i := 15) (by kernel_rfl) rfl (fun K hK => ?_)
   go_simp
   refine (callsIn_wide.2 (Hgr2.out _ _ HT6.out)).mono ?_
   rintro e w7 ⟨rfl, hw7⟩
   subst hw7
   refine hK.out _ _ hS6 ?_
   clear hK K
   simp only [st0, st1, st2]
   refine tkI 17 36 hro hS6 ?_
   refine tkI 18 37 hro hS6 ?_
   refine tkI 19 38 hro hS6 ?_
   refine tkI 20 39 hro hS6 ?_
   refine tkI 21 40 hro hS6 ?_
   refine tkI 22 41 hro hS6 ?_
   refine takeGI 23 42 hro rfl rfl (by rfl) (by kernel_rfl) (by kernel_rfl) (by kernel_rfl) (fun _ _ _ _ h => h) hS6 (fun _ => rfl) (fun w' hSw => load_mid_run 79 _ rfl b4 0 rfl [.int .u8 xa, .int .i64 xb, .int .i64 xc, .int .i64 xd] _ hSw.2.2 Tryz.underlying79 rfl hszH) ?_
   simp only [st1, st2]
   refine tkI 24 43 hro hS6 ?_
   obtain ⟨fn, tmps, assign, body, hy, hR⟩ := HY3.out _ (HJ.out pre wr _ none HJw.out (below_grownBy HT6.out.below) (fun r e => by cases e))
   have HR := uh hR
   clear hR
   refine wpAnyHI_call (i := 25) (by kernel_rfl) rfl (fun K hK => ?_)
   go_simp
   refine HR.out.mono ?_
   rintro e w8 ⟨rfl, hJ8, hk8⟩
   · have hS8 := HS2.out _ _ _ hk8 HT6.out
     refine hK.out _ _ hS8 ?_
     clear hK K
     simp only [st0, st1, st2]
     refine tkI 26 45 hro hS8 ?_
     refine tkI 27 46 hro hS8 ?_
     refine wpAnyHI_done (by kernel_rfl) ?_ _
     refine NoPanic.normal ?_
     have hc4 := hS8.2.2 3 _ rfl
     have HN := uh (HN8.out _ _ _ hJ8 hk8 HT6.out)
     clear hS8 hS6 HT6 HS HS2 hJ8 hk8 HR hy
     gi_wp2_with fail
     go_roundw
     case rel => exact ⟨pre ++ [(cg, ⟨xa, xb, xc, xd⟩)], post, cg + xd, by rw [Hcs.out]; simp, by go_num, Hnext.out, HN.out.1, HN.out.2.1, HN.out.2.2.1, HN.out.2.2.2⟩
     case measure => simp [intOf]; omega
theorem scells_all (w : World) (sb a aw tb : Nat) {W : List Nat} (tao : Option Addr) (tcap : Nat) (L : List Ty) (hA : SpAt w sb a aw tb W tao tcap L) (hf : W.length ≤ 65536) (hu : ∀ v ∈ W, v < 18446744073709551616) (hTy : ∀ t ∈ L, TyIn t) (hL : L.length ≤ 1000)
  (cs : List Ce) (hC : Chain L W 0 cs (W.length / 2)) :
  Calls Tryz.prog 59 #[.pointer (some ⟨sb, 0, none⟩)] w fun e w' => ∃ ao cap l, e = .returned (.slice ao cs.length cap) ∧ Row 81 5 ao cs.length cap (ces cs) l ∧ Turn [] w l w' := by
 refine (callsIn_wide (n := 6)).1 ?_
 have h3 : Fence.wide.fn 59 := trivial
 have h6 : Fence.wide.fn 65 := trivial
 have h7 : Fence.wide.fn 149 := trivial
 have hro : Fence.wide.round = none := rfl
 have h1 : 1 ≤ 6 := by omega
 have hsbl : sb < w.heap.size := World.block_lt_of_cell? w _ hA.c0
 have hlen := hC.len
 have hcl : cs.length ≤ 32768 := by omega
 refine callsIn_of_wp_marks Tryz.func59 rfl h3 ?_ hro
 simp only [Tryz.ntmps59, List.size_toArray, List.length_cons, List.length_nil, Nat.reduceAdd, Nat.reduceSub, Array.replicate_succ, Array.replicate_zero, List.push_toArray, List.append_toArray, List.nil_append, List.cons_append]
 have HC := uh hC
 have HA := uh hA
 have hT0 := uh (Turn.refl (Has.nil w))
 clear hA hC hlen
 gi_wp2_with (first
  | (gi_at_call 65; refine (scells_in (6 - 1) sb _).mono ?_; rintro e w' ⟨rfl, hw⟩; rw [hw]; clear hw w')
  | fail)
 obtain ⟨n4, hn4⟩ : ∃ n4, w.heap.size = n4 := ⟨_, rfl⟩
 have T5 := (hT0.out.alloc (.cells #[.slice none 0 0] 75)).alloc (.cells #[.pointer (some ⟨sb, 0, none⟩)] 26)
 have hsz0 : ((w.alloc (.cells #[.slice none 0 0] 75)).alloc (.cells #[.pointer (some ⟨sb, 0, none⟩)] 26)).heap.size = w.heap.size + 1 + 1 := by simp
 simp only [World.size_alloc] at T5
 generalize (w.alloc (.cells #[.slice none 0 0] 75)).alloc (.cells #[.pointer (some ⟨sb, 0, none⟩)] 26) = W0 at T5 hsz0 ⊢
 have R8 : Below w.heap.size w W0 := T5.below
 rw [hn4] at T5 hsz0 hsbl ⊢
 clear hT0
 have hBs : W0.heap[n4 + 1]? = some (.cells #[.pointer (some ⟨sb, 0, none⟩)] 26) := T5.has.own _ _ (by simp)
 have T8 : Turn [] w ([] ++ [(n4, .cells #[.slice none 0 0] 75), (n4 + 1, .cells #[.pointer (some ⟨sb, 0, none⟩)] 26)]) W0 := T5.perm po
 clear T5
 have hA0 : SpAt w sb a aw tb W tao tcap L := HA.out
 have hw0W : w.heap.size ≤ W0.heap.size := R8.size
 apply wpIn_rangeFunc_g (β := Nat) hro h1 (gf := 149) (lb := #[.pointer (some ⟨n4 + 1, 0, none⟩)]) rfl h7 (enters_of Tryz.func149 (by kernel_rfl) rfl)
  (scells_g (6 - 1) (by omega) w sb a aw tb W tao tcap L hA0 hf hu hTy hL _ HC.out (n4 + 1) (ResD n4) (ResG n4 (n4 + 1)) (fun A h => h) (fun A B b hg hB => ResD.old hg hB) W0 R8 hBs)
  (fun h k => h.t k) (KpD.b (by omega) (fun W l o' hl b => ResD.put (by omega) o')) (Below.refl _ _) (fun _ => rfl)
  (fun pre W' => ∃ ao cap lr, Row 81 5 ao pre.length cap (ces pre) lr ∧ pre.length ≤ 32768 ∧ Turn [] w (lr ++ [(n4, .cells #[.slice ao pre.length cap] 75), (n4 + 1, .cells #[.pointer (some ⟨sb, 0, none⟩)] 26)]) W')
  (fun x nb pre W' => ∃ ao cap lr, Row 81 5 ao pre.length cap (ces pre) lr ∧ pre.length + 1 ≤ 32768 ∧ Turn [] w ((nb, ceObj x) :: (lr ++ [(n4, .cells #[.slice ao pre.length cap] 75), (n4 + 1, .cells #[.pointer (some ⟨sb, 0, none⟩)] 26)])) W')
  (fun s A D row ⟨ao, cap, lr, e1, e2, hT⟩ hg hr => ⟨ao, cap, lr, e1, e2, hT.grownB hw0W (resBx_cells e1) hg hr⟩)
  (fun x nb s A D row ⟨ao, cap, lr, e1, e2, hT⟩ hg hr => ⟨ao, cap, lr, e1, e2, hT.grownB hw0W (by
    intro y hy
    rcases List.mem_cons.1 hy with rfl | hy
    · rfl
    · exact resBx_cells e1 y hy) hg hr⟩)
  ⟨none, 0, [], Row.nil _ _, by simp, T8⟩
  (fun pre W' ⟨ao, cap, lr, e1, e2, hT⟩ => resG_of e1 hT)
 case hassign =>
  rintro l1 pre x W2 ⟨post, hnx⟩ ⟨ao, cap, lr, e1, e2, hT⟩
  have hpl : pre.length + 1 ≤ 32768 := by rw [hnx, List.length_append, List.length_cons] at hcl; omega
  have T2 := hT.alloc (.cells #[.int .i64 0, .int .u8 0, .int .i64 0, .int .i64 0, .int .i64 0] 81)
  have hth : (W2.alloc (.cells #[.int .i64 0, .int .u8 0, .int .i64 0, .int .i64 0, .int .i64 0] 81)).there W2.heap.size 0 5 := T2.there1
  have HT2 := uh (T2.laid [.int .i64 x.1, .int .u8 x.2.tag, .int .i64 x.2.typ, .int .i64 x.2.len, .int .i64 x.2.size] rfl)
  have HX := uh (((Turn.refl (Has.nil W2)).alloc (.cells #[.int .i64 0, .int .u8 0, .int .i64 0, .int .i64 0, .int .i64 0] 81)).laid [.int .i64 x.1, .int .u8 x.2.tag, .int .i64 x.2.typ, .int .i64 x.2.len, .int .i64 x.2.size] rfl)
  have hszC := sz_cell
  have hoC := ce_one x
  have hGb := resG_of e1 hT
  have hE1 := uh e1
  have hw2 := hT.size
  unfold ceArgs
  clear T2 hnx hT e1
  gi_wp2_with (first
   | (show wpListIn _ _ _ _ _ (⟨_, Op.store 81 _ _, _, _, _, _⟩ :: _) _ _; refine wpListIn_by (follows_round _ _ _) rfl (by intro c h; cases h) (wp_store_mid 81 _ _ rfl _ 0 #[.int .i64 x.1, .int .u8 x.2.tag, .int .i64 x.2.typ, .int .i64 x.2.len, .int .i64 x.2.size] rfl rfl hth hszC hoC ?_); clear hth)
   | fail)
  have HK := uh (⟨((KeepsOthers.alloc _ _).trans (keepsOthers_setCells _ _ _)).from _, KpD.of HX.out (by omega) (fun b hb => by cases hb) (fun b hb hd => ResD.old hGb HX.out.below hd)⟩ :
   KeepsFrom W0.heap.size W2 ((W2.alloc (.cells #[.int .i64 0, .int .u8 0, .int .i64 0, .int .i64 0, .int .i64 0] 81)).setCells W2.heap.size 0 [.int .i64 x.1, .int .u8 x.2.tag, .int .i64 x.2.typ, .int .i64 x.2.len, .int .i64 x.2.size]) ∧ KpD w.heap.size (ResD n4) W2 ((W2.alloc (.cells #[.int .i64 0, .int .u8 0, .int .i64 0, .int .i64 0, .int .i64 0] 81)).setCells W2.heap.size 0 [.int .i64 x.1, .int .u8 x.2.tag, .int .i64 x.2.typ, .int .i64 x.2.len, .int .i64 x.2.size]))
  clear HX hoC hGb
  generalize (W2.alloc (.cells #[.int .i64 0, .int .u8 0, .int .i64 0, .int .i64 0, .int .i64 0] 81)).setCells W2.heap.size 0 [.int .i64 x.1, .int .u8 x.2.tag, .int .i64 x.2.typ, .int .i64 x.2.len, .int .i64 x.2.size] = W3 at *
  generalize W2.heap.size = nb at *
  exact ⟨HK.out.1, HK.out.2, nb, rfl, ao, cap, lr, hE1.out, hpl, HT2.out⟩
 case hbody =>
  rintro l1 pre x nb W2 - ⟨ao, cap, lr, e1, e2, hT⟩
  have q0 : W2.cell? ⟨n4, 0, none⟩ = some (.slice ao pre.length cap) := hT.has.cell (b := n4) (c := #[.slice ao pre.length cap]) (e := 75) (f := (0, 0)) (by simp) 0
  have hrg : W2.rangeAt nb 0 [.int .i64 x.1, .int .u8 x.2.tag, .int .i64 x.2.typ, .int .i64 x.2.len, .int .i64 x.2.size] := hT.range1
  have hszC := sz_cell
  have h63 : pre.length + 1 ≤ maxLen := by unfold maxLen; omega
  have hby : (pre.length + 1) * 40 ≤ 140737488355328 := by omega
  have hcv : ∀ u ∈ ceCells x, u.oneCell' = true := by
   intro u hu
   simp only [ceCells, List.mem_cons, List.not_mem_nil, or_false] at hu
   rcases hu with rfl | rfl | rfl | rfl | rfl <;> rfl
  have hg2 := resG_of e1 hT.tail
  have HT := uh hT
  have H1 := uh e1
  have HH := uh (hT.has.sub (l' := lr ++ [(n4, .cells #[.slice ao pre.length cap] 75)]) (by simp))
  clear hT e1
  gi_wp2_with (first
   | (show wpListIn _ _ _ _ _ (⟨_, Op.load 81 _, _, _, _, _⟩ :: _) _ _; refine wpListIn_by (follows_round _ _ _) rfl (by intro c h; cases h) (wp_load_mid 81 _ rfl nb 0 rfl [.int .i64 x.1, .int .u8 x.2.tag, .int .i64 x.2.typ, .int .i64 x.2.len, .int .i64 x.2.size] _ hrg Tryz.underlying81 rfl hszC ?_))
   | (gi_at_builtin; have T3 := uh (HT.out.alloc (.cells #[.int .i64 x.1, .int .u8 x.2.tag, .int .i64 x.2.typ, .int .i64 x.2.len, .int .i64 x.2.size] 81)); have K3 := uh (((Turn.refl HH.out).alloc (.cells #[.int .i64 x.1, .int .u8 x.2.tag, .int .i64 x.2.typ, .int .i64 x.2.len, .int .i64 x.2.size] 81)).perm (l2 := lr ++ [(W2.heap.size, .cells #[.int .i64 x.1, .int .u8 x.2.tag, .int .i64 x.2.typ, .int .i64 x.2.len, .int .i64 x.2.size] 81), (n4, .cells #[.slice ao pre.length cap] 75)]) po); refine wpListIn_by (follows_round _ _ _) rfl (by intro c h; cases h) (wp_append_row _ _ rfl el_cell rfl H1.out (R := [(W2.heap.size, .cells #[.int .i64 x.1, .int .u8 x.2.tag, .int .i64 x.2.typ, .int .i64 x.2.len, .int .i64 x.2.size] 81), (n4, .cells #[.slice ao pre.length cap] 75)]) K3.out.has rfl (news := [.int .i64 x.1, .int .u8 x.2.tag, .int .i64 x.2.typ, .int .i64 x.2.len, .int .i64 x.2.size]) rfl (news_of (heap_alloc_new _ _)) hcv h63 hby ?_); intro a9 p9 l9 w4 hr9 V4 hno; have T4 := (((T3.out.perm (l2 := (lr ++ [(W2.heap.size, .cells #[.int .i64 x.1, .int .u8 x.2.tag, .int .i64 x.2.typ, .int .i64 x.2.len, .int .i64 x.2.size] 81), (n4, .cells #[.slice ao pre.length cap] 75)]) ++ [(nb, ceObj x), (n4 + 1, .cells #[.pointer (some ⟨sb, 0, none⟩)] 26)]) po)).trans (V4.more ((T3.out.perm (l2 := (lr ++ [(W2.heap.size, .cells #[.int .i64 x.1, .int .u8 x.2.tag, .int .i64 x.2.typ, .int .i64 x.2.len, .int .i64 x.2.size] 81), (n4, .cells #[.slice ao pre.length cap] 75)]) ++ [(nb, ceObj x), (n4 + 1, .cells #[.pointer (some ⟨sb, 0, none⟩)] 26)]) po).has))).perm (l2 := (n4, .cells #[.slice ao pre.length cap] 75) :: (l9 ++ [(W2.heap.size, .cells #[.int .i64 x.1, .int .u8 x.2.tag, .int .i64 x.2.typ, .int .i64 x.2.len, .int .i64 x.2.size] 81), (nb, ceObj x), (n4 + 1, .cells #[.pointer (some ⟨sb, 0, none⟩)] 26)])) po; have q5 := T4.cell1 0; have f5 := T4.free1 0; have K5 := ((K3.out.trans V4).perm (l2 := (n4, .cells #[.slice ao pre.length cap] 75) :: (l9 ++ [(W2.heap.size, .cells #[.int .i64 x.1, .int .u8 x.2.tag, .int .i64 x.2.typ, .int .i64 x.2.len, .int .i64 x.2.size] 81)])) po).setCell 0 (.slice a9 (pre.length + 1) p9); have HT5 := uh (T4.setCell 0 (.slice a9 (pre.length + 1) p9)); have HK5 := uh (KpD.res (n₀ := w.heap.size) H1.out hr9 K5 HH.out (by omega) (fun b hb => (HT.out.new b (by simp [keys] at hb ⊢; exact .inr (.inl hb))).resolve_left (by simp [keys]))); have HKO := uh (Turn.keepsOthers K5 HH.out (resBx1_cells H1.out)); have Hr9 := uh hr9; clear V4 T4 K5 K3 T3 hno hr9 q0)
   | fail)
  have hce : ces (pre ++ [x]) = ces pre ++ [.int .i64 x.1, .int .u8 x.2.tag, .int .i64 x.2.typ, .int .i64 x.2.len, .int .i64 x.2.size] := ces_append _ _
  have hl1 : (pre ++ [x]).length = pre.length + 1 := by simp
  refine ⟨HKO.out.from _, HK5.out, a9, p9, l9, by rw [hl1, hce]; exact Hr9.out, by omega, by rw [hl1]; exact (HT5.out.perm (l2 := [(W2.heap.size, .cells #[.int .i64 x.1, .int .u8 x.2.tag, .int .i64 x.2.typ, .int .i64 x.2.len, .int .i64 x.2.size] 81), (nb, ceObj x)] ++ (l9 ++ [(n4, .cells #[.slice a9 (pre.length + 1) p9] 75), (n4 + 1, .cells #[.pointer (some ⟨sb, 0, none⟩)] 26)])) po).drop⟩
 case hdone =>
  rintro D xs W2 hD rfl ⟨ao, cap, lr, e1, e2, hT⟩ hK
  have hHb : Has W2 ((n4, .cells #[.slice ao xs.length cap] 75) :: (lr ++ [(n4 + 1, .cells #[.pointer (some ⟨sb, 0, none⟩)] 26)])) := hT.has.perm po
  have q0 : W2.cell? ⟨n4, 0, none⟩ = some (.slice ao xs.length cap) := hHb.cell (List.mem_cons_self ..) 0
  have f0 : W2.frozen? ⟨n4, 0, none⟩ = false := hHb.free (List.mem_cons_self ..) 0
  have HT := uh hT
  have H1 := uh e1
  have HK := uh hK
  clear hT e1 hHb hK
  gi_wp2_with fail
  have T9 := (HT.out.perm (l2 := (n4, .cells #[.slice ao xs.length cap] 75) :: (lr ++ [(n4 + 1, .cells #[.pointer (some ⟨sb, 0, none⟩)] 26)])) po).setCell 0 (.slice ao xs.length cap)
  have hK5 : (W2.setCell ⟨n4, 0, none⟩ (.slice ao xs.length cap)).heap[D]? = some (.deferred (some [])) := by
   rw [Below.heap_setCell _ _ _ _ (by show D ≠ n4; omega)]
   exact HK.out
  have T10 := T9.grownB (B := W0.heap.size) hw0W (fun y hy => by
   rcases List.mem_cons.1 hy with rfl | hy
   · rfl
   rcases List.mem_append.1 hy with hy | hy
   · exact H1.out.cells y hy
   · rw [List.mem_singleton.1 hy]; rfl) (grownBy_putObj' _ D (.deferred none)) (fun r e => by cases e; exact ⟨hD, _, hK5, rfl⟩)
  have hcl : ((W2.setCell ⟨n4, 0, none⟩ (.slice ao xs.length cap)).putObj D (.deferred none)).cell? ⟨n4, 0, none⟩ = some (.slice ao xs.length cap) := T10.cell1 0
  have HT10 := uh T10
  clear T9 T10 HT q0 f0
  refine ⟨by simp, .inl ⟨_, _, rfl, run_takeDeferred hK5, ?_⟩⟩
  refine ⟨.slice ao xs.length cap, ?_, ao, cap, lr, rfl, H1.out, (HT10.out.perm (l2 := (n4, .cells #[.slice ao xs.length cap] 75) :: ((n4 + 1, .cells #[.pointer (some ⟨sb, 0, none⟩)] 26) :: lr)) po).tail.tail⟩
  simp [results, Tryz.results59, go_sem, hcl]
end
section
open Go Go.RowKit Go.Shelf Go.IntWalk
attribute [local go_sem] Oper.semAt_some
def svs (W : List Nat) (g : Nat) (rs : List Nat) : List (Nat × Nat) := rs.map fun s => (s, W.getD (2 * g + 1 + s) 0)
def svArgs (x : Nat × Nat) : Array Value := #[.int .i64 x.1, .int .u64 x.2]
theorem svs_at {W : List Nat} {g i s : Nat} {rs : List Nat} (h : rs[i]? = some s) : (svs W g rs)[i]? = some (s, W.getD (2 * g + 1 + s) 0) := by unfold svs; rw [List.getElem?_map, h]; rfl
theorem svs_len (W : List Nat) (g : Nat) (rs : List Nat) : (svs W g rs).length = rs.length := by simp [svs]
theorem take_nextA {α : Type} {l : List α} {j : Nat} {d : α} (h : l[j]? = some d) : l.take (j + 1) = l.take j ++ [d] := by rw [List.take_add_one, h]; rfl
theorem drop_nextA {α : Type} {l : List α} {j : Nat} {d : α} (h : l[j]? = some d) : l.drop j = d :: l.drop (j + 1) := by
 obtain ⟨hj, rfl⟩ := List.getElem?_eq_some_iff.1 h
 exact List.drop_eq_getElem_cons hj
theorem svs_split {W : List Nat} {g i s : Nat} {rs : List Nat} (h : rs[i]? = some s) : svs W g rs = (svs W g rs).take i ++ (s, W.getD (2 * g + 1 + s) 0) :: (svs W g rs).drop (i + 1) := by
 rw [← drop_nextA (svs_at h), List.take_append_drop]
theorem vrefs_in (n : Nat) (vb : Nat) (w : World) :
  CallsIn Fence.wide n Tryz.prog 168 #[.pointer (some ⟨vb, 0, none⟩)] w fun e w' => e = .returned (.func (.func 217) #[] #[.pointer (some ⟨w.heap.size, 0, none⟩)]) ∧ w' = w.alloc (.cells #[.pointer (some ⟨vb, 0, none⟩)] 124) := by
 have hf : Fence.wide.fn 168 := trivial
 refine callsIn_of_wp Tryz.func168 rfl hf ?_ rfl
 simp only [Tryz.ntmps168, List.size_toArray, List.length_cons, List.length_nil, Nat.reduceAdd, Nat.reduceSub, Array.replicate_succ, Array.replicate_zero, List.push_toArray, List.append_toArray, List.nil_append, List.cons_append]
 gi_wp2
 go_ret
 exact ⟨rfl, rfl⟩
theorem range_off {w : World} {b o : Nat} {xs ys : List Value} (h : w.rangeAt b o (xs ++ ys)) : w.rangeAt b (o + xs.length) ys := fun j v hv => by
 have := h (xs.length + j) v (by rw [List.getElem?_append_right (by omega), Nat.add_sub_cancel_left]; exact hv)
 rwa [← Nat.add_assoc] at this
theorem vrefs_g (n : Nat) (hn : 2 ≤ n) (wb : World) (vb a aw g : Nat) (W : List Nat) (h : Hd) (t : Ty) (hA : ArAt wb a aw W) (hv : VwAt wb vb a g h t) (ht : TyIn t) (he : t.err h.len = 0) (hg : g ≤ 65536) (hwl : ∀ s ∈ t.refs h.len, s < t.slots h.len ∧ 2 * g + 1 + s < W.length)
  (Bs : Nat) (D : World → Nat → Prop) (G : World → Prop) (hGD : ∀ A, G A → ∀ b, D A b → b < A.heap.size ∧ b ≠ Bs) (hDD : ∀ A B b, G A → Below A.heap.size A B → D B b → D A b) (w : World) (hw : Below wb.heap.size wb w) (hBs : w.heap[Bs]? = some (.cells #[.pointer (some ⟨vb, 0, none⟩)] 124)) :
  SeqG Fence.wide n Tryz.prog 217 #[.pointer (some ⟨Bs, 0, none⟩)] svArgs (KpD wb.heap.size D) (fun pre x => ∃ post, svs W g (t.refs h.len) = pre ++ x :: post) (fun xs => xs = svs W g (t.refs h.len)) G w := fun l J W0 hW hJ hG hY h0 => by
 have hBl : Bs < w.heap.size := lt_of_block hBs
 have hB0 : W0.heap[Bs]? = some (.cells #[.pointer (some ⟨vb, 0, none⟩)] 124) := (hW.block Bs hBl).trans hBs
 have hw0 : Below wb.heap.size wb W0 := hw.trans (hW.mono hw.size)
 have hFl : Fence.wide.fn 217 := trivial
 have hf1 : Fence.wide.fn 218 := trivial
 have hf2 : Fence.wide.fn 103 := trivial
 refine callsIn_of_wp Tryz.func217 rfl hFl ?_ rfl
 simp only [Tryz.ntmps217, List.size_toArray, List.length_cons, List.length_nil, Nat.reduceAdd, Nat.reduceSub, Array.replicate_succ, Array.replicate_zero, List.push_toArray, List.append_toArray, List.nil_append, List.cons_append]
 have h1 : 1 ≤ n := by omega
 have hro : Fence.wide.round = none := rfl
 have h2 : 1 ≤ n - 1 := by omega
 have HRf := uh (fun w' => krefs w' t ht h.len he)
 have HLd := uh (fun w' (hB : Below wb.heap.size wb w') s v hs hvv => vload w' (hA.below hB) (range_below hv hB) ht he hg s v hs hvv)
 have HV := uh (fun w' (hB : Below wb.heap.size wb w') => (range_below hv hB : w'.rangeAt vb 0 (viewCells a g h t)))
 have Hwl := uh (fun i s (hi : (t.refs h.len)[i]? = some s) => hwl s (List.mem_of_getElem? hi))
 have hrl : (t.refs h.len).length ≤ 65536 := by
  have h1 := refsTo_len t (t.slots h.len)
  have h2 : t.refs h.len = refsTo t (t.slots h.len) := rfl
  obtain ⟨hm, -, hn9, -⟩ := err_ok.1 he
  have := slots_most hm (n := h.len) (by omega)
  rw [h2]
  omega
 have hszT := sz_type
 generalize t.refs h.len = rs at *
 generalize hsl : t.slots h.len = sl at *
 have Hsp := uh (fun i s (hi : rs[i]? = some s) => svs_split (W := W) (g := g) hi)
 have Hfin := uh (svs_len W g rs)
 have HY := uh hY
 have HJ := uh hJ
 have HG := uh hG
 have HJ0 := uh h0
 have Hw0 := uh hw0
 have hbx : W0.cell? ⟨Bs, 0, none⟩ = some (.pointer (some ⟨vb, 0, none⟩)) := (Has.one hB0).cell (List.mem_cons_self ..) 0
 have HB0 := uh hB0
 have HAb := uh hA
 obtain ⟨tk, tw, tm⟩ := t
 clear hY hJ hG hW hw hBs hB0 hw0 hA hv he ht hwl h0 hsl
 gi_wp2_with fail
 have hT0 : Turn [] W0 [] W0.drew := (Turn.refl (Has.nil W0)).drew
 have HS := uh (fun w' X (V : Turn [] W0 X w') => (⟨(V.below.cell (p := ⟨Bs, 0, none⟩) (World.block_lt_of_cell? W0 _ hbx)).trans hbx, HV.out w' (Hw0.out.trans (V.below.mono Hw0.out.size))⟩ : (fun W' => W'.cell? ⟨Bs, 0, none⟩ = some (.pointer (some ⟨vb, 0, none⟩)) ∧ W'.rangeAt vb 0 (viewCells a g h ⟨tk, tw, tm⟩)) w'))
 have hS := HS.out _ _ hT0
 have HT0 := uh hT0
 clear hT0
 refine wpIn_region_noPanic ?_
 refine wpIn_region_listedHI (S := fun W' => W'.cell? ⟨Bs, 0, none⟩ = some (.pointer (some ⟨vb, 0, none⟩)) ∧ W'.rangeAt vb 0 (viewCells a g h ⟨tk, tw, tm⟩)) 15 [false, false, false, false, false, false, false, false, false, false, false, false, false, false, false] rfl rfl (by kernel_rfl) ?_
 refine tkJ 0 12 hro hS (fun w hSw => hSw.1) ?_
 refine tkI 1 13 hro hS ?_
 refine tkI 2 14 hro hS ?_
 refine takeGI 3 15 hro rfl rfl (by rfl) (by kernel_rfl) (by kernel_rfl) (by kernel_rfl) (fun _ _ _ _ h => h) hS (fun _ => rfl) (fun w' hSw => load_mid_run 49 _ rfl vb 6 rfl [.int .u8 tk, .int .i64 tw, .int .u64 tm] _ (range_off (xs := [.pointer (some ⟨a, 0, none⟩), .int .i64 g, .int .u8 h.tag, .int .i64 h.typ, .int .i64 h.len, .int .i64 h.size]) hSw.2) Tryz.underlying49 rfl hszT) ?_
 simp only [st1, st2]
 refine tkJ 4 16 hro hS (fun w hSw => hSw.1) ?_
 refine tkI 5 17 hro hS ?_
 refine tkI 6 18 hro hS ?_
 refine tkI 7 19 hro hS ?_
 refine tkJ 8 20 hro hS (fun w hSw => hSw.2 4 _ rfl) ?_
 refine wpAnyHI_call (i := 9) (by kernel_rfl) rfl (fun K hK => ?_)
 go_simp
 refine (callsIn_wide.2 (HRf.out _)).mono ?_
 rintro e w3 ⟨a3, p3, l3, rfl, hr3, T3⟩
 have T4 : Turn [] W0 l3 w3 := HT0.out.trans T3
 have hS3 := HS.out _ _ T4
 have HT4 := uh T4
 have Hr3 := uh hr3
 refine hK.out _ _ hS3 ?_
 clear hK K T3 T4 hr3 hS
 simp only [st0, st1, st2]
 refine tkI 10 11 hro hS3 ?_
 refine tkI 11 22 hro hS3 ?_
 refine tkI 12 23 hro hS3 ?_
 refine tkI 13 3 hro hS3 ?_
 refine tkI 14 4 hro hS3 ?_
 refine wpAnyHI_done (by kernel_rfl) ?_ _
 refine NoPanic.normal ?_
 have hbx3 := hS3.1
 have hG0 := HG.out [] W0 HJ0.out
 have HN0 := uh (fun x (hx : x ∈ l3) => (⟨HT4.out.has.own x.1 x.2 hx, fun hd => by
  have h1 := (hGD W0 hG0 x.1 (hDD W0 w3 x.1 hG0 HT4.out.below hd)).1
  have h2 := (HT4.out.new x.1 (mem_keys.2 ⟨x.2, hx⟩)).resolve_left (by simp [keys])
  omega⟩ : w3.heap[x.1]? = some x.2 ∧ ¬ D w3 x.1))
 have HJ3 := uh (HJ.out [] W0 _ none HJ0.out (below_grownBy HT4.out.below) (fun r e => by cases e))
 have HB3 := uh ((HT4.out.below.block Bs (lt_of_block HB0.out)).trans HB0.out)
 have Hw3 := uh (Hw0.out.trans (HT4.out.below.mono Hw0.out.size))
 have Hnd := uh HT4.out.has.nd
 clear hS3 HS HT0 HT4 HJ0 HB0 hbx hG0
 gi_wp2_with fail
 gi_loopw [26] (fun v26 wr => ∃ (i : Nat), i ≤ rs.length ∧ v26 = .int .i64 i ∧ J ((svs W g rs).take i) wr ∧ Below wb.heap.size wb wr ∧ wr.heap[Bs]? = some (.cells #[.pointer (some ⟨vb, 0, none⟩)] 124) ∧ (∀ x ∈ l3, wr.heap[x.1]? = some x.2 ∧ ¬ D wr x.1)) (fun v26 _ => rs.length - (intOf v26).toNat)
 case atStart => exact ⟨0, Nat.zero_le _, by go_num, HJ3.out, Hw3.out, HB3.out, HN0.out⟩
 case round =>
  clear HJ3 Hw3 HB3 HN0 hbx3
  obtain ⟨i, hi, rfl, hJw, hwr, hBw, hNw⟩ := hrel
  by_cases hlt : i < rs.length
  · have hlt' : (i : Int) < (rs.length : Int) := by omega
    obtain ⟨s, hs⟩ : ∃ s, rs[i]? = some s := ⟨rs[i], List.getElem?_eq_getElem hlt⟩
    have hwls := Hwl.out i s hs
    obtain ⟨v, hvv⟩ : ∃ v, W[2 * g + 1 + s]? = some v := ⟨W[2 * g + 1 + s]'(hwls.2), List.getElem?_eq_getElem _⟩
    have hvg : W.getD (2 * g + 1 + s) 0 = v := by rw [List.getD_eq_getElem?_getD, hvv]; rfl
    have hbx : wr.cell? ⟨Bs, 0, none⟩ = some (.pointer (some ⟨vb, 0, none⟩)) := (Has.one hBw).cell (List.mem_cons_self ..) 0
    have hsrc := Hr3.out.src (R := []) (w := wr) (by rw [List.append_nil]; exact ⟨Hnd.out, fun b o hm => (hNw (b, o) hm).1⟩)
    obtain ⟨b3, off3, rfl, hc3⟩ := hsrc.form (by rw [nats_length]; omega)
    have q3 := hc3 i _ (nats_at hs)
    have HL := uh (HLd.out wr hwr s v hwls.1 hvv)
    have hspl := Hsp.out i s hs
    rw [hvg] at hspl
    have hGr := HG.out _ wr hJw
    have HY2 := uh (fun W1 => HY.out ((svs W g rs).take i) (s, v) W1 ⟨_, hspl⟩)
    unfold svArgs at HY2
    have hnx : (svs W g rs).take (i + 1) = (svs W g rs).take i ++ [(s, v)] := by rw [take_nextA (svs_at hs), hvg]
    have HNx := uh hnx
    have HJw := uh hJw
    have HK := uh (fun w' w8 (hB : Below wr.heap.size wr w') (k : KpD wb.heap.size D w' w8) => (⟨(hwr.trans (hB.mono hwr.size)).trans k.below, k.same Bs _ ((hB.block Bs (lt_of_block hBw)).trans hBw) rfl (fun hd => (hGD wr hGr Bs (hDD wr w' Bs hGr hB hd)).2 rfl), fun x hx => by
     have hx1 := (hB.block x.1 (lt_of_block (hNw x hx).1)).trans (hNw x hx).1
     have hx2 : ¬ D w' x.1 := fun hd => (hNw x hx).2 (hDD wr w' x.1 hGr hB hd)
     exact ⟨k.same x.1 x.2 hx1 (Hr3.out.cells x hx) hx2, fun hd => hx2 (k.own x.1 (lt_of_block hx1) hd)⟩⟩ :
      Below wb.heap.size wb w8 ∧ w8.heap[Bs]? = some (.cells #[.pointer (some ⟨vb, 0, none⟩)] 124) ∧ (∀ x ∈ l3, w8.heap[x.1]? = some x.2 ∧ ¬ D w8 x.1)))
    clear hs hwls hvv hvg hsrc hc3 hspl hGr hnx hJw hwr hBw hNw
    gi_wp2_with (first
     | (gi_at_call 103; refine (callsIn_wide.2 HL.out).mono ?_; rintro e w5 ⟨rfl, hB5⟩; have HB5 := uh hB5; obtain ⟨fn, tmps, assign, body, hy, hR⟩ := HY2.out _ (HJ.out _ wr _ none HJw.out (below_grownBy hB5) (fun r e => by cases e)); have HR := uh hR; clear hR hB5 HL q3 hbx)
     | fail)
    refine HR.out.mono ?_
    rintro e w8 ⟨rfl, hJ8, hk8⟩
    have HN := uh (HK.out _ _ HB5.out hk8)
    have HJ8 := uh hJ8
    clear hJ8 hk8 HR hy HK HY2 HB5
    gi_wp2_with fail
    go_roundw
    case rel => exact ⟨i + 1, by omega, by go_num, by rw [HNx.out]; exact HJ8.out, HN.out.1, HN.out.2.1, HN.out.2.2⟩
    case measure => simp [intOf]; omega
  · obtain rfl : i = rs.length := by omega
    have hnl : ¬ ((rs.length : Nat) : Int) < (rs.length : Int) := by omega
    have HX := uh (show J (svs W g rs) wr by rw [← Hfin.out, List.take_length] at hJw; exact hJw)
    clear hJw hwr hBw hNw
    gi_wp2_with fail
    go_end0
    exact ⟨⟨_, rfl⟩, HX.out⟩
end
section
open Go Go.RowKit Go.Shelf Go.IntWalk
attribute [local go_sem] Oper.semAt_some
theorem vrefs_all (w : World) (vb a aw g : Nat) (W : List Nat) (h : Hd) (t : Ty) (hA : ArAt w a aw W) (hv : VwAt w vb a g h t) (ht : TyIn t) (he : t.err h.len = 0) (hg : g ≤ 65536) (hwl : ∀ s ∈ t.refs h.len, s < t.slots h.len ∧ 2 * g + 1 + s < W.length) :
  Calls Tryz.prog 102 #[.pointer (some ⟨vb, 0, none⟩)] w fun e w' => ∃ ao cap l, e = .returned (.slice ao (t.refs h.len).length cap) ∧ Row 3 1 ao (t.refs h.len).length cap (nats (t.refs h.len)) l ∧ Turn [] w l w' := by
 refine (callsIn_wide (n := 6)).1 ?_
 have h3 : Fence.wide.fn 102 := trivial
 have h6 : Fence.wide.fn 168 := trivial
 have h7 : Fence.wide.fn 217 := trivial
 have hro : Fence.wide.round = none := rfl
 have h1 : 1 ≤ 6 := by omega
 have hvbl : vb < w.heap.size := World.block_lt_of_cell? w _ (hv.c (i := 0) rfl)
 have hcl : (t.refs h.len).length ≤ 65536 := by
  have h1 := refsTo_len t (t.slots h.len)
  have h2 : t.refs h.len = refsTo t (t.slots h.len) := rfl
  obtain ⟨hm, -, hn9, -⟩ := err_ok.1 he
  have := slots_most hm (n := h.len) (by omega)
  rw [h2]
  omega
 refine callsIn_of_wp_marks Tryz.func102 rfl h3 ?_ hro
 simp only [Tryz.ntmps102, List.size_toArray, List.length_cons, List.length_nil, Nat.reduceAdd, Nat.reduceSub, Array.replicate_succ, Array.replicate_zero, List.push_toArray, List.append_toArray, List.nil_append, List.cons_append]
 have HIt := uh (fun Bs D G hGD hDD w0 hw hBs => vrefs_g (6 - 1) (by omega) w vb a aw g W h t hA hv ht he hg hwl Bs D G hGD hDD w0 hw hBs)
 generalize t.refs h.len = rs at *
 have Hfin := uh (svs_len W g rs)
 have hT0 := uh (Turn.refl (Has.nil w))
 clear hA hv ht he hg hwl
 gi_wp2_with (first
  | (gi_at_call 168; refine (vrefs_in (6 - 1) vb _).mono ?_; rintro e w' ⟨rfl, hw⟩; rw [hw]; clear hw w')
  | fail)
 obtain ⟨n4, hn4⟩ : ∃ n4, w.heap.size = n4 := ⟨_, rfl⟩
 have T5 := (hT0.out.alloc (.cells #[.slice none 0 0] 38)).alloc (.cells #[.pointer (some ⟨vb, 0, none⟩)] 124)
 have hsz0 : ((w.alloc (.cells #[.slice none 0 0] 38)).alloc (.cells #[.pointer (some ⟨vb, 0, none⟩)] 124)).heap.size = w.heap.size + 1 + 1 := by simp
 simp only [World.size_alloc] at T5
 generalize (w.alloc (.cells #[.slice none 0 0] 38)).alloc (.cells #[.pointer (some ⟨vb, 0, none⟩)] 124) = W0 at T5 hsz0 ⊢
 have R8 : Below w.heap.size w W0 := T5.below
 rw [hn4] at T5 hsz0 hvbl ⊢
 clear hT0
 have hBs : W0.heap[n4 + 1]? = some (.cells #[.pointer (some ⟨vb, 0, none⟩)] 124) := T5.has.own _ _ (by simp)
 have T8 : Turn [] w ([] ++ [(n4, .cells #[.slice none 0 0] 38), (n4 + 1, .cells #[.pointer (some ⟨vb, 0, none⟩)] 124)]) W0 := T5.perm po
 clear T5
 have hw0W : w.heap.size ≤ W0.heap.size := R8.size
 apply wpIn_rangeFunc_g (β := Nat) hro h1 (gf := 217) (lb := #[.pointer (some ⟨n4 + 1, 0, none⟩)]) rfl h7 (enters_of Tryz.func217 (by kernel_rfl) rfl)
  (HIt.out (n4 + 1) (ResD n4) (ResG n4 (n4 + 1)) (fun A h => h) (fun A B b hg hB => ResD.old hg hB) W0 R8 hBs)
  (fun h k => h.t k) (KpD.b (by omega) (fun W l o' hl b => ResD.put (by omega) o')) (Below.refl _ _) (fun _ => rfl)
  (fun pre W' => ∃ ao cap lr, Row 3 1 ao pre.length cap (nats (pre.map (·.1))) lr ∧ pre.length ≤ 65536 ∧ Turn [] w (lr ++ [(n4, .cells #[.slice ao pre.length cap] 38), (n4 + 1, .cells #[.pointer (some ⟨vb, 0, none⟩)] 124)]) W')
  (fun (x : Nat × Nat) (nb : Nat) pre W' => ∃ ao cap lr, Row 3 1 ao pre.length cap (nats (pre.map (·.1))) lr ∧ pre.length + 1 ≤ 65536 ∧ Turn [] w (lr ++ [(n4, .cells #[.slice ao pre.length cap] 38), (n4 + 1, .cells #[.pointer (some ⟨vb, 0, none⟩)] 124)]) W')
  (fun s A D row ⟨ao, cap, lr, e1, e2, hT⟩ hg hr => ⟨ao, cap, lr, e1, e2, hT.grownB hw0W (resBx_cells e1) hg hr⟩)
  (fun x nb s A D row ⟨ao, cap, lr, e1, e2, hT⟩ hg hr => ⟨ao, cap, lr, e1, e2, hT.grownB hw0W (resBx_cells e1) hg hr⟩)
  ⟨none, 0, [], Row.nil _ _, by simp, T8⟩
  (fun pre W' ⟨ao, cap, lr, e1, e2, hT⟩ => resG_of e1 hT)
 case hassign =>
  rintro l1 pre x W2 ⟨post, hnx⟩ ⟨ao, cap, lr, e1, e2, hT⟩
  have hpl : pre.length + 1 ≤ 65536 := by
   have h9 := Hfin.out
   rw [hnx, List.length_append, List.length_cons] at h9
   omega
  have hwn : w.heap.size ≤ W2.heap.size := hT.size
  have HX := uh (⟨e1, hT⟩ : Row 3 1 ao pre.length cap (nats (pre.map (·.1))) lr ∧ Turn [] w (lr ++ [(n4, .cells #[.slice ao pre.length cap] 38), (n4 + 1, .cells #[.pointer (some ⟨vb, 0, none⟩)] 124)]) W2)
  unfold svArgs
  clear hT e1 hnx
  gi_wp2_with fail
  obtain ⟨z, -⟩ : ∃ z : Nat, z = 0 := ⟨0, rfl⟩
  exact ⟨KeepsFrom.refl _ _, ⟨Below.refl _ _, Nat.le_refl _, fun _ _ h _ _ => h, fun _ _ h => h⟩, z, rfl, ao, cap, lr, HX.out.1, hpl, HX.out.2⟩
 case hbody =>
  rintro l1 pre x nb W2 - ⟨ao, cap, lr, e1, e2, hT⟩
  have q0 : W2.cell? ⟨n4, 0, none⟩ = some (.slice ao pre.length cap) := hT.has.cell (b := n4) (c := #[.slice ao pre.length cap]) (e := 38) (f := (0, 0)) (by simp) 0
  have h63 : pre.length + 1 ≤ maxLen := by unfold maxLen; omega
  have hby : (pre.length + 1) * 8 ≤ 140737488355328 := by omega
  have HT := uh hT
  have H1 := uh e1
  have HH := uh (hT.has.sub (l' := lr ++ [(n4, .cells #[.slice ao pre.length cap] 38)]) (by simp))
  clear hT e1
  gi_wp2_with (first
   | (gi_at_builtin; have T3 := uh (HT.out.alloc (.cells #[.int .i64 x.1] 3)); have K3 := uh (((Turn.refl HH.out).alloc (.cells #[.int .i64 x.1] 3)).perm (l2 := lr ++ [(W2.heap.size, .cells #[.int .i64 x.1] 3), (n4, .cells #[.slice ao pre.length cap] 38)]) po); refine wpListIn_by (follows_round _ _ _) rfl (by intro c h; cases h) (wp_append_row _ _ rfl el_int rfl H1.out (R := [(W2.heap.size, .cells #[.int .i64 x.1] 3), (n4, .cells #[.slice ao pre.length cap] 38)]) K3.out.has rfl (news := [.int .i64 x.1]) rfl (news_of (heap_alloc_new _ _)) (by simp [Value.oneCell']) h63 hby ?_); intro a9 p9 l9 w4 hr9 V4 hno; have T4 := (((T3.out.perm (l2 := (lr ++ [(W2.heap.size, .cells #[.int .i64 x.1] 3), (n4, .cells #[.slice ao pre.length cap] 38)]) ++ [(n4 + 1, .cells #[.pointer (some ⟨vb, 0, none⟩)] 124)]) po)).trans (V4.more ((T3.out.perm (l2 := (lr ++ [(W2.heap.size, .cells #[.int .i64 x.1] 3), (n4, .cells #[.slice ao pre.length cap] 38)]) ++ [(n4 + 1, .cells #[.pointer (some ⟨vb, 0, none⟩)] 124)]) po).has))).perm (l2 := (n4, .cells #[.slice ao pre.length cap] 38) :: (l9 ++ [(W2.heap.size, .cells #[.int .i64 x.1] 3), (n4 + 1, .cells #[.pointer (some ⟨vb, 0, none⟩)] 124)])) po; have q5 := T4.cell1 0; have f5 := T4.free1 0; have K5 := ((K3.out.trans V4).perm (l2 := (n4, .cells #[.slice ao pre.length cap] 38) :: (l9 ++ [(W2.heap.size, .cells #[.int .i64 x.1] 3)])) po).setCell 0 (.slice a9 (pre.length + 1) p9); have HT5 := uh (T4.setCell 0 (.slice a9 (pre.length + 1) p9)); have HK5 := uh (KpD.res (n₀ := w.heap.size) H1.out hr9 K5 HH.out (by omega) (fun b hb => (HT.out.new b (by simp [keys] at hb ⊢; exact .inl hb)).resolve_left (by simp [keys]))); have HKO := uh (Turn.keepsOthers K5 HH.out (resBx1_cells H1.out)); have Hr9 := uh hr9; clear V4 T4 K5 K3 T3 hno hr9 q0)
   | fail)
  have hce : nats ((pre ++ [x]).map (·.1)) = nats (pre.map (·.1)) ++ [.int .i64 x.1] := by rw [List.map_append, nats_append]; rfl
  have hl1 : (pre ++ [x]).length = pre.length + 1 := by simp
  refine ⟨HKO.out.from _, HK5.out, a9, p9, l9, by rw [hl1, hce]; exact Hr9.out, by omega, by rw [hl1]; exact (HT5.out.perm (l2 := [(W2.heap.size, .cells #[.int .i64 x.1] 3)] ++ (l9 ++ [(n4, .cells #[.slice a9 (pre.length + 1) p9] 38), (n4 + 1, .cells #[.pointer (some ⟨vb, 0, none⟩)] 124)])) po).drop⟩
 case hdone =>
  rintro D xs W2 hD hxs ⟨ao, cap, lr, e1, e2, hT⟩ hK
  have hxl : xs.length = rs.length := by rw [hxs]; exact Hfin.out
  have hxn : nats (xs.map (·.1)) = nats rs := by
   rw [hxs]
   unfold svs
   rw [List.map_map]
   congr 1
   exact List.map_id _
  rw [hxl] at e1 e2 hT
  rw [hxn] at e1
  clear hxs hxl hxn
  have hHb : Has W2 ((n4, .cells #[.slice ao rs.length cap] 38) :: (lr ++ [(n4 + 1, .cells #[.pointer (some ⟨vb, 0, none⟩)] 124)])) := hT.has.perm po
  have q0 : W2.cell? ⟨n4, 0, none⟩ = some (.slice ao rs.length cap) := hHb.cell (List.mem_cons_self ..) 0
  have f0 : W2.frozen? ⟨n4, 0, none⟩ = false := hHb.free (List.mem_cons_self ..) 0
  have HT := uh hT
  have H1 := uh e1
  have HK := uh hK
  clear hT e1 hHb hK
  gi_wp2_with fail
  have T9 := (HT.out.perm (l2 := (n4, .cells #[.slice ao rs.length cap] 38) :: (lr ++ [(n4 + 1, .cells #[.pointer (some ⟨vb, 0, none⟩)] 124)])) po).setCell 0 (.slice ao rs.length cap)
  have hK5 : (W2.setCell ⟨n4, 0, none⟩ (.slice ao rs.length cap)).heap[D]? = some (.deferred (some [])) := by
   rw [Below.heap_setCell _ _ _ _ (by show D ≠ n4; omega)]
   exact HK.out
  have T10 := T9.grownB (B := W0.heap.size) hw0W (fun y hy => by
   rcases List.mem_cons.1 hy with rfl | hy
   · rfl
   rcases List.mem_append.1 hy with hy | hy
   · exact H1.out.cells y hy
   · rw [List.mem_singleton.1 hy]; rfl) (grownBy_putObj' _ D (.deferred none)) (fun r e => by cases e; exact ⟨hD, _, hK5, rfl⟩)
  have hcl : ((W2.setCell ⟨n4, 0, none⟩ (.slice ao rs.length cap)).putObj D (.deferred none)).cell? ⟨n4, 0, none⟩ = some (.slice ao rs.length cap) := T10.cell1 0
  have HT10 := uh T10
  clear T9 T10 HT q0 f0
  refine ⟨by simp, .inl ⟨_, _, rfl, run_takeDeferred hK5, ?_⟩⟩
  refine ⟨.slice ao rs.length cap, ?_, ao, cap, lr, rfl, H1.out, (HT10.out.perm (l2 := (n4, .cells #[.slice ao rs.length cap] 38) :: ((n4 + 1, .cells #[.pointer (some ⟨vb, 0, none⟩)] 124) :: lr)) po).tail.tail⟩
  simp [results, Tryz.results102, go_sem, hcl]
end
end Go.Proofs.YtbecgkejdacidaaGreatDoor
