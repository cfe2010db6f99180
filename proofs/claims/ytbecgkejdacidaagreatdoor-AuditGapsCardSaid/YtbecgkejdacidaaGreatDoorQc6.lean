/-
  A part of a proof: texts packed by a program of mine (Tr4, Tr5, Ak1, Mp1, Shk, Fd2, Au0, Au1, Ob1, Ob2, Gp1, Cl1, Gp2, Au2, Us0, Us1, U8a, U8b, U8c, U8d, U8p, U8e, Us2, U8f, U8g, U8h, Au3).
  Conditions: those that each theorem states.
-/
import Derived.OwnWalkIn
import Derived.Sort.CutIn
import Derived.Lib.SlKeysI
import Derived.WideShapes
import Derived.Shelf.SlIterI.Nil
import Derived.Shelf.SortM.Plain
import Derived.Shelf.SortM.SortNone
import Derived.Ground.GgzProg
import Derived.Ground.SlgmProg
import Derived.Lib.AppendIntMem
import Derived.Lib.SliceRun
import Derived.Scope
import Derived.Sort.AssemblyPlain
import Derived.Sort.WalkA6
import Derived.Sort.WalkB3
import Derived.Sort.WalkC4
import Derived.Sort.Walk7
import Derived.Sort.Walk13a
import Derived.BigQuiet
import Derived.Test.YtbecgkejdacidaaGreatDoorProg
import Derived.Sort.AtCall
import Derived.Deep.CutRange
import Derived.Deep.Cut
import Derived.Test.YtbecgkejdacidaaGreatDoorQc5
set_option maxRecDepth 100000
set_option maxHeartbeats 12800000
namespace Go.Proofs.YtbecgkejdacidaaGreatDoor
section
open Go Go.RowKit Go.Shelf Go.IntWalk
attribute [local go_sem] Oper.semAt_some
abbrev Ed := Nat × Nat × Int × Nat
def edg (W A : List Nat) (c s : Nat) : Ed := (c, s, tgt A (W.getD (2 * c + 1 + s) 0), W.getD (2 * c + 1 + s) 0)
def edsOf (L : List Ty) (W A : List Nat) (c : Ce) : List Ed := ((tyAt L c.2.typ).refs c.2.len).map (edg W A c.1)
def eds (L : List Ty) (W A : List Nat) (os : List Ce) : List Ed := os.flatMap (edsOf L W A)
def edArgs (x : Ed) : Array Value := #[.agg #[.int .i64 x.1, .int .i64 x.2.1, .int .i64 x.2.2.1], .int .u64 x.2.2.2]
theorem edsOf_at {L : List Ty} {W A : List Nat} {c : Ce} {j s : Nat} (h : ((tyAt L c.2.typ).refs c.2.len)[j]? = some s) : (edsOf L W A c)[j]? = some (edg W A c.1 s) := by unfold edsOf; rw [List.getElem?_map, h]; rfl
theorem eds_next {L : List Ty} {W A : List Nat} {os : List Ce} {i : Nat} {c : Ce} (h : os[i]? = some c) : eds L W A (os.take (i + 1)) = eds L W A (os.take i) ++ edsOf L W A c := by
 rw [take_next h]
 unfold eds
 rw [List.flatMap_append]
 simp
theorem eds_split {L : List Ty} {W A : List Nat} {os : List Ce} {i j s : Nat} {c : Ce} (h : os[i]? = some c) (hj : ((tyAt L c.2.typ).refs c.2.len)[j]? = some s) :
  ∃ post, eds L W A os = (eds L W A (os.take i) ++ (edsOf L W A c).take j) ++ edg W A c.1 s :: post := by
 have h1 : eds L W A os = eds L W A (os.take i) ++ (edsOf L W A c ++ eds L W A (os.drop (i + 1))) := by
  conv => lhs; rw [← List.take_append_drop i os, drop_next h]
  unfold eds
  rw [List.flatMap_append, List.flatMap_cons]
 have h2 : edsOf L W A c = (edsOf L W A c).take j ++ edg W A c.1 s :: (edsOf L W A c).drop (j + 1) := by
  rw [← drop_nextA (edsOf_at hj), List.take_append_drop]
 refine ⟨(edsOf L W A c).drop (j + 1) ++ eds L W A (os.drop (i + 1)), ?_⟩
 rw [h1]
 conv => lhs; rw [h2]
 simp
theorem grefs_in (n : Nat) (g : Nat) (w : World) :
  CallsIn Fence.wide n Tryz.prog 147 #[.pointer (some ⟨g, 0, none⟩)] w fun e w' => e = .returned (.func (.func 202) #[] #[.pointer (some ⟨w.heap.size, 0, none⟩)]) ∧ w' = w.alloc (.cells #[.pointer (some ⟨g, 0, none⟩)] 260) := by
 have hf : Fence.wide.fn 147 := trivial
 refine callsIn_of_wp Tryz.func147 rfl hf ?_ rfl
 simp only [Tryz.ntmps147, List.size_toArray, List.length_cons, List.length_nil, Nat.reduceAdd, Nat.reduceSub, Array.replicate_succ, Array.replicate_zero, List.push_toArray, List.append_toArray, List.nil_append, List.cons_append]
 gi_wp2
 go_ret
 exact ⟨rfl, rfl⟩
structure ObIn (L : List Ty) (W : List Nat) (c : Ce) : Prop where
 obj : objq L W (c.1 : Int) = some c.2
 ty : TyIn (tyAt L c.2.typ)
 err : (tyAt L c.2.typ).err c.2.len = 0
 at_ : c.1 ≤ 65536
 in_ : ∀ s ∈ (tyAt L c.2.typ).refs c.2.len, s < (tyAt L c.2.typ).slots c.2.len ∧ 2 * c.1 + 1 + s < W.length
theorem obIn_of {L : List Ty} {W : List Nat} {cs : List Ce} (hC : Chain L W 0 cs (W.length / 2)) (hf : W.length ≤ 65536) (hTy : ∀ t ∈ L, TyIn t) {c : Ce} (hc : c ∈ objs cs) : ObIn L W c := by
 obtain ⟨h1, h2⟩ := objs_mem hc
 have hm := hC.mem c h1
 have h3 := stands_ty hm.2.2 h2 hTy
 have h4 := (stands_slots hm.2.2 h2).1
 refine ⟨objq_of hm.2.2 h2, h3.2, h3.1, by omega, fun s hs => ?_⟩
 obtain ⟨p, hp⟩ := List.mem_iff_getElem?.1 hs
 have h5 : s < (tyAt L c.2.typ).slots c.2.len := by
  unfold Ty.refs at hs
  exact List.mem_range.1 (List.mem_filter.1 hs).1
 exact ⟨h5, by omega⟩
theorem grefs_g (n : Nat) (hn : 2 ≤ n) (w1 : World) (a aw tb : Nat) {W : List Nat} (tao : Option Addr) (tcap : Nat) (L : List Ty) (hA : WkAt w1 a aw tb W tao tcap L) (hf : W.length ≤ 65536) (hu : ∀ v ∈ W, v < 18446744073709551616) (hTy : ∀ t ∈ L, TyIn t) (hL : L.length ≤ 1000)
  (cs : List Ce) (hC : Chain L W 0 cs (W.length / 2)) (g m Bs : Nat) (ob : Obj) (ao : Option Addr) (cap : Nat) (lr : List Blk) (en : Int) (hmo : MapObj .i64 (mpOf (ats cs)) ob) (hrow : Row 3 1 ao (ats cs).length cap (nats (ats cs)) lr)
  (XB : List Blk) (hx1 : (Bs, .cells #[.pointer (some ⟨g, 0, none⟩)] 260) ∈ XB) (hx2 : (g, .cells #[.pointer (some ⟨a, 0, none⟩), .pointer (some ⟨tb, 0, none⟩), .map (some m), .slice ao (ats cs).length cap, .int .i64 en] 334) ∈ XB) (hx3 : ∀ x ∈ lr, x ∈ XB) (hXc : ∀ x ∈ XB, x.2.isCells = true)
  (D : World → Nat → Prop) (G : World → Prop) (hGD : ∀ A, G A → ∀ b, D A b → b < A.heap.size ∧ b ∉ keys XB) (hDD : ∀ A B b, G A → Below A.heap.size A B → D B b → D A b)
  (w : World) (hw : Below w1.heap.size w1 w) (hX : ∀ x ∈ XB, w.heap[x.1]? = some x.2) (hnd : (keys lr).Nodup) (hmb : w.heap[m]? = some ob) :
  SeqG Fence.wide n Tryz.prog 202 #[.pointer (some ⟨Bs, 0, none⟩)] edArgs (fun A B => KpD w1.heap.size D A B ∧ B.heap[m]? = A.heap[m]?) (fun pre x => ∃ post, eds L W (ats cs) (objs cs) = pre ++ x :: post) (fun xs => xs = eds L W (ats cs) (objs cs)) G w := fun l J W0 hW hJ hG hY h0 => by
 have hX0 : ∀ x ∈ XB, W0.heap[x.1]? = some x.2 := fun x hx => (hW.block x.1 (lt_of_block (hX x hx))).trans (hX x hx)
 have hm0 : W0.heap[m]? = some ob := (hW.block m (lt_of_block hmb)).trans hmb
 have hw0 : Below w1.heap.size w1 W0 := hw.trans (hW.mono hw.size)
 have hFl : Fence.wide.fn 202 := trivial
 have hf1 : Fence.wide.fn 49 := trivial
 have hf2 : Fence.wide.fn 103 := trivial
 have hf3 : Fence.wide.fn 102 := trivial
 have hf4 : Fence.wide.fn 203 := trivial
 refine callsIn_of_wp Tryz.func202 rfl hFl ?_ rfl
 simp only [Tryz.ntmps202, List.size_toArray, List.length_cons, List.length_nil, Nat.reduceAdd, Nat.reduceSub, Array.replicate_succ, Array.replicate_zero, List.push_toArray, List.append_toArray, List.nil_append, List.cons_append]
 have h1 : 1 ≤ n := by omega
 have hro : Fence.wide.round = none := rfl
 have h2 : 1 ≤ n - 1 := by omega
 have Hob := uh (fun (i : Nat) (c : Ce) (hi : (objs cs)[i]? = some c) => obIn_of hC hf hTy (List.mem_of_getElem? hi))
 have Hat := uh (fun (i : Nat) (c : Ce) (hi : (objs cs)[i]? = some c) => (show (ats cs)[i]? = some c.1 by unfold ats; rw [List.getElem?_map, hi]; rfl))
 have hal : (ats cs).length = (objs cs).length := by unfold ats; rw [List.length_map]
 have hol : (objs cs).length ≤ 32768 := by
  have h5 := hC.len
  have h6 : (objs cs).length ≤ cs.length := by unfold objs; exact List.length_filter_le ..
  omega
 have Hsof := uh (fun (w' : World) (hB : Below w1.heap.size w1 w') (c : Ce) (hc : ObIn L W c) => by
  have h7 := sof w' (hA.below hB).fields (hA.below hB).ar hu L hTy hL tb tao tcap (hA.below hB).tab (c.1 : Int)
  rw [hc.obj] at h7
  exact h7)
 have Hvr := uh (fun (w' : World) (hB : Below w1.heap.size w1 w') (c : Ce) (hc : ObIn L W c) vb (hv : VwAt w' vb a c.1 c.2 (tyAt L c.2.typ)) => vrefs_all w' vb a aw c.1 W c.2 _ (hA.below hB).ar hv hc.ty hc.err hc.at_ hc.in_)
 have Hld := uh (fun (w' : World) (hB : Below w1.heap.size w1 w') (c : Ce) (hc : ObIn L W c) vb (hv : VwAt w' vb a c.1 c.2 (tyAt L c.2.typ)) s v hs hvv => vload w' (hA.below hB).ar hv hc.ty hc.err hc.at_ s v hs hvv)
 have Htg := uh (fun (w' : World) (hX' : ∀ x ∈ XB, w'.heap[x.1]? = some x.2) (hm' : w'.heap[m]? = some ob) v (hv : v < 18446744073709551616) => wtarget w' g m ob (ats cs) ((Has.one (hX' _ hx2)).cell (List.mem_cons_self ..) 2) hm' hmo v hv)
 have Hu := uh (fun (i v : Nat) (hv : W[i]? = some v) => hu v (List.mem_of_getElem? hv))
 have HY := uh hY
 have HJ := uh hJ
 have HG := uh hG
 have HJ0 := uh h0
 have Hw0 := uh hw0
 have Hm0 := uh hm0
 have Hrow := uh hrow
 have Hnd := uh hnd
 have Hen := uh (fun (i : Nat) (c : Ce) (hi : (objs cs)[i]? = some c) => eds_next (L := L) (W := W) (A := ats cs) hi)
 have Hes := uh (fun (i j s : Nat) (c : Ce) (hi : (objs cs)[i]? = some c) (hj : ((tyAt L c.2.typ).refs c.2.len)[j]? = some s) => eds_split (L := L) (W := W) (A := ats cs) hi hj)
 have HI0 := uh (fun x (hx : x ∈ XB) => (⟨hX0 x hx, fun hd => (hGD W0 (hG [] W0 h0) x.1 hd).2 (mem_keys.2 ⟨x.2, hx⟩)⟩ : W0.heap[x.1]? = some x.2 ∧ ¬ D W0 x.1))
 -- what stays, whatever list of blocks of cells is looked at
 have HKb := uh (fun (Z : List Blk) (wr w' : World) (hGr : G wr) (hz : ∀ x ∈ Z, wr.heap[x.1]? = some x.2 ∧ ¬ D wr x.1) (hB : Below wr.heap.size wr w') => (fun x hx => ⟨(hB.block x.1 (lt_of_block (hz x hx).1)).trans (hz x hx).1, fun hd => (hz x hx).2 (hDD wr w' x.1 hGr hB hd)⟩ : ∀ x ∈ Z, w'.heap[x.1]? = some x.2 ∧ ¬ D w' x.1))
 have HKk := uh (fun (Z : List Blk) (wr w' : World) (hZc : ∀ x ∈ Z, x.2.isCells = true) (hz : ∀ x ∈ Z, wr.heap[x.1]? = some x.2 ∧ ¬ D wr x.1) (k : KpD w1.heap.size D wr w') => (fun x hx => ⟨k.same x.1 x.2 (hz x hx).1 (hZc x hx) (hz x hx).2, fun hd => (hz x hx).2 (k.own x.1 (lt_of_block (hz x hx).1) hd)⟩ : ∀ x ∈ Z, w'.heap[x.1]? = some x.2 ∧ ¬ D w' x.1))
 have HXc := uh hXc
 have Hx3 := uh hx3
 have HcS := uh (fun (w' : World) (hX' : ∀ x ∈ XB, w'.heap[x.1]? = some x.2) => (⟨(Has.one (hX' _ hx1)).cell (List.mem_cons_self ..) 0, (Has.one (hX' _ hx2)).cell (List.mem_cons_self ..) 0, (Has.one (hX' _ hx2)).cell (List.mem_cons_self ..) 1, (Has.one (hX' _ hx2)).cell (List.mem_cons_self ..) 3⟩ :
  w'.cell? ⟨Bs, 0, none⟩ = some (.pointer (some ⟨g, 0, none⟩)) ∧ w'.cell? ⟨g, 0, none⟩ = some (.pointer (some ⟨a, 0, none⟩)) ∧ w'.cell? ⟨g, 1, none⟩ = some (.pointer (some ⟨tb, 0, none⟩)) ∧ w'.cell? ⟨g, 3, none⟩ = some (.slice ao (ats cs).length cap)))
 have HDn := uh (fun (wr w' : World) (hGr : G wr) (Z : List Blk) (V : Turn [] wr Z w') => (fun x hx => ⟨V.has.own x.1 x.2 hx, fun hd => by
  have h8 := (hGD wr hGr x.1 (hDD wr w' x.1 hGr V.below hd)).1
  have h9 := (V.new x.1 (mem_keys.2 ⟨x.2, hx⟩)).resolve_left (by simp [keys])
  omega⟩ : ∀ x ∈ Z, w'.heap[x.1]? = some x.2 ∧ ¬ D w' x.1))
 have c0 := HcS.out W0 hX0
 have q0 := c0.1
 have q3 := c0.2.2.2
 generalize hos : objs cs = os at *
 clear hY hJ hG hW hw hX hX0 hm0 hw0 hA hu hTy hC h0 hmo hrow hnd hmb hXc c0 hos hx1 hx2 hx3
 gi_wp2_with fail
 gi_loopw [16] (fun v16 wr => ∃ (i : Nat), i ≤ os.length ∧ v16 = .int .i64 i ∧ J (eds L W (ats cs) (os.take i)) wr ∧ Below w1.heap.size w1 wr ∧ (∀ x ∈ XB, wr.heap[x.1]? = some x.2 ∧ ¬ D wr x.1) ∧ wr.heap[m]? = some ob) (fun v16 _ => os.length - (intOf v16).toNat)
 case atStart => exact ⟨0, Nat.zero_le _, by go_num, HJ0.out, Hw0.out, HI0.out, Hm0.out⟩
 case round =>
  clear HJ0 Hw0 HI0 Hm0 q0 q3
  obtain ⟨i, hi, rfl, hJw, hwr, hIw, hmw⟩ := hrel
  by_cases hlt : i < os.length
  · have hlt' : (i : Int) < ((ats cs).length : Int) := by omega
    obtain ⟨c, hc⟩ : ∃ c, os[i]? = some c := ⟨os[i], List.getElem?_eq_getElem hlt⟩
    have hci := Hob.out i c hc
    have hsrc := Hrow.out.src (R := []) (w := wr) (by rw [List.append_nil]; exact ⟨Hnd.out, fun b o hm => (hIw (b, o) (Hx3.out _ hm)).1⟩)
    obtain ⟨b3, off3, rfl, hc3⟩ := hsrc.form (by rw [nats_length]; omega)
    have q3 := hc3 i _ (nats_at (Hat.out i c hc))
    have hGr := HG.out _ wr hJw
    have HIw := uh hIw
    have Hmw := uh hmw
    have HJw := uh hJw
    have Hwr := uh hwr
    have Hci := uh hci
    have HGr := uh hGr
    have Hc := uh hc
    clear hc hci hsrc hc3 hJw hwr hIw hmw hGr
    gi_wp2_with fail
    clear q3
    have hT0 : Turn [] wr [] wr.drew := (Turn.refl (Has.nil wr)).drew
    have HS := uh (fun (w' : World) (X : List Blk) (V : Turn [] wr X w') => by
     have h9 := HcS.out w' (fun x hx => (HKb.out _ wr w' HGr.out HIw.out V.below x hx).1)
     exact (⟨h9.1, h9.2.1, h9.2.2.1⟩ : (fun W' => W'.cell? ⟨Bs, 0, none⟩ = some (.pointer (some ⟨g, 0, none⟩)) ∧ W'.cell? ⟨g, 0, none⟩ = some (.pointer (some ⟨a, 0, none⟩)) ∧ W'.cell? ⟨g, 1, none⟩ = some (.pointer (some ⟨tb, 0, none⟩))) w'))
    have hS := HS.out _ _ hT0
    have HT0 := uh hT0
    clear hT0
    refine wpIn_region_noPanic ?_
    refine wpIn_region_listedHI (S := fun W' => W'.cell? ⟨Bs, 0, none⟩ = some (.pointer (some ⟨g, 0, none⟩)) ∧ W'.cell? ⟨g, 0, none⟩ = some (.pointer (some ⟨a, 0, none⟩)) ∧ W'.cell? ⟨g, 1, none⟩ = some (.pointer (some ⟨tb, 0, none⟩))) 15 [false, false, false, false, false, false, false, false, false, false, false, false, false, false, false] rfl rfl (by kernel_rfl) ?_
    refine tkJ 0 21 hro hS (fun w hSw => hSw.1) ?_
    refine tkI 1 22 hro hS ?_
    refine tkI 2 23 hro hS ?_
    refine tkJ 3 24 hro hS (fun w hSw => hSw.2.1) ?_
    refine tkJ 4 25 hro hS (fun w hSw => hSw.1) ?_
    refine tkI 5 26 hro hS ?_
    refine tkI 6 27 hro hS ?_
    refine tkJ 7 28 hro hS (fun w hSw => hSw.2.2) ?_
    refine tkI 8 29 hro hS ?_
    refine wpAnyHI_call (i := 9) (by kernel_rfl) rfl (fun K hK => ?_)
    go_simp
    refine (callsIn_wide.2 (Hsof.out _ (Hwr.out.trans (HT0.out.below.mono Hwr.out.size)) c Hci.out)).mono ?_
    rintro e w3 ⟨vb, rfl, T3⟩
    have T4 : Turn [] wr [(vb, .cells (viewCells a c.1 c.2 (tyAt L c.2.typ)).toArray 238)] w3 := HT0.out.trans T3
    have hS3 := HS.out _ _ T4
    have HT4 := uh T4
    refine hK.out _ _ hS3 ?_
    clear hK K T3 T4 hS
    simp only [st0, st1, st2]
    refine tkI 10 20 hro hS3 ?_
    refine tkI 11 31 hro hS3 ?_
    refine tkI 12 32 hro hS3 ?_
    refine tkI 13 5 hro hS3 ?_
    refine tkI 14 6 hro hS3 ?_
    refine wpAnyHI_done (by kernel_rfl) ?_ _
    refine NoPanic.normal ?_
    clear hS3 HS HT0
    have hv : VwAt w3 vb a c.1 c.2 (tyAt L c.2.typ) := HT4.out.range1
    have HVR := uh (Hvr.out w3 (Hwr.out.trans (HT4.out.below.mono Hwr.out.size)) c Hci.out vb hv)
    clear hv
    gi_wp2_with fail
    refine (callsIn_wide.2 HVR.out).mono ?_
    rintro e w5 ⟨a15, p15, l15, rfl, hr15, T5⟩
    have HT5 := uh (HT4.out.grow T5)
    have Hr15 := uh hr15
    obtain ⟨Z, hZ⟩ : ∃ Z, Z = l15 ++ ((vb, .cells (viewCells a c.1 c.2 (tyAt L c.2.typ)).toArray 238) :: (XB)) := ⟨_, rfl⟩
    have HZ := uh hZ
    have hZc : ∀ x ∈ Z, x.2.isCells = true := by
     intro x hx
     rw [hZ] at hx
     rcases List.mem_append.1 hx with hx | hx
     · exact hr15.cells x hx
     rcases List.mem_cons.1 hx with rfl | hx
     · rfl
     · exact HXc.out x hx
    have HZc := uh hZc
    have HI5 := uh (show ∀ x ∈ Z, w5.heap[x.1]? = some x.2 ∧ ¬ D w5 x.1 from by
     intro x hx
     rw [hZ] at hx
     rcases List.mem_append.1 hx with hx | hx
     · exact HDn.out wr w5 HGr.out _ HT5.out x (by simp [hx])
     rcases List.mem_cons.1 hx with rfl | hx
     · exact HDn.out wr w5 HGr.out _ HT5.out _ (by simp)
     · exact HKb.out _ wr w5 HGr.out HIw.out HT5.out.below x hx)
    have HJ5 := uh (HJ.out _ wr w5 none HJw.out (below_grownBy HT5.out.below) (fun r e => by cases e))
    have Hw5 := uh (Hwr.out.trans (HT5.out.below.mono Hwr.out.size))
    have Hm5 := uh ((HT5.out.below.block m (lt_of_block Hmw.out)).trans Hmw.out)
    have Hnd15 := uh (show (keys l15).Nodup from by
     have h9 := HT5.out.has.nd
     rw [keys_append, List.nodup_append] at h9
     exact h9.1)
    have hrl : ((tyAt L c.2.typ).refs c.2.len).length ≤ 65536 := by
     have h1 := refsTo_len (tyAt L c.2.typ) ((tyAt L c.2.typ).slots c.2.len)
     have h2 : (tyAt L c.2.typ).refs c.2.len = refsTo (tyAt L c.2.typ) ((tyAt L c.2.typ).slots c.2.len) := rfl
     obtain ⟨hm9, -, hn9, -⟩ := err_ok.1 Hci.out.err
     have := slots_most hm9 (n := c.2.len) (by omega)
     rw [h2]
     omega
    clear hr15 T5 hZ hZc HVR HT4 HT5 HIw Hmw HJw Hwr HGr
    gi_wp2_with fail
    gi_loopw [38] (fun v38 wr => ∃ (j : Nat), j ≤ ((tyAt L c.2.typ).refs c.2.len).length ∧ v38 = .int .i64 j ∧ J (eds L W (ats cs) (os.take i) ++ (edsOf L W (ats cs) c).take j) wr ∧ Below w1.heap.size w1 wr ∧ (∀ x ∈ Z, wr.heap[x.1]? = some x.2 ∧ ¬ D wr x.1) ∧ wr.heap[m]? = some ob) (fun v38 _ => ((tyAt L c.2.typ).refs c.2.len).length - (intOf v38).toNat)
    case atStart => exact ⟨0, Nat.zero_le _, by go_num, by rw [List.take_zero, List.append_nil]; exact HJ5.out, Hw5.out, HI5.out, Hm5.out⟩
    case round =>
     clear HJ5 Hw5 HI5 Hm5
     obtain ⟨j, hj, rfl, hJq, hwr, hIq, hmq⟩ := hrel
     by_cases hltj : j < ((tyAt L c.2.typ).refs c.2.len).length
     · have hltj' : (j : Int) < (((tyAt L c.2.typ).refs c.2.len).length : Int) := by omega
       obtain ⟨s, hs⟩ : ∃ s, ((tyAt L c.2.typ).refs c.2.len)[j]? = some s := ⟨((tyAt L c.2.typ).refs c.2.len)[j], List.getElem?_eq_getElem hltj⟩
       have hin := Hci.out.in_ s (List.mem_of_getElem? hs)
       obtain ⟨v, hvv⟩ : ∃ v, W[2 * c.1 + 1 + s]? = some v := ⟨W[2 * c.1 + 1 + s]'(hin.2), List.getElem?_eq_getElem _⟩
       have hvg : W.getD (2 * c.1 + 1 + s) 0 = v := by rw [List.getD_eq_getElem?_getD, hvv]; rfl
       have hsrc := Hr15.out.src (R := []) (w := wr) (by rw [List.append_nil]; exact ⟨Hnd15.out, fun b o hm => (hIq (b, o) (by rw [HZ.out]; simp [hm])).1⟩)
       obtain ⟨b15, off15, rfl, hc15⟩ := hsrc.form (by rw [nats_length]; omega)
       have q15 := hc15 j _ (nats_at hs)
       have hvq : VwAt wr vb a c.1 c.2 (tyAt L c.2.typ) := (Has.one (hIq (vb, .cells (viewCells a c.1 c.2 (tyAt L c.2.typ)).toArray 238) (by rw [HZ.out]; simp)).1).range (List.mem_cons_self ..)
       have HL := uh (Hld.out wr hwr c Hci.out vb hvq s v hin.1 hvv)
       have hGq := HG.out _ wr hJq
       have hspl := Hes.out i j s c Hc.out hs
       have hedg : edg W (ats cs) c.1 s = (c.1, s, tgt (ats cs) v, v) := by unfold edg; rw [hvg]
       rw [hedg] at hspl
       have hnx : (edsOf L W (ats cs) c).take (j + 1) = (edsOf L W (ats cs) c).take j ++ [(c.1, s, tgt (ats cs) v, v)] := by rw [take_nextA (edsOf_at hs), hedg]
       have HNx := uh hnx
       have HY2 := uh (fun W1 => HY.out _ (c.1, s, tgt (ats cs) v, v) W1 hspl)
       unfold edArgs at HY2
       have HTg := uh (fun (w' : World) (hB : Below wr.heap.size wr w') => Htg.out w' (fun x hx => (HKb.out Z wr w' hGq hIq hB x (by rw [HZ.out]; simp only [List.mem_append, List.mem_cons] at hx ⊢; exact .inr (.inr hx))).1) ((hB.block m (lt_of_block hmq)).trans hmq) v (Hu.out _ v hvv))
       have HB1 := uh (fun (w' : World) (hB : Below wr.heap.size wr w') => (HcS.out w' (fun x hx => (HKb.out Z wr w' hGq hIq hB x (by rw [HZ.out]; simp only [List.mem_append, List.mem_cons] at hx ⊢; exact .inr (.inr hx))).1)).1)
       have HJq := uh hJq
       have HK := uh (fun (w' w8 : World) (hB : Below wr.heap.size wr w') (k : KpD w1.heap.size D w' w8 ∧ w8.heap[m]? = w'.heap[m]?) => (⟨(hwr.trans (hB.mono hwr.size)).trans k.1.below, HKk.out Z w' w8 HZc.out (HKb.out Z wr w' hGq hIq hB) k.1, k.2.trans ((hB.block m (lt_of_block hmq)).trans hmq)⟩ :
        Below w1.heap.size w1 w8 ∧ (∀ x ∈ Z, w8.heap[x.1]? = some x.2 ∧ ¬ D w8 x.1) ∧ w8.heap[m]? = some ob))
       clear hs hin hvv hvg hsrc hc15 hvq hGq hspl hedg hnx hJq hwr hIq hmq
       gi_wp2_with (first
        | (gi_at_call 103; refine (callsIn_wide.2 HL.out).mono ?_; rintro e w6 ⟨rfl, hB6⟩; have HB6 := uh hB6; have q0 := HB1.out w6 hB6; have HT6 := uh (HTg.out w6 hB6); obtain ⟨fn, tmps, assign, body, hy, hR⟩ := HY2.out _ (HJ.out _ wr _ none HJq.out (below_grownBy hB6) (fun r e => by cases e)); have HR := uh hR; clear hR hB6 HL q15)
        | (gi_at_call 203; refine (callsIn_wide.2 HT6.out).mono ?_; rintro e w7 ⟨rfl, hw7⟩; subst hw7; clear HT6 q0)
        | fail)
       refine HR.out.mono ?_
       rintro e w8 ⟨rfl, hJ8, hk8⟩
       have HN := uh (HK.out _ _ HB6.out hk8)
       have HJ8 := uh hJ8
       clear hJ8 hk8 HR hy HK HY2 HB6
       gi_wp2_with fail
       go_roundw
       case rel => exact ⟨j + 1, by omega, by go_num, by rw [HNx.out, ← List.append_assoc]; exact HJ8.out, HN.out.1, HN.out.2.1, HN.out.2.2⟩
       case measure => simp [intOf]; omega
     · obtain rfl : j = ((tyAt L c.2.typ).refs c.2.len).length := by omega
       have hnl : ¬ ((((tyAt L c.2.typ).refs c.2.len).length : Nat) : Int) < (((tyAt L c.2.typ).refs c.2.len).length : Int) := by omega
       have hJ9 : J (eds L W (ats cs) (os.take (i + 1))) wr := by
        rw [Hen.out i c Hc.out]
        have h9 : (edsOf L W (ats cs) c).length = ((tyAt L c.2.typ).refs c.2.len).length := by unfold edsOf; rw [List.length_map]
        rw [← h9, List.take_length] at hJq
        exact hJq
       have HR := uh (⟨hJ9, hwr, fun x hx => hIq x (by rw [HZ.out]; simp [hx]), hmq⟩ : J (eds L W (ats cs) (os.take (i + 1))) wr ∧ Below w1.heap.size w1 wr ∧ (∀ x ∈ XB, wr.heap[x.1]? = some x.2 ∧ ¬ D wr x.1) ∧ wr.heap[m]? = some ob)
       clear hJ9 hJq hwr hIq hmq
       gi_wp2_with fail
       go_roundw
       case rel => exact ⟨i + 1, by omega, by go_num, HR.out.1, HR.out.2.1, HR.out.2.2.1, HR.out.2.2.2⟩
       case measure => simp [intOf]; omega
  · obtain rfl : i = os.length := by omega
    have hnl : ¬ ((os.length : Nat) : Int) < (os.length : Int) := by omega
    have HX := uh (show J (eds L W (ats cs) os) wr by rw [List.take_length] at hJw; exact hJw)
    clear hJw hwr hIw hmw
    gi_wp2_with fail
    go_end0
    exact ⟨⟨_, rfl⟩, HX.out⟩
end
section
open Go Go.RowKit Go.Shelf Go.IntWalk
attribute [local go_sem] Oper.semAt_some
def lvs (x : Ed) : Bool := decide (0 ≤ x.2.2.1)
def edCells (x : Ed) : List Value := [.int .i64 x.1, .int .i64 x.2.1, .int .i64 x.2.2.1]
def edgs (l : List Ed) : List Value := l.flatMap edCells
theorem sz_edge : (Tryz.prog.info? 264).map (·.size) = some 3 := by kernel_rfl
theorem eds_len {L : List Ty} {W A : List Nat} {os : List Ce} (h : ∀ c ∈ os, ((tyAt L c.2.typ).refs c.2.len).length ≤ 65536) : (eds L W A os).length ≤ os.length * 65536 := by
 induction os with
 | nil => simp [eds]
 | cons c os ih =>
  have h1 := h c (List.mem_cons_self ..)
  have h2 := ih fun d hd => h d (List.mem_cons_of_mem _ hd)
  have h3 : (eds L W A (c :: os)).length = ((tyAt L c.2.typ).refs c.2.len).length + (eds L W A os).length := by
   unfold eds edsOf
   rw [List.flatMap_cons, List.length_append, List.length_map]
  rw [h3, List.length_cons, Nat.succ_mul]
  omega
def edgesOf (L : List Ty) (W : List Nat) (cs : List Ce) : Nat := ((eds L W (ats cs) (objs cs)).filter lvs).length
end
section
open Go Go.RowKit Go.Shelf Go.IntWalk
attribute [local go_sem] Oper.semAt_some
section
variable {P : Program} {w : World} {o : Oper} {a : Act} {K : Act → World → Prop} {Q : Exit → Act → World → Prop} {q : IntKind} {mp : List (Int × Value)} {b : Nat} {ob : Obj}
theorem wp_mlookup_g (m x : Operand) (t : TypeId) (ok : Bool) (hop : o.op = Op.lookup t m x ok) (kt e : TypeId) (ht : P.underlying t = some (.map kt e)) (hk : P.underlying kt = some (.int q)) (z : Value) (hz : (zeroValue e).run P w = .ok z w)
  (hm : a.eval m = .map (some b)) (hb : w.heap[b]? = some ob) (hmo : MapObj q mp ob) (k : Int) (hx : a.eval x = .int q k)
  (hK : K (a.put o.dst (let v := (mget mp k).getD z; if ok then .tuple #[v, .bool (mget mp k).isSome] else v)) w) : o.wp P a w K Q := by
 have hrun := run_mlookup hb hmo ht hk hz k ok
 unfold Oper.wp
 simp only [execOp, hop, hm, hx, hrun, Sem.run_bind, Result.andThen_ok, Sem.run_pure]
 exact hK
end
def bad (x : Ed) : Bool := x.2.2.2 != 0 && decide (x.2.2.1 < 0)
def ftCells (x : Ed) : List Value := [.int .i64 x.1, .int .i64 x.2.1, .int .i64 8]
def fts (l : List Ed) : List Value := l.flatMap ftCells
theorem fts_append (a b : List Ed) : fts (a ++ b) = fts a ++ fts b := by simp [fts]
theorem el_fault : Elem Tryz.prog 274 279 3 24 (.agg #[.int .i64 0, .int .i64 0, .int .i64 0]) := Elem.of Tryz.underlying274 (by kernel_rfl) rfl
def badsOf (L : List Ty) (W : List Nat) (cs : List Ce) : List Ed := (eds L W (ats cs) (objs cs)).filter bad
theorem filter_bad_le (l : List Ed) : (l.filter bad).length ≤ l.length := List.length_filter_le ..
theorem filter_bad_snoc (l : List Ed) (x : Ed) : (l ++ [x]).filter bad = l.filter bad ++ if bad x = true then [x] else [] := by
 rw [List.filter_append]
 congr 1
 by_cases h : bad x = true
 · rw [if_pos h, List.filter_cons_of_pos h]; rfl
 · rw [if_neg h, List.filter_cons_of_neg h]; rfl
theorem endOf_chain {L : List Ty} {W : List Nat} : ∀ {cs : List Ce} {g e : Nat}, Chain L W g cs e → endOf g cs = e
 | [], _, _, h => h
 | c :: cs, g, e, h => by
  have h2 := h.2.2
  rw [← h.1] at h2
  show endOf (c.1 + c.2.size) cs = e
  exact endOf_chain h2
theorem mem_ats {cs : List Ce} {i : Nat} : i ∈ ats cs ↔ ∃ c ∈ objs cs, c.1 = i := by
 unfold ats
 rw [List.mem_map]
theorem wcheck (w : World) (a aw tb bb : Nat) {W : List Nat} (tao : Option Addr) (tcap : Nat) (L : List Ty) (hWk : WkAt w a aw tb W tao tcap L) (hf : W.length ≤ 65536) (hu : ∀ v ∈ W, v < 18446744073709551616) (hTy : ∀ t ∈ L, TyIn t) (hL : L.length ≤ 1000)
  (cs : List Ce) (hC : Chain L W 0 cs (W.length / 2)) (B : List Nat) (bo : Option Addr) (bcap : Nat) (hB : BitAt w bb B (W.length / 2) bo bcap) (hBu : u64ok B) (hBl : B.length = (W.length / 2 + 63) / 64) (hbits : bitsOf B (W.length / 2) (objs cs)) :
  Calls Tryz.prog 156 #[.pointer (some ⟨a, 0, none⟩), .pointer (some ⟨tb, 0, none⟩), .pointer (some ⟨bb, 0, none⟩)] w fun e w' => ∃ ao cap l, e = .returned (.tuple #[.slice ao (badsOf L W cs).length cap, .int .i64 0]) ∧ Row 279 3 ao (badsOf L W cs).length cap (fts (badsOf L W cs)) l ∧ Turn [] w l w' := by
 refine (callsIn_wide (n := 6)).1 ?_
 have h3 : Fence.wide.fn 156 := trivial
 have h6 : Fence.wide.fn 147 := trivial
 have h7 : Fence.wide.fn 202 := trivial
 have h8 : Fence.wide.fn 146 := trivial
 have h9 : Fence.wide.fn 71 := trivial
 have h10 : Fence.wide.fn 63 := trivial
 have hro : Fence.wide.round = none := rfl
 have h1 : 1 ≤ 6 := by omega
 have hel : (eds L W (ats cs) (objs cs)).length ≤ 2147483648 := by
  have h5 := hC.len
  have h6 : (objs cs).length ≤ cs.length := by unfold objs; exact List.length_filter_le ..
  have h7 := eds_len (L := L) (W := W) (A := ats cs) (os := objs cs) (fun c hc => by
   have hi := obIn_of hC hf hTy hc
   have h1 := refsTo_len (tyAt L c.2.typ) ((tyAt L c.2.typ).slots c.2.len)
   have h2 : (tyAt L c.2.typ).refs c.2.len = refsTo (tyAt L c.2.typ) ((tyAt L c.2.typ).slots c.2.len) := rfl
   obtain ⟨hm9, -, hn9, -⟩ := err_ok.1 hi.err
   have := slots_most hm9 (n := c.2.len) (by omega)
   rw [h2]
   omega)
  omega
 refine callsIn_of_wp_marks Tryz.func156 rfl h3 ?_ hro
 simp only [Tryz.ntmps156, List.size_toArray, List.length_cons, List.length_nil, Nat.reduceAdd, Nat.reduceSub, Array.replicate_succ, Array.replicate_zero, List.push_toArray, List.append_toArray, List.nil_append, List.cons_append]
 have HIt := uh (fun g m Bs ob ao cap lr en hmo hrow XB hx1 hx2 hx3 hXc D G hGD hDD w0 hw hX hnd hmb => grefs_g (6 - 1) (by omega) w a aw tb tao tcap L hWk hf hu hTy hL cs hC g m Bs ob ao cap lr en hmo hrow XB hx1 hx2 hx3 hXc D G hGD hDD w0 hw hX hnd hmb)
 have HTh := uh (wthrough w a aw tb tao tcap L hWk hf hu hTy hL cs hC)
 have hz6 : W.length / 2 ≤ 32768 := by omega
 have Hhas := uh (fun w' (hk : Below w.heap.size w w') (i : Nat) (hi : i < W.length / 2) => bhas w' bb (W.length / 2) B bo bcap (hB.below hk) hBu (by omega) i hi (by omega))
 have Hbit := uh (fun (i : Nat) (hi : i < W.length / 2) => (by
  have h := hbits i hi
  rw [← mem_ats] at h
  by_cases hm : i ∈ ats cs
  · rw [decide_eq_true hm]; exact h.2 hm
  · rw [decide_eq_false hm]; exact Bool.eq_false_iff.2 (fun hb => hm (h.1 hb)) : bitAt B i = decide (i ∈ ats cs)))
 have Hln := uh (fun w' (hk : Below w.heap.size w w') => alen w' (hWk.below hk).ar)
 have hdiv : ((W.length : Int)).tdiv 2 = ((W.length / 2 : Nat) : Int) := tdiv_nat _ 2
 have hdiv2 : (W.length : Int) / 2 = ((W.length / 2 : Nat) : Int) := by omega
 have hend : endOf 0 cs = W.length / 2 := endOf_chain hC
 obtain ⟨z, hz⟩ : ∃ z, W.length / 2 = z := ⟨_, rfl⟩
 rw [hz] at Hhas Hbit hdiv hdiv2 hend hz6
 have hzb : ∀ w, (zeroValue 4).run Tryz.prog w = .ok (.bool false) w := fun _ => by kernel_rfl
 clear hC hu hTy hWk hB hBu hBl hbits hz
 gi_wp2_with fail
 refine (callsIn_wide.2 HTh.out).mono ?_
 rintro e w3 ⟨g, m, ob, go_, gcap, lg, rfl, hmo, hrg, T3⟩
 obtain ⟨n4, hn4⟩ : ∃ n4, w3.heap.size = n4 := ⟨_, rfl⟩
 have hw3 : w.heap.size ≤ n4 := by rw [← hn4]; exact T3.size
 have T4 := T3.alloc (.cells #[.slice none 0 0] 274)
 rw [hn4] at T4
 have Hmo := uh hmo
 have Hrg := uh hrg
 have HG := uh (fun (W' : World) (V : Turn [] w ((n4, .cells #[.slice none 0 0] 274) :: ((g, .cells #[.pointer (some ⟨a, 0, none⟩), .pointer (some ⟨tb, 0, none⟩), .map (some m), .slice go_ (ats cs).length gcap, .int .i64 (endOf 0 cs : Nat)] 334) :: (m, ob) :: lg)) W') => (⟨V.has.cell (b := g) (c := #[.pointer (some ⟨a, 0, none⟩), .pointer (some ⟨tb, 0, none⟩), .map (some m), .slice go_ (ats cs).length gcap, .int .i64 (endOf 0 cs : Nat)]) (e := 334) (f := (0, 0)) (by simp) 2, V.has.cell (b := g) (c := #[.pointer (some ⟨a, 0, none⟩), .pointer (some ⟨tb, 0, none⟩), .map (some m), .slice go_ (ats cs).length gcap, .int .i64 (endOf 0 cs : Nat)]) (e := 334) (f := (0, 0)) (by simp) 4, V.has.own m ob (by simp)⟩ :
  W'.cell? ⟨g, 2, none⟩ = some (.map (some m)) ∧ W'.cell? ⟨g, 4, none⟩ = some (.int .i64 (endOf 0 cs : Nat)) ∧ W'.heap[m]? = some ob))
 have HT4 := uh T4
 have q4 := (HG.out _ T4).2.1
 clear T3 T4 hmo hrg HTh
 gi_upto_region 5 with fail
 generalize w3.alloc (.cells #[.slice none 0 0] 274) = w4 at *
 gi_wp2_with fail
 gi_loopw [31] (fun v31 wr => ∃ (i : Nat), i ≤ z ∧ v31 = .int .i64 i ∧ Turn [] w ((n4, .cells #[.slice none 0 0] 274) :: ((g, .cells #[.pointer (some ⟨a, 0, none⟩), .pointer (some ⟨tb, 0, none⟩), .map (some m), .slice go_ (ats cs).length gcap, .int .i64 (endOf 0 cs : Nat)] 334) :: (m, ob) :: lg)) wr) (fun v31 _ => z - (intOf v31).toNat)
 case atStart => exact ⟨0, Nat.zero_le _, by go_num, HT4.out⟩
 case round =>
  clear HT4 q4
  obtain ⟨i, hi, rfl, hT⟩ := hrel
  have q4 := (HG.out _ hT).2.1
  rw [hend] at q4
  by_cases hlt : i < z
  · have hlt' : (i : Int) < ((z : Nat) : Int) := by omega
    have HT := uh hT
    have Hh := uh (Hhas.out wr hT.below i hlt)
    rw [Hbit.out i hlt] at Hh
    have HMp := uh (mpOf_get (ats cs) i)
    clear hT
    by_cases hm : i ∈ ats cs
    · rw [decide_eq_true hm] at Hh
      rw [if_pos hm] at HMp
      clear hm
      gi_wp2_with fail
      refine (callsIn_wide.2 Hh.out).mono ?_
      rintro e w5 ⟨rfl, hB5⟩
      have HT5 := uh (HT.out.call hB5)
      have c5 := (HG.out _ HT5.out).1
      have b5 := (HG.out _ HT5.out).2.2
      clear hB5 HT Hh q4
      gi_wp2_with (first | (show wpListIn _ _ _ _ _ (⟨_, Op.lookup _ _ _ _, _, _, _, _⟩ :: _) _ _; refine wpListIn_byG (follows_wide _ _) (by rfl) (by intro c h; cases h) (wp_mlookup_g _ _ _ false rfl 3 4 Tryz.underlying332 Tryz.underlying3 _ (hzb _) rfl b5 Hmo.out (i : Int) rfl ?_); rw [HMp.out]) | fail)
      go_roundw
      case rel => exact ⟨i + 1, by omega, by go_num, HT5.out⟩
      case measure => simp [intOf]; omega
    · rw [decide_eq_false hm] at Hh
      rw [if_neg hm] at HMp
      clear hm
      gi_wp2_with fail
      refine (callsIn_wide.2 Hh.out).mono ?_
      rintro e w5 ⟨rfl, hB5⟩
      have HT5 := uh (HT.out.call hB5)
      have c5 := (HG.out _ HT5.out).1
      have b5 := (HG.out _ HT5.out).2.2
      clear hB5 HT Hh q4
      gi_wp2_with (first | (show wpListIn _ _ _ _ _ (⟨_, Op.lookup _ _ _ _, _, _, _, _⟩ :: _) _ _; refine wpListIn_byG (follows_wide _ _) (by rfl) (by intro c h; cases h) (wp_mlookup_g _ _ _ false rfl 3 4 Tryz.underlying332 Tryz.underlying3 _ (hzb _) rfl b5 Hmo.out (i : Int) rfl ?_); rw [HMp.out]) | fail)
      go_roundw
      case rel => exact ⟨i + 1, by omega, by go_num, HT5.out⟩
      case measure => simp [intOf]; omega
  · have hnl : ¬ (i : Int) < ((z : Nat) : Int) := by omega
    have HT := uh hT
    clear hT
    gi_wp2_with fail
    have hS : Turn [] w ((n4, .cells #[.slice none 0 0] 274) :: ((g, .cells #[.pointer (some ⟨a, 0, none⟩), .pointer (some ⟨tb, 0, none⟩), .map (some m), .slice go_ (ats cs).length gcap, .int .i64 (endOf 0 cs : Nat)] 334) :: (m, ob) :: lg)) wr.drew := HT.out.drew
    clear q4 HT
    refine wpIn_region_noPanic ?_
    refine wpIn_region_listedHI (S := fun W' => Turn [] w ((n4, .cells #[.slice none 0 0] 274) :: ((g, .cells #[.pointer (some ⟨a, 0, none⟩), .pointer (some ⟨tb, 0, none⟩), .map (some m), .slice go_ (ats cs).length gcap, .int .i64 (endOf 0 cs : Nat)] 334) :: (m, ob) :: lg)) W') 8 [false, false, false, false, false, false, false, false] rfl rfl (by kernel_rfl) ?_
    refine tkI 0 70 hro hS ?_
    refine tkI 1 71 hro hS ?_
    refine tkI 2 72 hro hS ?_
    refine tkJ 3 73 hro hS (fun w hSw => (HG.out _ hSw).2.1) ?_
    refine tkI 4 74 hro hS ?_
    refine wpAnyHI_call (i := 5) (by kernel_rfl) rfl (fun K hK => ?_)
    go_simp
    refine (callsIn_wide.2 (Hln.out _ hS.below)).mono ?_
    rintro e w6 ⟨rfl, hw⟩
    rw [hw]
    clear hw w6
    refine hK.out _ _ hS ?_
    clear hK K
    simp only [st0, st1, st2]
    refine tkI 6 76 hro hS ?_
    refine tkI 7 77 hro hS ?_
    refine wpAnyHI_done (by kernel_rfl) ?_ _
    refine NoPanic.normal ?_
    have HS := uh hS
    clear hS hlt hi hnl hend
    generalize wr.drew = w7 at *
    have hwz : IntKind.i64.wrap (z : Int) = (z : Int) := i64_in _ (by omega)
    gi_wp2_with (first
     | (gi_at_call 147; refine (grefs_in (6 - 1) g _).mono ?_; rintro e w' ⟨rfl, hw⟩; rw [hw]; clear hw w')
     | fail)
    have T5 := HS.out.alloc (.cells #[.pointer (some ⟨g, 0, none⟩)] 260)
    generalize (w7.alloc (.cells #[.pointer (some ⟨g, 0, none⟩)] 260)) = W0 at T5 ⊢
    generalize w7.heap.size = Bs at T5 ⊢
    clear HS
    have hw0W : w.heap.size ≤ W0.heap.size := T5.size
    have R8 : Below w.heap.size w W0 := T5.below
    have T8 : Turn [] w ([] ++ ((n4, .cells #[.slice none 0 0] 274) :: ((Bs, .cells #[.pointer (some ⟨g, 0, none⟩)] 260) :: (g, .cells #[.pointer (some ⟨a, 0, none⟩), .pointer (some ⟨tb, 0, none⟩), .map (some m), .slice go_ (ats cs).length gcap, .int .i64 (endOf 0 cs : Nat)] 334) :: (m, ob) :: lg))) W0 := T5.perm po
    have hmW : m < W0.heap.size := T8.has.lt (by simp [keys])
    have hn4W : n4 < W0.heap.size := T8.has.lt (by simp [keys])
    clear T5
    have hXc : ∀ x ∈ (((Bs, .cells #[.pointer (some ⟨g, 0, none⟩)] 260) : Blk) :: (g, .cells #[.pointer (some ⟨a, 0, none⟩), .pointer (some ⟨tb, 0, none⟩), .map (some m), .slice go_ (ats cs).length gcap, .int .i64 (endOf 0 cs : Nat)] 334) :: lg), x.2.isCells = true := by
     intro x hx
     rcases List.mem_cons.1 hx with rfl | hx
     · rfl
     rcases List.mem_cons.1 hx with rfl | hx
     · rfl
     · exact Hrg.out.cells x hx
    have hX : ∀ x ∈ (((Bs, .cells #[.pointer (some ⟨g, 0, none⟩)] 260) : Blk) :: (g, .cells #[.pointer (some ⟨a, 0, none⟩), .pointer (some ⟨tb, 0, none⟩), .map (some m), .slice go_ (ats cs).length gcap, .int .i64 (endOf 0 cs : Nat)] 334) :: lg), W0.heap[x.1]? = some x.2 := fun x hx => T8.has.own x.1 x.2 (by
     simp only [List.mem_cons, List.nil_append] at hx ⊢
     rcases hx with h | h | h
     · exact .inr (.inl h)
     · exact .inr (.inr (.inl h))
     · exact .inr (.inr (.inr (.inr h))))
    have hmb : W0.heap[m]? = some ob := T8.has.own m ob (by simp)
    have hnd : (keys lg).Nodup := by
     have h9 := T8.has.nd
     simp only [List.nil_append, keys_cons, List.nodup_cons] at h9
     exact h9.2.2.2.2
    have hAc : ∀ (lr : List Blk) (ao : Option Addr) (k cap : Nat), (∀ x ∈ lr, x.2.isCells = true) → ∀ x ∈ lr ++ (((n4, .cells #[.slice ao k cap] 274) : Blk) :: ((Bs, .cells #[.pointer (some ⟨g, 0, none⟩)] 260) :: (g, .cells #[.pointer (some ⟨a, 0, none⟩), .pointer (some ⟨tb, 0, none⟩), .map (some m), .slice go_ (ats cs).length gcap, .int .i64 (endOf 0 cs : Nat)] 334) :: (m, ob) :: lg)), x.2.isCells = true ∨ x.1 < W0.heap.size := fun lr ao k cap hl x hx => by
     simp only [List.mem_cons, List.mem_append] at hx
     rcases hx with hx | rfl | rfl | rfl | rfl | hx
     · exact .inl (hl x hx)
     · exact .inl rfl
     · exact .inl rfl
     · exact .inl rfl
     · exact .inr hmW
     · exact .inl (Hrg.out.cells x hx)
    have hGI : ∀ (lr : List Blk) (ao : Option Addr) (k cap : Nat) (xs : List Value) (W' : World), Row 279 3 ao k cap xs lr → Turn [] w (lr ++ ((n4, .cells #[.slice ao k cap] 274) :: ((Bs, .cells #[.pointer (some ⟨g, 0, none⟩)] 260) :: (g, .cells #[.pointer (some ⟨a, 0, none⟩), .pointer (some ⟨tb, 0, none⟩), .map (some m), .slice go_ (ats cs).length gcap, .int .i64 (endOf 0 cs : Nat)] 334) :: (m, ob) :: lg))) W' → ∀ b, ResD n4 W' b → b < W'.heap.size ∧ b ∉ keys (((Bs, .cells #[.pointer (some ⟨g, 0, none⟩)] 260) : Blk) :: (g, .cells #[.pointer (some ⟨a, 0, none⟩), .pointer (some ⟨tb, 0, none⟩), .map (some m), .slice go_ (ats cs).length gcap, .int .i64 (endOf 0 cs : Nat)] 334) :: lg) := fun lr ao k cap xs W' hr T b hb => by
     have hnd := T.has.nd
     rw [keys_append, List.nodup_append] at hnd
     have hnr := hnd.2.1
     rw [keys_cons, List.nodup_cons] at hnr
     rcases hb with rfl | ⟨k', cap', t, hb⟩
     · refine ⟨T.has.lt (by simp [keys]), fun hm => hnr.1 ?_⟩
       simp only [keys_cons, List.mem_cons] at hm ⊢
       rcases hm with h | h | h
       · exact .inl h
       · exact .inr (.inl h)
       · exact .inr (.inr (.inr h))
     · rw [T.has.own n4 _ (by simp : (n4, Obj.cells #[.slice ao k cap] 274) ∈ _)] at hb
       simp only [Option.some.injEq, Obj.cells.injEq, Array.mk.injEq, List.cons.injEq, Value.slice.injEq] at hb
       obtain ⟨⟨⟨rfl, rfl, rfl⟩, -⟩, -⟩ := hb
       rcases hr.2.2.2 with ⟨h2, -⟩ | ⟨q, cur, h2, rfl, -⟩
       · cases h2
       · cases h2
         refine ⟨T.has.lt (by simp [keys]), fun hm => hnd.2.2 b (by simp [keys]) b ?_ rfl⟩
         simp only [keys_cons, List.mem_cons] at hm ⊢
         rcases hm with h | h | h
         · exact .inr (.inl h)
         · exact .inr (.inr (.inl h))
         · exact .inr (.inr (.inr (.inr h)))
    generalize hE : eds L W (ats cs) (objs cs) = E at *
    apply wpIn_rangeFunc_g (β := Nat) hro h1 (gf := 202) (lb := #[.pointer (some ⟨Bs, 0, none⟩)]) rfl h7 (enters_of Tryz.func202 (by kernel_rfl) rfl)
     (HIt.out g m Bs ob go_ gcap lg (endOf 0 cs : Nat) Hmo.out Hrg.out (((Bs, .cells #[.pointer (some ⟨g, 0, none⟩)] 260) : Blk) :: (g, .cells #[.pointer (some ⟨a, 0, none⟩), .pointer (some ⟨tb, 0, none⟩), .map (some m), .slice go_ (ats cs).length gcap, .int .i64 (endOf 0 cs : Nat)] 334) :: lg) (List.mem_cons_self ..) (by simp) (fun x hx => by simp [hx]) hXc (ResD n4) (fun A => ∀ b, ResD n4 A b → b < A.heap.size ∧ b ∉ keys (((Bs, .cells #[.pointer (some ⟨g, 0, none⟩)] 260) : Blk) :: (g, .cells #[.pointer (some ⟨a, 0, none⟩), .pointer (some ⟨tb, 0, none⟩), .map (some m), .slice go_ (ats cs).length gcap, .int .i64 (endOf 0 cs : Nat)] 334) :: lg)) (fun A h => h) (fun A B b hg hB h => by
       rcases h with h | ⟨k, cap, t, h⟩
       · exact .inl h
       · refine .inr ⟨k, cap, t, ?_⟩
         rw [← hB.block n4 (hg n4 (.inl rfl)).1]
         exact h) W0 R8 hX hnd hmb)
     (fun h k => ⟨h.1.t k.1, k.2.trans h.2⟩) (fun W l o o' hl hlo hc hw => ⟨KpD.b (by omega) (fun W l o' hl b => ResD.put (by omega) o') W l o o' hl hlo hc hw, World.putObj_heap_other (by omega)⟩) (Below.refl _ _) (fun _ => rfl)
     (fun pre W' => ∃ ao cap lr, Row 279 3 ao (pre.filter bad).length cap (fts (pre.filter bad)) lr ∧ pre.length ≤ 2147483648 ∧ Turn [] w (lr ++ ((n4, .cells #[.slice ao (pre.filter bad).length cap] 274) :: ((Bs, .cells #[.pointer (some ⟨g, 0, none⟩)] 260) :: (g, .cells #[.pointer (some ⟨a, 0, none⟩), .pointer (some ⟨tb, 0, none⟩), .map (some m), .slice go_ (ats cs).length gcap, .int .i64 (endOf 0 cs : Nat)] 334) :: (m, ob) :: lg))) W')
     (fun x nb pre W' => ∃ ao cap lr, Row 279 3 ao (pre.filter bad).length cap (fts (pre.filter bad)) lr ∧ pre.length + 1 ≤ 2147483648 ∧ Turn [] w ((nb, .cells #[.int .i64 x.1, .int .i64 x.2.1, .int .i64 x.2.2.1] 264) :: (lr ++ ((n4, .cells #[.slice ao (pre.filter bad).length cap] 274) :: ((Bs, .cells #[.pointer (some ⟨g, 0, none⟩)] 260) :: (g, .cells #[.pointer (some ⟨a, 0, none⟩), .pointer (some ⟨tb, 0, none⟩), .map (some m), .slice go_ (ats cs).length gcap, .int .i64 (endOf 0 cs : Nat)] 334) :: (m, ob) :: lg)))) W')
     (fun s A D row ⟨ao, cap, lr, e1, e2, hT⟩ hg hr => ⟨ao, cap, lr, e1, e2, hT.grownC hw0W (hAc lr ao _ cap e1.cells) hg hr⟩)
     (fun x nb s A D row ⟨ao, cap, lr, e1, e2, hT⟩ hg hr => ⟨ao, cap, lr, e1, e2, hT.grownC hw0W (by
       intro y hy
       rcases List.mem_cons.1 hy with rfl | hy
       · exact .inl rfl
       · exact hAc lr ao _ cap e1.cells y hy) hg hr⟩)
     ⟨none, 0, [], Row.nil _ _, by simp, T8⟩
     (fun pre W' ⟨ao, cap, lr, e1, e2, hT⟩ => hGI lr ao _ cap _ W' e1 hT)
    case hassign =>
     rintro l1 pre x W2 ⟨post, hnx⟩ ⟨ao, cap, lr, e1, e2, hT⟩
     have hpl : pre.length + 1 ≤ 2147483648 := by rw [hnx, List.length_append, List.length_cons] at hel; omega
     have T2 := hT.alloc (.cells #[.int .i64 0, .int .i64 0, .int .i64 0] 264)
     have hth : (W2.alloc (.cells #[.int .i64 0, .int .i64 0, .int .i64 0] 264)).there W2.heap.size 0 3 := T2.there1
     have HT2 := uh (T2.laid [.int .i64 x.1, .int .i64 x.2.1, .int .i64 x.2.2.1] rfl)
     have HX := uh (((Turn.refl (Has.nil W2)).alloc (.cells #[.int .i64 0, .int .i64 0, .int .i64 0] 264)).laid [.int .i64 x.1, .int .i64 x.2.1, .int .i64 x.2.2.1] rfl)
     have hszC := sz_edge
     have hoC : (#[.int .i64 x.1, .int .i64 x.2.1, .int .i64 x.2.2.1] : Array Value).all (·.oneCell') = true := all_one (cs := [.int .i64 x.1, .int .i64 x.2.1, .int .i64 x.2.2.1]) (by simp [Value.oneCell'])
     have hGb := hGI lr ao _ cap _ W2 e1 hT
     have hmW2 : m < W2.heap.size := hT.has.lt (by simp [keys])
     have HE := uh e1
     have hw2 := hT.size
     unfold edArgs
     clear T2 hnx hT e1
     gi_wp2_with (first
      | (show wpListIn _ _ _ _ _ (⟨_, Op.store 264 _ _, _, _, _, _⟩ :: _) _ _; refine wpListIn_by (follows_round _ _ _) rfl (by intro c h; cases h) (wp_store_mid 264 _ _ rfl _ 0 #[.int .i64 x.1, .int .i64 x.2.1, .int .i64 x.2.2.1] rfl rfl hth hszC hoC ?_); clear hth)
      | fail)
     have HK := uh (⟨((KeepsOthers.alloc _ _).trans (keepsOthers_setCells _ _ _)).from _, KpD.of HX.out (by omega) (fun b hb => by cases hb) (fun b hb hd => by
       rcases hd with h | ⟨k, cap, t, h⟩
       · exact .inl h
       · refine .inr ⟨k, cap, t, ?_⟩
         rw [← HX.out.below.block n4 (hGb n4 (.inl rfl)).1]
         exact h), HX.out.below.block m hmW2⟩ :
      KeepsFrom W0.heap.size W2 ((W2.alloc (.cells #[.int .i64 0, .int .i64 0, .int .i64 0] 264)).setCells W2.heap.size 0 [.int .i64 x.1, .int .i64 x.2.1, .int .i64 x.2.2.1]) ∧ KpD w.heap.size (ResD n4) W2 ((W2.alloc (.cells #[.int .i64 0, .int .i64 0, .int .i64 0] 264)).setCells W2.heap.size 0 [.int .i64 x.1, .int .i64 x.2.1, .int .i64 x.2.2.1]) ∧ ((W2.alloc (.cells #[.int .i64 0, .int .i64 0, .int .i64 0] 264)).setCells W2.heap.size 0 [.int .i64 x.1, .int .i64 x.2.1, .int .i64 x.2.2.1]).heap[m]? = W2.heap[m]?)
     clear HX hoC hGb
     generalize (W2.alloc (.cells #[.int .i64 0, .int .i64 0, .int .i64 0] 264)).setCells W2.heap.size 0 [.int .i64 x.1, .int .i64 x.2.1, .int .i64 x.2.2.1] = W3 at *
     generalize W2.heap.size = nb at *
     exact ⟨HK.out.1, ⟨HK.out.2.1, HK.out.2.2⟩, nb, rfl, ao, cap, lr, HE.out, hpl, HT2.out⟩
    case hbody =>
     rintro l1 pre x nb W2 - ⟨ao, cap, lr, e1, e2, hT⟩
     have q0 : W2.cell? ⟨n4, 0, none⟩ = some (.slice ao (pre.filter bad).length cap) := hT.has.cell (b := n4) (c := #[.slice ao (pre.filter bad).length cap]) (e := 274) (f := (0, 0)) (by simp) 0
     have r0 : W2.cell? ⟨nb, 0, none⟩ = some (.int .i64 x.1) := hT.cell1 0
     have r1 : W2.cell? ⟨nb, 1, none⟩ = some (.int .i64 x.2.1) := hT.cell1 1
     have q2 : W2.cell? ⟨nb, 2, none⟩ = some (.int .i64 x.2.2.1) := hT.cell1 2
     have hfl := filter_bad_le pre
     have HFs := uh (filter_bad_snoc pre x)
     by_cases hbx : bad x = true
     · have hbx2 := hbx
       unfold bad at hbx2
       rw [Bool.and_eq_true] at hbx2
       obtain ⟨k0, k1⟩ := hbx2
       have k2 : ((x.2.2.2 : Nat) : Int) ≠ 0 := by have := bne_iff_ne.1 k0; omega
       have k3 : x.2.2.1 < 0 := of_decide_eq_true k1
       rw [if_pos hbx] at HFs
       have h63 : (pre.filter bad).length + 1 ≤ maxLen := by unfold maxLen; omega
       have hby : ((pre.filter bad).length + 1) * 24 ≤ 140737488355328 := by omega
       have HT := uh hT
       have H1 := uh e1
       have HH := uh (hT.has.sub (l' := lr ++ [(n4, .cells #[.slice ao (pre.filter bad).length cap] 274)]) (by simp))
       clear hT e1 hbx k0
       gi_wp2_with (first
        | (gi_at_builtin; have K3 := uh (((Turn.refl HH.out).alloc (.cells #[.int .i64 x.1, .int .i64 x.2.1, .int .i64 8] 279)).perm (l2 := lr ++ [(W2.heap.size, .cells #[.int .i64 x.1, .int .i64 x.2.1, .int .i64 8] 279), (n4, .cells #[.slice ao (pre.filter bad).length cap] 274)]) po); refine wpListIn_by (follows_round _ _ _) rfl (by intro c h; cases h) (wp_append_row _ _ rfl el_fault rfl H1.out (R := [(W2.heap.size, .cells #[.int .i64 x.1, .int .i64 x.2.1, .int .i64 8] 279), (n4, .cells #[.slice ao (pre.filter bad).length cap] 274)]) K3.out.has rfl (news := [.int .i64 x.1, .int .i64 x.2.1, .int .i64 8]) rfl (news_of (heap_alloc_new _ _)) (by simp [Value.oneCell']) h63 hby ?_); intro a9 p9 l9 w4 hr9 V4 hno; have K4 := (K3.out.trans V4).perm (l2 := (n4, .cells #[.slice ao (pre.filter bad).length cap] 274) :: (l9 ++ [(W2.heap.size, .cells #[.int .i64 x.1, .int .i64 x.2.1, .int .i64 8] 279)])) po; have q5 := K4.cell1 0; have f5 := K4.free1 0; have K5 := K4.setCell 0 (.slice a9 ((pre.filter bad).length + 1) p9); have HK5 := uh K5; have HKD := uh (KpD.res (n₀ := w.heap.size) H1.out hr9 K5 HH.out (by omega) (fun b hb => (HT.out.new b (by simp [keys] at hb ⊢; exact .inr (.inl hb))).resolve_left (by simp [keys]))); have HKO := uh (Turn.keepsOthers K5 HH.out (resBx1_cells H1.out)); have HMm := uh (K5.same m (HT.out.has.lt (by simp [keys])) (fun hm => by have hnd := HT.out.has.nd; simp only [keys_cons, keys_append, List.nodup_cons, List.nodup_append, List.mem_append, List.mem_cons] at hnd hm; rcases hm with hm | hm | hm; exact hnd.2.2.2 m hm m (by simp) rfl; exact hnd.2.2.1.1 (by rw [← hm]; simp); cases hm)); have Hr9 := uh hr9; clear V4 K4 K5 K3 hno hr9 q0)
        | fail)
       have hce : fts ((pre ++ [x]).filter bad) = fts (pre.filter bad) ++ [.int .i64 x.1, .int .i64 x.2.1, .int .i64 8] := by rw [HFs.out, fts_append]; simp [fts, ftCells]
       have hl1 : ((pre ++ [x]).filter bad).length = (pre.filter bad).length + 1 := by rw [HFs.out]; simp
       have hT9 := (HT.out.perm (l2 := (lr ++ [(n4, .cells #[.slice ao (pre.filter bad).length cap] 274)]) ++ ((nb, .cells #[.int .i64 x.1, .int .i64 x.2.1, .int .i64 x.2.2.1] 264) :: ((Bs, .cells #[.pointer (some ⟨g, 0, none⟩)] 260) :: (g, .cells #[.pointer (some ⟨a, 0, none⟩), .pointer (some ⟨tb, 0, none⟩), .map (some m), .slice go_ (ats cs).length gcap, .int .i64 (endOf 0 cs : Nat)] 334) :: (m, ob) :: lg))) po).trans (HK5.out.more ((HT.out.perm (l2 := (lr ++ [(n4, .cells #[.slice ao (pre.filter bad).length cap] 274)]) ++ ((nb, .cells #[.int .i64 x.1, .int .i64 x.2.1, .int .i64 x.2.2.1] 264) :: ((Bs, .cells #[.pointer (some ⟨g, 0, none⟩)] 260) :: (g, .cells #[.pointer (some ⟨a, 0, none⟩), .pointer (some ⟨tb, 0, none⟩), .map (some m), .slice go_ (ats cs).length gcap, .int .i64 (endOf 0 cs : Nat)] 334) :: (m, ob) :: lg))) po).has))
       refine ⟨HKO.out.from _, ⟨HKD.out, HMm.out⟩, a9, p9, l9, by rw [hl1, hce]; exact Hr9.out, by simp; omega, ?_⟩
       rw [hl1]
       exact (hT9.perm (l2 := [(W2.heap.size, .cells #[.int .i64 x.1, .int .i64 x.2.1, .int .i64 8] 279), (nb, .cells #[.int .i64 x.1, .int .i64 x.2.1, .int .i64 x.2.2.1] 264)] ++ (l9 ++ ((n4, .cells #[.slice a9 ((pre.filter bad).length + 1) p9] 274) :: ((Bs, .cells #[.pointer (some ⟨g, 0, none⟩)] 260) :: (g, .cells #[.pointer (some ⟨a, 0, none⟩), .pointer (some ⟨tb, 0, none⟩), .map (some m), .slice go_ (ats cs).length gcap, .int .i64 (endOf 0 cs : Nat)] 334) :: (m, ob) :: lg)))) po).drop
     · have HX := uh (⟨e1, hT.tail⟩ : Row 279 3 ao (pre.filter bad).length cap (fts (pre.filter bad)) lr ∧ Turn [] w (lr ++ ((n4, .cells #[.slice ao (pre.filter bad).length cap] 274) :: ((Bs, .cells #[.pointer (some ⟨g, 0, none⟩)] 260) :: (g, .cells #[.pointer (some ⟨a, 0, none⟩), .pointer (some ⟨tb, 0, none⟩), .map (some m), .slice go_ (ats cs).length gcap, .int .i64 (endOf 0 cs : Nat)] 334) :: (m, ob) :: lg))) W2)
       rw [if_neg hbx, List.append_nil] at HFs
       by_cases hx0 : x.2.2.2 = 0
       · have k2 : ((x.2.2.2 : Nat) : Int) = 0 := by omega
         clear hT e1 hbx hx0
         gi_wp2_with fail
         refine ⟨KeepsFrom.refl _ _, ⟨⟨Below.refl _ _, Nat.le_refl _, fun _ _ h _ _ => h, fun _ _ h => h⟩, rfl⟩, ao, cap, lr, by rw [HFs.out]; exact HX.out.1, by simp; omega, by rw [HFs.out]; exact HX.out.2⟩
       · have k2 : ((x.2.2.2 : Nat) : Int) ≠ 0 := by omega
         have k3 : ¬ x.2.2.1 < 0 := fun h => hbx (by unfold bad; rw [bne_iff_ne.2 hx0, decide_eq_true h]; rfl)
         clear hT e1 hbx hx0
         gi_wp2_with fail
         refine ⟨KeepsFrom.refl _ _, ⟨⟨Below.refl _ _, Nat.le_refl _, fun _ _ h _ _ => h, fun _ _ h => h⟩, rfl⟩, ao, cap, lr, by rw [HFs.out]; exact HX.out.1, by simp; omega, by rw [HFs.out]; exact HX.out.2⟩
    case hdone =>
     rintro D xs W2 hD hxs ⟨ao, cap, lr, e1, e2, hT⟩ hK
     have hk : badsOf L W cs = xs.filter bad := by unfold badsOf; rw [hE, hxs]
     have HKd := uh hk
     have q0 : W2.cell? ⟨n4, 0, none⟩ = some (.slice ao (xs.filter bad).length cap) := hT.has.cell (b := n4) (c := #[.slice ao (xs.filter bad).length cap]) (e := 274) (f := (0, 0)) (by simp) 0
     have HT := uh hT
     have H1 := uh e1
     have HK := uh hK
     clear hT e1 hK hk hxs
     gi_wp2_with fail
     have T10 := HT.out.grownC (B := W0.heap.size) hw0W (hAc lr ao _ cap H1.out.cells) (grownBy_putObj' _ D (.deferred none)) (fun r e => by cases e; exact ⟨hD, _, HK.out, rfl⟩)
     have HT10 := uh T10
     clear T10 HT q0
     refine ⟨by simp, .inl ⟨_, _, rfl, run_takeDeferred HK.out, ?_⟩⟩
     refine ⟨.tuple #[.slice ao (xs.filter bad).length cap, .int .i64 0], ?_, ao, cap, lr, by rw [HKd.out], by rw [HKd.out]; exact H1.out, HT10.out.sub (List.sublist_append_left _ _)⟩
     simp [results, Tryz.results156, go_sem]
end
section
open Go Go.RowKit Go.MapKept Go.Maps Go.WideElems
def MapSt (q : IntKind) (m : List (Int × Value)) (o : Obj) : Prop := ∃ es clock, o = .map es clock ∧ es.toList.map (fun e => (e.key, e.val)) = m.map (fun p => (Value.int q p.1, p.2)) ∧ Stamped es clock
section
variable {P : Program} {w : World} {b : Nat} {q : IntKind} {m : List (Int × Value)} {o : Obj} {t kt e : TypeId}
end
end
end Go.Proofs.YtbecgkejdacidaaGreatDoor
namespace Go.Proofs
open Go.RowKit Go.Maps Go.Sort Go.Shelf
end Go.Proofs
namespace Go.Proofs.YtbecgkejdacidaaGreatDoor
section
open Go Go.RowKit Go.IntWalk
structure SbAt (w : World) (sb a aw tb bb : Nat) (W B : List Nat) (bo : Option Addr) (bcap : Nat) (tao : Option Addr) (tcap : Nat) (L : List Ty) : Prop where
 sp : SpAt w sb a aw tb W tao tcap L
 c2 : w.cell? ⟨sb, 2, none⟩ = some (.pointer (some ⟨bb, 0, none⟩))
 bits : BitAt w bb B (W.length / 2) bo bcap
theorem SbAt.below {w w' : World} {sb a aw tb bb : Nat} {W B : List Nat} {bo : Option Addr} {bcap : Nat} {tao : Option Addr} {tcap : Nat} {L : List Ty} (h : SbAt w sb a aw tb bb W B bo bcap tao tcap L) (hk : Below w.heap.size w w') : SbAt w' sb a aw tb bb W B bo bcap tao tcap L :=
 ⟨h.sp.below hk, (hk.cell (p := ⟨sb, 2, none⟩) (World.block_lt_of_cell? w _ h.c2)).trans h.c2, h.bits.below hk⟩
structure SdIn (L : List Ty) (W B : List Nat) (cs : List Ce) : Prop where
 few : W.length ≤ 65536
 u64 : ∀ v ∈ W, v < 18446744073709551616
 ty : ∀ t ∈ L, TyIn t
 lt : L.length ≤ 1000
 chain : Chain L W 0 cs (W.length / 2)
 bu : u64ok B
 bl : B.length = (W.length / 2 + 63) / 64
 bits : bitsOf B (W.length / 2) (objs cs)
theorem prevB_some {B : List Nat} : ∀ {i p : Nat}, prevB B i = some p → p ≤ i ∧ bitAt B p = true
 | 0, p, h => by
  unfold prevB at h
  split at h
  · rename_i hb; cases h; exact ⟨Nat.le_refl _, hb⟩
  · cases h
 | i + 1, p, h => by
  unfold prevB at h
  split at h
  · rename_i hb; cases h; exact ⟨Nat.le_refl _, hb⟩
  · have := prevB_some h
    exact ⟨by omega, this.2⟩
section
variable {L : List Ty} {W B : List Nat} {cs : List Ce}
theorem SdIn.obj (h : SdIn L W B cs) {c : Ce} (hc : c ∈ objs cs) : c.1 + c.2.size ≤ W.length / 2 ∧ 1 ≤ c.2.size ∧ stands L W c.1 c.2 ∧ bitAt B c.1 = true := by
 have h1 := h.chain.mem c (List.mem_filter.1 hc).1
 have h2 := h1.2.2.pos
 exact ⟨h1.2.1, h2, h1.2.2, (h.bits c.1 (by omega)).2 ⟨c, hc, rfl⟩⟩
theorem SdIn.hit (h : SdIn L W B cs) {i p : Nat} (hi : i < W.length / 2) (hp : prevB B i = some p) : p ≤ i ∧ ∃ c ∈ objs cs, c.1 = p := by
 have h1 := prevB_some hp
 exact ⟨h1.1, (h.bits p (by omega)).1 h1.2⟩
theorem SdIn.at_ (h : SdIn L W B cs) {c : Ce} (hc : c ∈ objs cs) : prevB B c.1 = some c.1 := prevB_hit (h.obj hc).2.2.2
end
def FdPost (cs : List Ce) (v : Nat) (w : World) (e : Ending) (w' : World) : Prop := ∃ (r : Bool) (g : Nat), e = .returned (.tuple #[.int .i64 g, .bool r]) ∧ (∀ c ∈ objs cs, v = 1048576 + 2 * c.1 → r = true ∧ g = c.1) ∧ (r = true → ∃ c ∈ objs cs, c.1 = g) ∧ g ≤ 65536 ∧ Below w.heap.size w w'
theorem bfind (w : World) (sb a aw tb bb : Nat) {W B : List Nat} (bo : Option Addr) (bcap : Nat) (tao : Option Addr) (tcap : Nat) (L : List Ty) (cs : List Ce) (hA : SbAt w sb a aw tb bb W B bo bcap tao tcap L) (hI : SdIn L W B cs) (v : Nat) (hv : v < 18446744073709551616) :
  Calls Tryz.prog 159 #[.pointer (some ⟨sb, 0, none⟩), .int .u64 v] w (FdPost cs v w) := by
 have HW := uh (sword w v hv)
 by_cases h1 : 1048576 ≤ v ∧ v < 1114112
 · rw [if_pos h1, decide_eq_true h1] at HW
   obtain ⟨u, hu⟩ : ∃ u, v - 1048576 = u := ⟨_, rfl⟩
   have hus : u < 65536 := by omega
   obtain ⟨z, hz⟩ : ∃ z, W.length / 2 = z := ⟨_, rfl⟩
   have hzb : z ≤ 32768 := by have := hI.few; omega
   have Hgr := uh (sgran w hA.sp.c0 hA.sp.ar hI.few)
   rw [hz] at Hgr
   rw [hu] at HW
   by_cases h2 : 2 * z ≤ u
   · have h2z : 2 * (z : Int) ≤ (u : Int) := by omega
     have HN := uh (fun (c : Ce) (hc : c ∈ objs cs) (h : v = 1048576 + 2 * c.1) => (by have := (hI.obj (c := c) hc).1; have := (hI.obj (c := c) hc).2.1; omega : False))
     clear hA hI h1 hu hz
     go_enter Tryz.func159, Tryz.ntmps159
     go_wp2_with (first
      | (go_at_call 209; refine HW.out.mono ?_; rintro e w' ⟨rfl, hw⟩; rw [hw]; clear hw w')
      | (go_at_call 13; refine Hgr.out.mono ?_; rintro e w' ⟨rfl, hw⟩; rw [hw]; clear hw w')
      | fail)
     refine bodyPost_ret (results_tmp2 rfl _ _ _) rfl ?_
     exact ⟨false, 0, rfl, fun c hc h => (HN.out c hc h).elim, (fun h => by cases h), by omega, Below.refl _ _⟩
   · have h2z : ¬ 2 * (z : Int) ≤ (u : Int) := by omega
     have Hst := uh (sstarts w sb bb (W.length / 2) B bo bcap hA.c2 hA.bits (by rw [hI.bl]; omega))
     obtain ⟨q, hqe⟩ : ∃ q, u / 2 = q := ⟨_, rfl⟩
     have hq : ((u : Int)).tdiv 2 = (q : Int) := by rw [← hqe]; exact tdiv_nat _ 2
     have hq2 : (u : Int) / 2 = (q : Int) := by omega
     have HQ := uh hqe
     have HVU : Hid (v = 1048576 + u) := uh (by omega)
     have hlu : q < z := by omega
     have HI := uh hI
     have HA := uh hA
     have hbl := hI.bl
     rw [hz] at hbl
     have Hpv := uh (fun w' b2 bo2 cap2 (hb : BitAt w' b2 B (W.length / 2) bo2 cap2) => bprev w' b2 (W.length / 2) B bo2 cap2 hb HI.out.bu (by rw [HI.out.bl]; omega) q (by omega) (by omega))
     have Har := uh (fun w' (hk : Below w.heap.size w w') => sarena w' (a := ⟨a, 0, none⟩) rfl (hA.below hk).sp.c0)
     have Hhd := uh (fun w' (hk : Below w.heap.size w w') (g : Int) => shead w' (hA.below hk).sp.fields (hA.below hk).sp.ar hI.u64 g)
     have hsz := sz_head
     clear hA hI h1 hu hqe
     go_enter Tryz.func159, Tryz.ntmps159
     go_wp2_with (first
      | (go_at_call 209; refine HW.out.mono ?_; rintro e w' ⟨rfl, hw⟩; rw [hw]; clear hw w')
      | (go_at_call 13; refine Hgr.out.mono ?_; rintro e w' ⟨rfl, hw⟩; rw [hw]; clear hw w')
      | fail)
     refine Hst.out.mono ?_
     rintro e w1 ⟨b2, l2, rfl, hI2, T1⟩
     obtain ⟨bo2, cap2, hb2⟩ := hI2.at_ (R := []) (by rw [List.append_nil]; exact T1.has)
     have Hp := uh (Hpv.out w1 b2 bo2 cap2 hb2)
     have HT1 := uh T1
     clear hb2 hI2 T1 Hst Hpv
     go_wp2_with fail
     refine Hp.out.mono ?_
     cases hp : prevB B q with
     | none =>
      rintro e w2 ⟨rfl, hB2⟩
      have HN := uh (fun (c : Ce) (hc : c ∈ objs cs) (h : v = 1048576 + 2 * c.1) => (by
       have h3 := HI.out.at_ (c := c) hc
       have hvu := HVU.out
       have hqe := HQ.out
       rw [show c.1 = q by omega, hp] at h3
       exact absurd h3 (by simp) : False))
      have HB2 := uh (HT1.out.below.trans (hB2.mono HT1.out.size))
      clear hB2 Hp
      simp only [Option.getD_none, Option.isSome_none]
      go_wp2_with fail
      refine bodyPost_ret (results_tmp2 rfl _ _ _) rfl ?_
      exact ⟨false, 0, rfl, fun c hc h => (HN.out c hc h).elim, (fun h => by cases h), by omega, HB2.out⟩
     | some p =>
      rintro e w2 ⟨rfl, hB2⟩
      obtain ⟨hpu, c, hc, hcp⟩ := HI.out.hit (by omega) hp
      have hob := HI.out.obj hc
      obtain ⟨e1, e2, e3, e4⟩ := stands_head hob.2.2.1
      have HB2 := uh (HT1.out.below.trans (hB2.mono HT1.out.size))
      have Hh2 := uh (Hhd.out w2 HB2.out (c.1 : Int))
      rw [e1, e2] at Hh2
      simp only [Option.getD_some] at Hh2
      have Ha2 := uh (Har.out w2 HB2.out)
      have HC := uh (fun (d : Ce) (hd : d ∈ objs cs) (h : v = 1048576 + 2 * d.1) => (by
       have h3 := HI.out.at_ hd
       have hvu := HVU.out
       have hqe := HQ.out
       rw [show d.1 = q by omega, hp] at h3
       cases h3
       omega : d.1 = p ∧ u = 2 * p))
      have HM := uh (⟨c, hc, hcp⟩ : ∃ c ∈ objs cs, c.1 = p)
      subst hcp
      obtain ⟨cg, xa, xb, xc, xd⟩ := c
      simp only at hob hpu Hh2 HM HC
      have hd1 : cg + xd ≤ z := by rw [← hz]; exact hob.1
      have hd2 : 1 ≤ xd := hob.2.1
      have hoX := hd_one ⟨xa, xb, xc, xd⟩
      simp only at hoX
      clear hc hob e1 e2 e3 e4 hB2 Hp Hhd Har HA hz
      simp only [Option.getD_some, Option.isSome_some]
      go_wp2_with (first
       | (go_at_call 44; refine Ha2.out.mono ?_; rintro e w' ⟨rfl, hw⟩; rw [hw]; clear hw w')
       | fail)
      refine Hh2.out.mono ?_
      rintro e w3 ⟨rfl, hB3⟩
      have T3 := ((Turn.refl (Has.nil w2)).call hB3).alloc (.cells #[.int .u8 0, .int .i64 0, .int .i64 0, .int .i64 0] 79)
      have hth : (w3.alloc (.cells #[.int .u8 0, .int .i64 0, .int .i64 0, .int .i64 0] 79)).there w3.heap.size 0 4 := T3.there1
      have T4 := T3.laid [.int .u8 xa, .int .i64 xb, .int .i64 xc, .int .i64 xd] rfl
      have q3 := T4.cell1 3
      have HT4 := uh (HB2.out.trans (T4.below.mono HB2.out.size))
      clear hB3 T3 T4 Hh2 Ha2
      by_cases h5 : 2 * (cg + xd) ≤ u
      · have h5z : 2 * ((cg : Int) + (xd : Int)) ≤ (u : Int) := by omega
        go_wp2_with (first
         | (show sW 79; refine wpList_store_mid rfl 79 _ _ rfl _ 0 #[.int .u8 xa, .int .i64 xb, .int .i64 xc, .int .i64 xd] rfl rfl hth hsz hoX ?_; clear hth; generalize (w3.alloc (.cells #[.int .u8 0, .int .i64 0, .int .i64 0, .int .i64 0] 79)).setCells w3.heap.size 0 [.int .u8 xa, .int .i64 xb, .int .i64 xc, .int .i64 xd] = w5 at *; generalize w3.heap.size = b4 at *)
         | fail)
        refine bodyPost_ret (results_tmp2 rfl _ _ _) rfl ?_
        exact ⟨false, 0, rfl, fun d hd h => (by have := HC.out d hd h; omega : False).elim, (fun h => by cases h), by omega, HT4.out⟩
      · have h5z : ¬ 2 * ((cg : Int) + (xd : Int)) ≤ (u : Int) := by omega
        go_wp2_with (first
         | (show sW 79; refine wpList_store_mid rfl 79 _ _ rfl _ 0 #[.int .u8 xa, .int .i64 xb, .int .i64 xc, .int .i64 xd] rfl rfl hth hsz hoX ?_; clear hth; generalize (w3.alloc (.cells #[.int .u8 0, .int .i64 0, .int .i64 0, .int .i64 0] 79)).setCells w3.heap.size 0 [.int .u8 xa, .int .i64 xb, .int .i64 xc, .int .i64 xd] = w5 at *; generalize w3.heap.size = b4 at *)
         | fail)
        refine bodyPost_ret (results_tmp2 rfl _ _ _) rfl ?_
        exact ⟨true, cg, rfl, fun d hd h => ⟨rfl, (HC.out d hd h).1.symm⟩, fun _ => HM.out, by omega, HT4.out⟩
 · rw [if_neg h1, decide_eq_false h1] at HW
   have HN := uh (fun (c : Ce) (hc : c ∈ objs cs) (h : v = 1048576 + 2 * c.1) => (by have := (hI.obj (c := c) hc).1; have := (hI.obj (c := c) hc).2.1; have := hI.few; omega : False))
   clear hA hI h1
   go_enter Tryz.func159, Tryz.ntmps159
   go_wp2_with (first
    | (go_at_call 209; refine HW.out.mono ?_; rintro e w' ⟨rfl, hw⟩; rw [hw]; clear hw w')
    | fail)
   refine bodyPost_ret (results_tmp2 rfl _ _ _) rfl ?_
   exact ⟨false, 0, rfl, fun c hc h => (HN.out c hc h).elim, (fun h => by cases h), by omega, Below.refl _ _⟩
def lives (cs : List Ce) (v : Nat) : Bool := (objs cs).any fun c => v == 1048576 + 2 * c.1
theorem lives_iff {cs : List Ce} {v : Nat} : lives cs v = true ↔ ∃ c ∈ objs cs, v = 1048576 + 2 * c.1 := by
 unfold lives
 rw [List.any_eq_true]
 constructor
 · rintro ⟨c, hc, h⟩; exact ⟨c, hc, by simpa using h⟩
 · rintro ⟨c, hc, h⟩; exact ⟨c, hc, by simpa using h⟩
theorem rise_nil (w : World) : Calls Tryz.prog 160 #[.slice none 0 0] w fun e w' => e = .returned (.slice none 0 0) ∧ w' = w := by
 have Hs := uh (fun w => AnyM.slices_Sort_int_none Tryz.sortA none 0 w)
 have Hc : ∀ w, Calls Tryz.prog 211 #[.slice none 0 0] w fun e w' => e = .returned (.slice none 0 0) ∧ w' = w := fun w => by
  go_enter Tryz.func211, Tryz.ntmps211
  go_wp2
  go_ret
  exact ⟨rfl, rfl⟩
 have HC := uh Hc
 clear Hc
 go_enter Tryz.func160, Tryz.ntmps160
 go_wp2_with (first
  | (go_at_call 199; refine (Hs.out _).mono ?_; rintro e w' ⟨rfl, hw⟩; rw [hw]; clear hw w')
  | (go_at_call 211; refine (HC.out _).mono ?_; rintro e w' ⟨rfl, hw⟩; rw [hw]; clear hw w')
  | fail)
 go_ret
 exact ⟨rfl, rfl⟩
theorem rise_one (w : World) (blk cap : Nat) (g : Int) (hc : w.cell? ⟨blk, 0, none⟩ = some (.int .i64 g)) (hf : w.frozen? ⟨blk, 0, none⟩ = false) :
  Calls Tryz.prog 160 #[.slice (some ⟨blk, 0, none⟩) 1 cap] w fun e w' => e = .returned (.slice (some ⟨blk, 0, none⟩) 1 cap) ∧ Below w.heap.size w w' := by
 have hH : Sort.Holds (Value.int .i64) w blk 0 [g].toArray := fun j hj => by
  obtain rfl : j = 0 := by simpa using hj
  exact ⟨by simpa using hc, by simpa using hf⟩
 have Hs := uh (AnyM.slices_Sort_int Tryz.sortA blk 0 cap [g] w hH (World.block_lt_of_cell? w _ hc) (by simp))
 have HB := uh (fun n os => (by
  have h : Sort.putRow (Value.int .i64) (Sort.ahead w n) blk 0 ([g].mergeSort fun x y => decide (x ≤ y)).toArray = Sort.ahead w n := by
   rw [List.mergeSort_singleton]
   exact Sort.putRow_self _ _ _ _ _ (Sort.holds_ahead _ _ _ _ _ _ hH)
  rw [h]
  exact Lib.below_grow _ _ (Nat.le_refl _) n os : Below w.heap.size w (Sort.grow (Sort.putRow (Value.int .i64) (Sort.ahead w n) blk 0 ([g].mergeSort fun x y => decide (x ≤ y)).toArray) os)))
 have Hc : ∀ w, Calls Tryz.prog 211 #[.slice (some ⟨blk, 0, none⟩) 1 cap] w fun e w' => e = .returned (.slice (some ⟨blk, 0, none⟩) 1 cap) ∧ w' = w := fun w => by
  go_enter Tryz.func211, Tryz.ntmps211
  go_wp2
  go_ret
  exact ⟨rfl, rfl⟩
 have HC := uh Hc
 clear Hc hH hc hf
 go_enter Tryz.func160, Tryz.ntmps160
 go_wp2_with fail
 refine Hs.out.mono ?_
 rintro e w1 ⟨rfl, n, os, hw⟩
 have hB := HB.out n os
 rw [← hw] at hB
 have HB1 := uh hB
 clear hB hw HB Hs
 go_wp2_with (first
  | (go_at_call 211; refine (HC.out _).mono ?_; rintro e w' ⟨rfl, hw⟩; rw [hw]; clear hw w')
  | fail)
 go_ret
 exact ⟨rfl, HB1.out⟩
theorem bprec (w : World) (sb a aw tb bb : Nat) {W B : List Nat} (bo : Option Addr) (bcap : Nat) (tao : Option Addr) (tcap : Nat) (L : List Ty) (cs : List Ce) (hA : SbAt w sb a aw tb bb W B bo bcap tao tcap L) (hI : SdIn L W B cs) (v vb : Nat) (hv : v < 18446744073709551616) (hc : w.cell? ⟨vb, 0, none⟩ = some (.int .u64 v)) :
  Calls Tryz.prog 79 #[.pointer (some ⟨sb, 0, none⟩), .slice (some ⟨vb, 0, none⟩) 1 1] w fun e w' => ∃ (ao : Option Addr) (n cap : Nat) (ec : Int), e = .returned (.tuple #[.slice ao n cap, .int .i64 ec]) ∧ (ec = 0 ∧ 0 < n ↔ lives cs v = true) ∧ Below w.heap.size w w' := by
 have Hf := uh (bfind w sb a aw tb bb bo bcap tao tcap L cs hA hI v hv)
 have Hl0 : Hid (v = 0 → ¬ lives cs v = true) := uh (fun h hl => by obtain ⟨c, -, h2⟩ := lives_iff.1 hl; omega)
 clear hA hI
 go_enter Tryz.func79, Tryz.ntmps79
 go_wp2_with fail
 go_loopw [4, 14] (fun v4 v14 wr => (v14 = .int .i64 0 ∧ v4 = .slice none 0 0 ∧ w = wr) ∨ (v14 = .int .i64 1 ∧ v4 = .slice none 0 0 ∧ ¬ lives cs v = true ∧ w = wr) ∨ (v14 = .int .i64 1 ∧ lives cs v = true ∧ ∃ gb cap g, v4 = .slice (some ⟨gb, 0, none⟩) 1 cap ∧ wr.cell? ⟨gb, 0, none⟩ = some (.int .i64 g) ∧ wr.frozen? ⟨gb, 0, none⟩ = false ∧ Below w.heap.size w wr)) (fun _ v14 _ => 1 - (intOf v14).toNat)
 case atStart => exact .inl ⟨rfl, rfl, rfl⟩
 case round =>
  rcases hrel with ⟨rfl, rfl, rfl⟩ | ⟨rfl, rfl, hl, rfl⟩ | ⟨rfl, hl, gb, cap, g, rfl, hcg, hfg, hBw⟩
  · by_cases h0 : v = 0
    · have h0z : ((v : Nat) : Int) = 0 := by omega
      have HL := uh (Hl0.out h0)
      clear h0 Hl0
      go_wp2_with fail
      go_roundw
      case rel => exact .inr (.inl ⟨rfl, rfl, HL.out, by first | rfl | trivial⟩)
      case measure => simp [intOf]
    · have h0z : ¬ ((v : Nat) : Int) = 0 := by omega
      clear Hl0
      go_wp2_with fail
      refine Hf.out.mono ?_
      rintro e w2 ⟨r, g, rfl, hr1, hr2, hg6, hB⟩
      have HB := uh hB
      have HR2 := uh hr2
      have HR1 := uh hr1
      have Had := uh (fun w => saddr w g hg6)
      clear hB hr1 hr2 Hf
      cases r with
      | false =>
       have HL : Hid (¬ lives cs v = true) := uh (fun hl => by
        obtain ⟨c, hc, h2⟩ := lives_iff.1 hl
        have := (HR1.out c hc h2).1
        cases this)
       go_wp2_with fail
       refine bodyPost_ret (results_tmp2 rfl _ _ _) rfl ?_
       exact ⟨none, 0, 0, 8, rfl, ⟨fun h => by omega, fun h => (HL.out h).elim⟩, HB.out⟩
      | true =>
       by_cases hg : 1048576 + 2 * g = v
       · have hgz : ((1048576 + 2 * g : Nat) : Int) = ((v : Nat) : Int) := by omega
         have HL : Hid (lives cs v = true) := uh (lives_iff.2 (by obtain ⟨c, hc, h2⟩ := HR2.out rfl; exact ⟨c, hc, by omega⟩))
         have T2 := ((Turn.refl (Has.nil w)).call HB.out).alloc (.cells #[.int .i64 g] 3)
         have HT2 := uh T2
         clear T2
         go_wp2_with (first
          | (go_at_call 51; refine (Had.out _).mono ?_; rintro e w' ⟨rfl, hw⟩; rw [hw]; clear hw w'; rw [hgz])
          | (at_builtin; refine wpList_append_row rfl _ _ rfl el_int rfl (Row.nil _ _) (R := [(w2.heap.size, .cells #[.int .i64 g] 3)]) HT2.out.has rfl (news := [.int .i64 g]) rfl (news_of (heap_alloc_new _ _)) (by simp [Value.oneCell']) (by unfold maxLen; omega) (by omega) ?_; intro a9 p9 l9 w6 hr9 V9 hno; have HV9 := uh (HT2.out.trans V9); have Hr9 := uh hr9; clear V9 hno hr9)
          | fail)
         go_roundw
         case rel =>
          obtain ⟨gb, cur, rfl, rfl, hsz, htk⟩ := Hr9.out.some_of (by omega)
          refine .inr (.inr ⟨rfl, HL.out, gb, p9, (g : Int), rfl, ?_, HV9.out.free1 0, HV9.out.below⟩)
          rw [HV9.out.cell1 0, take_get htk 0 (by omega)]
          rfl
         case measure => simp [intOf]
       · have hgz : ¬ ((1048576 + 2 * g : Nat) : Int) = ((v : Nat) : Int) := by omega
         have HL : Hid (¬ lives cs v = true) := uh (fun hl => by
          obtain ⟨c, hc, h2⟩ := lives_iff.1 hl
          have := (HR1.out c hc h2).2
          omega)
         clear hg
         go_wp2_with (first
          | (go_at_call 51; refine (Had.out _).mono ?_; rintro e w' ⟨rfl, hw⟩; rw [hw]; clear hw w')
          | fail)
         refine bodyPost_ret (results_tmp2 rfl _ _ _) rfl ?_
         exact ⟨none, 0, 0, 8, rfl, ⟨fun h => by omega, fun h => (HL.out h).elim⟩, HB.out⟩
  · have HL := uh hl
    clear hl Hf Hl0
    go_wp2_with (first
     | (go_at_call 160; refine (rise_nil _).mono ?_; rintro e w' ⟨rfl, hw⟩; rw [hw]; clear hw w')
     | fail)
    refine bodyPost_ret (results_tmp2 rfl _ _ _) rfl ?_
    exact ⟨none, 0, 0, 0, rfl, ⟨fun h => by omega, fun h => (HL.out h).elim⟩, Below.refl _ _⟩
  · have Hr := uh (rise_one _ gb cap g hcg hfg)
    have HL := uh hl
    have HBw := uh hBw
    clear hl hBw hcg hfg Hf Hl0
    go_wp2_with fail
    refine Hr.out.mono ?_
    rintro e w3 ⟨rfl, hB3⟩
    have HB3 := uh (HBw.out.trans (hB3.mono HBw.out.size))
    clear hB3
    go_wp2_with fail
    refine bodyPost_ret (results_tmp2 rfl _ _ _) rfl ?_
    exact ⟨some ⟨gb, 0, none⟩, 1, cap, 0, rfl, ⟨fun _ => HL.out, fun _ => ⟨rfl, by omega⟩⟩, HB3.out⟩
end
section
open Go Go.RowKit
theorem fm_get {α : Type} {f : α → List Value} {sz : Nat} (hf : ∀ a, (f a).length = sz) (S : List α) (i j : Nat) (hj : j < sz) : (S.flatMap f)[i * sz + j]? = S[i]?.bind fun a => (f a)[j]? := by
 induction S generalizing i with
 | nil => simp
 | cons a S ih =>
  rw [List.flatMap_cons]
  cases i with
  | zero =>
   rw [Nat.zero_mul, Nat.zero_add, List.getElem?_append_left (by rw [hf]; exact hj)]
   rfl
  | succ i =>
   have e : (i + 1) * sz + j = sz + (i * sz + j) := by rw [Nat.add_mul]; omega
   rw [e, List.getElem?_append_right (by rw [hf]; omega), hf, Nat.add_sub_cancel_left, ih]
   rfl
theorem fm_len {α : Type} {f : α → List Value} {sz : Nat} (hf : ∀ a, (f a).length = sz) (S : List α) : (S.flatMap f).length = S.length * sz := by
 induction S with
 | nil => simp
 | cons a S ih => rw [List.flatMap_cons, List.length_append, hf, ih, List.length_cons, Nat.add_mul]; omega
theorem Src.fm {α : Type} {f : α → List Value} {sz : Nat} (hf : ∀ a, (f a).length = sz) {S : List α} {w : World} {b off n cap : Nat} (h : Src w (some ⟨b, off, none⟩) n cap sz (S.flatMap f)) {i : Nat} {x : α} (hi : S[i]? = some x) : w.rangeAt b (off + i * sz) (f x) := by
 intro j v hv
 have hj : j < sz := by rw [← hf x]; exact (List.getElem?_eq_some_iff.1 hv).1
 have h1 := h.at_ _ rfl (i * sz + j) v (by rw [fm_get hf S i j hj, hi]; exact hv)
 rw [add_lit] at h1
 rw [Nat.add_assoc]
 exact h1
abbrev Br := Nat × Nat × Nat × Nat × Nat
def brCells (x : Br) : List Value := [.int .u8 x.1, .int .i64 x.2.1, .int .i64 x.2.2.1, .int .u64 x.2.2.2.1, .int .i64 x.2.2.2.2]
def brs (l : List Br) : List Value := l.flatMap brCells
theorem brs_append (a b : List Br) : brs (a ++ b) = brs a ++ brs b := by simp [brs]
theorem brs_length (l : List Br) : (brs l).length = l.length * 5 := fm_len (sz := 5) (fun _ => rfl) l
theorem brs_one (l : List Br) : ∀ v ∈ brs l, v.oneCell' = true := fun v hv => by
 obtain ⟨x, -, h⟩ := List.mem_flatMap.1 hv
 simp only [brCells, List.mem_cons, List.not_mem_nil, or_false] at h
 rcases h with rfl | rfl | rfl | rfl | rfl <;> rfl
theorem el_breach : Elem Tryz.prog 56 60 5 40 (.agg #[.int .u8 0, .int .i64 0, .int .i64 0, .int .u64 0, .int .i64 0]) := Elem.of Tryz.underlying56 (by kernel_rfl) rfl
theorem sz_breach : (Tryz.prog.info? 60).map (·.size) = some 5 := by kernel_rfl
theorem sz_fault : (Tryz.prog.info? 279).map (·.size) = some 3 := by kernel_rfl
def refBr (x : Ed) : Br := (2, x.1, x.2.1, 0, 8)
theorem take_map_next {α β : Type} {f : α → β} {l : List α} {i : Nat} {x : α} (h : l[i]? = some x) : (l.take (i + 1)).map f = (l.take i).map f ++ [f x] := by
 rw [List.take_add_one, h]
 simp
theorem bads_len {L : List Ty} {W B : List Nat} {cs : List Ce} (h : SdIn L W B cs) : (badsOf L W cs).length ≤ 2147483648 := by
 have h5 := h.chain.len
 have hf := h.few
 have h6 : (objs cs).length ≤ cs.length := by unfold objs; exact List.length_filter_le ..
 have h7 := eds_len (L := L) (W := W) (A := ats cs) (os := objs cs) (fun c hc => by
  have hi := obIn_of h.chain h.few h.ty hc
  have h1 := refsTo_len (tyAt L c.2.typ) ((tyAt L c.2.typ).slots c.2.len)
  have h2 : (tyAt L c.2.typ).refs c.2.len = refsTo (tyAt L c.2.typ) ((tyAt L c.2.typ).slots c.2.len) := rfl
  obtain ⟨hm9, -, hn9, -⟩ := err_ok.1 hi.err
  have := slots_most hm9 (n := c.2.len) (by omega)
  rw [h2]
  omega)
 have h8 := filter_bad_le (eds L W (ats cs) (objs cs))
 unfold badsOf
 omega
end
section
open Go Go.RowKit Go.IntWalk
theorem acells (w : World) (sb a aw tb bb : Nat) {W B : List Nat} (bo : Option Addr) (bcap : Nat) (tao : Option Addr) (tcap : Nat) (L : List Ty) (cs : List Ce) (hA : SbAt w sb a aw tb bb W B bo bcap tao tcap L) (hI : SdIn L W B cs) :
  Calls Tryz.prog 75 #[.pointer (some ⟨sb, 0, none⟩)] w fun e w' => ∃ ao cap l, e = .returned (.tuple #[.slice ao (badsOf L W cs).length cap, .int .i64 0]) ∧ Row 60 5 ao (badsOf L W cs).length cap (brs ((badsOf L W cs).map refBr)) l ∧ Turn [] w l w' := by
 have hbl := bads_len hI
 have Har := uh (fun w' (hk : Below w.heap.size w w') => sarena w' (a := ⟨a, 0, none⟩) rfl (hA.below hk).sp.c0)
 have Hta := uh (fun w' (hk : Below w.heap.size w w') => stable w' (a := ⟨tb, 0, none⟩) rfl (hA.below hk).sp.c1)
 have Hst := uh (sstarts w sb bb (W.length / 2) B bo bcap hA.c2 hA.bits (by rw [hI.bl]; have := hI.few; omega))
 have Hck := uh (fun w' (hk : Below w.heap.size w w') b2 bo2 cap2 (hb : BitAt w' b2 B (W.length / 2) bo2 cap2) => wcheck w' a aw tb b2 tao tcap L ⟨(hA.below hk).sp.ar, (hA.below hk).sp.tab, (hA.below hk).sp.fields⟩ hI.few hI.u64 hI.ty hI.lt cs hI.chain B bo2 cap2 hb hI.bu hI.bl hI.bits)
 obtain ⟨E, hE⟩ : ∃ E, badsOf L W cs = E := ⟨_, rfl⟩
 rw [hE] at Hck hbl ⊢
 have hszF := sz_fault
 have hszB := sz_breach
 clear hA hI hE
 go_enter Tryz.func75, Tryz.ntmps75
 have hB0 := Below.refl w.heap.size w
 go_wp2_with (first
  | (go_at_call 44; refine (Har.out _ hB0).mono ?_; rintro e w' ⟨rfl, hw⟩; rw [hw]; clear hw w')
  | (go_at_call 101; refine (Hta.out _ hB0).mono ?_; rintro e w' ⟨rfl, hw⟩; rw [hw]; clear hw w')
  | fail)
 refine Hst.out.mono ?_
 rintro e w1 ⟨b2, l2, rfl, hI2, T1⟩
 obtain ⟨bo2, cap2, hb2⟩ := hI2.at_ (R := []) (by rw [List.append_nil]; exact T1.has)
 have Hc := uh (Hck.out w1 T1.below b2 bo2 cap2 hb2)
 have HB1 := uh T1.below
 clear hb2 hI2 T1 Hst Hck Har Hta hB0
 go_wp2_with fail
 refine Hc.out.mono ?_
 rintro e w2 ⟨ao, cap, lf, rfl, hrow, T2⟩
 have HT2 : Hid (Turn [] w lf w2) := uh ((Turn.of_below (Has.nil w) HB1.out).grow T2 |> fun h => by rwa [List.append_nil] at h)
 have Hrow := uh hrow
 clear T2 hrow HB1 Hc
 go_wp2_with fail
 go_loopw [2, 20] (fun v2 v20 wr => ∃ (i : Nat) (a2 : Option Addr) (p2 : Nat) (lr : List Blk), i ≤ E.length ∧ v20 = .int .i64 i ∧ v2 = .slice a2 i p2 ∧ Row 60 5 a2 i p2 (brs ((E.take i).map refBr)) lr ∧ Turn [] w (lr ++ lf) wr) (fun _ v20 _ => E.length - (intOf v20).toNat)
 case atStart => exact ⟨0, none, 0, [], Nat.zero_le _, by go_num, rfl, Row.nil _ _, HT2.out⟩
 case round =>
  clear HT2
  obtain ⟨i, a2, p2, lr, hi, rfl, rfl, hr2, V⟩ := hrel
  by_cases hlt : i < E.length
  · have hlt' : (i : Int) < (E.length : Int) := by omega
    obtain ⟨x, hx⟩ : ∃ x, E[i]? = some x := ⟨E[i], List.getElem?_eq_getElem hlt⟩
    have hS := Hrow.out.src (V.has.perm (l' := lf ++ lr) po)
    obtain ⟨b, off, rfl, -⟩ := hS.form (by rw [show fts E = E.flatMap ftCells from rfl, fm_len (sz := 3) (fun _ => rfl)]; omega)
    have hrg : wr.rangeAt b (off + i * 3) [.int .i64 x.1, .int .i64 x.2.1, .int .i64 8] := Src.fm (f := ftCells) (fun _ => rfl) hS hx
    have hsn := take_map_next (f := refBr) hx
    have HSn := uh hsn
    have T3 := V.alloc (.cells #[.int .i64 0, .int .i64 0, .int .i64 0] 279)
    have hth : (wr.alloc (.cells #[.int .i64 0, .int .i64 0, .int .i64 0] 279)).there wr.heap.size 0 3 := T3.there1
    have HT3 := uh (T3.laid [.int .i64 x.1, .int .i64 x.2.1, .int .i64 8] rfl)
    have hoF : (#[.int .i64 x.1, .int .i64 x.2.1, .int .i64 8] : Array Value).all (·.oneCell') = true := all_one (cs := [.int .i64 x.1, .int .i64 x.2.1, .int .i64 8]) (by simp [Value.oneCell'])
    have hoB1 : (#[.int .u8 1, .int .i64 x.1, .int .i64 x.2.1, .int .u64 0, .int .i64 8] : Array Value).all (·.oneCell') = true := all_one (cs := [.int .u8 1, .int .i64 x.1, .int .i64 x.2.1, .int .u64 0, .int .i64 8]) (by simp [Value.oneCell'])
    have Hr2 := uh hr2
    have h63 : i + 1 ≤ maxLen := by unfold maxLen; omega
    have hby : (i + 1) * 40 ≤ 140737488355328 := by omega
    clear T3 V hx hr2 hS hsn
    go_wp2_with (first
     | (show lW 279; refine wpList_load_mid rfl 279 _ rfl b (off + i * 3) rfl [.int .i64 x.1, .int .i64 x.2.1, .int .i64 8] _ hrg Tryz.underlying279 rfl hszF ?_; clear hrg)
     | (show sW 279; refine wpList_store_mid rfl 279 _ _ rfl wr.heap.size 0 #[.int .i64 x.1, .int .i64 x.2.1, .int .i64 8] rfl rfl hth hszF hoF ?_; clear hth; generalize (wr.alloc (.cells #[.int .i64 0, .int .i64 0, .int .i64 0] 279)).setCells wr.heap.size 0 [.int .i64 x.1, .int .i64 x.2.1, .int .i64 8] = w3 at *; generalize wr.heap.size = nb at *; have q0 := HT3.out.cell1 0; have q1 := HT3.out.cell1 1; have q2 := HT3.out.cell1 2; have T5 := HT3.out.alloc (.cells #[.int .u8 0, .int .i64 0, .int .i64 0, .int .u64 0, .int .i64 0] 60); have hth5 : (w3.alloc (.cells #[.int .u8 0, .int .i64 0, .int .i64 0, .int .u64 0, .int .i64 0] 60)).there w3.heap.size 0 5 := T5.there1; have HT5 := uh (T5.laid [.int .u8 1, .int .i64 x.1, .int .i64 x.2.1, .int .u64 0, .int .i64 8] rfl); clear T5)
     | (show sW 60; refine wpList_store_mid rfl 60 _ _ rfl w3.heap.size 0 #[.int .u8 1, .int .i64 x.1, .int .i64 x.2.1, .int .u64 0, .int .i64 8] rfl rfl hth5 hszB hoB1 ?_; clear hth5 q0 q1 q2; generalize (w3.alloc (.cells #[.int .u8 0, .int .i64 0, .int .i64 0, .int .u64 0, .int .i64 0] 60)).setCells w3.heap.size 0 [.int .u8 1, .int .i64 x.1, .int .i64 x.2.1, .int .u64 0, .int .i64 8] = w5 at *; generalize w3.heap.size = nd at *; have q2 := HT5.out.cell2 2; have f0 := HT5.out.free1 0; have r0 := HT5.out.cell1 0; have HT7 := uh (HT5.out.setCell 0 (.int .u8 2)))
     | (show lW 60; generalize w5.setCell ⟨nd, 0, none⟩ (.int .u8 2) = w7 at *; have hrb : w7.rangeAt nd 0 [.int .u8 2, .int .i64 x.1, .int .i64 x.2.1, .int .u64 0, .int .i64 8] := HT7.out.range1; refine wpList_load_mid rfl 60 _ rfl nd 0 rfl [.int .u8 2, .int .i64 x.1, .int .i64 x.2.1, .int .u64 0, .int .i64 8] _ hrb Tryz.underlying60 rfl hszB ?_; clear hrb f0 r0 q2)
     | (at_builtin; have T6 := uh (HT7.out.alloc (.cells #[.int .u8 2, .int .i64 x.1, .int .i64 x.2.1, .int .u64 0, .int .i64 8] 60)); refine wpList_append_row rfl _ _ rfl el_breach rfl Hr2.out (R := (w7.heap.size, .cells #[.int .u8 2, .int .i64 x.1, .int .i64 x.2.1, .int .u64 0, .int .i64 8] 60) :: (nd, .cells #[.int .u8 2, .int .i64 x.1, .int .i64 x.2.1, .int .u64 0, .int .i64 8] 60) :: (nb, .cells #[.int .i64 x.1, .int .i64 x.2.1, .int .i64 8] 279) :: lf) (T6.out.perm po).has rfl (news := [.int .u8 2, .int .i64 x.1, .int .i64 x.2.1, .int .u64 0, .int .i64 8]) rfl (news_of (heap_alloc_new _ _)) (by simp [Value.oneCell']) h63 hby ?_; intro a9 p9 l9 w8 hr9 V9 hno; have HV9 := uh (((T6.out.perm po).trans V9).perm (l2 := [(w7.heap.size, .cells #[.int .u8 2, .int .i64 x.1, .int .i64 x.2.1, .int .u64 0, .int .i64 8] 60), (nd, .cells #[.int .u8 2, .int .i64 x.1, .int .i64 x.2.1, .int .u64 0, .int .i64 8] 60), (nb, .cells #[.int .i64 x.1, .int .i64 x.2.1, .int .i64 8] 279)] ++ (l9 ++ lf)) po); have Hr9 := uh hr9; clear V9 hr9 hno)
     | fail)
    go_roundw
    case rel =>
     refine ⟨i + 1, a9, p9, l9, by omega, by go_num, rfl, ?_, HV9.out.drop⟩
     rw [HSn.out, brs_append]
     exact Hr9.out
    case measure => simp [intOf]; omega
  · obtain rfl : i = E.length := by omega
    have hnl : ¬ ((E.length : Nat) : Int) < (E.length : Int) := by omega
    rw [List.take_length] at hr2
    have Hr2 := uh hr2
    have HV := uh V
    clear hr2 V
    go_wp2_with fail
    refine bodyPost_ret (results_tmp2 rfl _ _ _) rfl ?_
    exact ⟨a2, p2, rfl, lr, Hr2.out, HV.out.sub (List.sublist_append_left lr lf)⟩
abbrev ceVal (x : Ce) : Value := .agg #[.int .i64 x.1, .int .u8 x.2.tag, .int .i64 x.2.typ, .int .i64 x.2.len, .int .i64 x.2.size]
def frst (cs : List Ce) : Nat := cs.findIdx fun c => !isObj c
theorem run_clear_agg {P : Program} (w : World) (t e ty : TypeId) (z : Value) (ht : P.underlying t = some (.slice e)) (hv : ∀ w, (zeroValue e).run P w = .ok z w) (h1 : ∀ u ∈ z.cells, u.oneCell' = true) (b o n c : Nat) (hn : 0 < n)
  (hth : w.there b o (n * z.cells.size)) :
  ∃ vs : List Value, vs.length = n * z.cells.size ∧ (Builtin.clear_ #[t] ty #[.slice (some ⟨b, o, none⟩) n c]).run P w = .ok (.tuple #[]) (w.setCells b o vs) := by
 refine ⟨(Builtin.zeroCells z.cells n).toList, ?_, ?_⟩
 · simp [Builtin.zeroCells]
 · have hl : (Builtin.zeroCells z.cells n).toList.length = n * z.cells.size := by simp [Builtin.zeroCells]
   have hst := run_storeCells_cells (P := P) b o (Builtin.zeroCells z.cells n).toList 0 w (fun j hj => by rw [Nat.add_zero]; exact (hth j (by omega)).1) (fun j hj => by rw [Nat.add_zero]; exact (hth j (by omega)).2) (by
    intro v hv'
    simp only [Builtin.zeroCells] at hv'
    rw [Array.mem_toList_iff, Array.mem_map] at hv'
    obtain ⟨i, hi, rfl⟩ := hv'
    rw [Array.mem_range] at hi
    have hp : 0 < z.cells.size := by
     apply Nat.pos_of_ne_zero
     intro h0
     rw [h0] at hi
     omega
    have hm : i % z.cells.size < z.cells.size := Nat.mod_lt _ hp
    rw [getElem!_pos z.cells _ hm]
    exact h1 _ (Array.getElem_mem hm))
   simp only [Nat.add_zero] at hst
   obtain ⟨m, rfl⟩ : ∃ m, n = m + 1 := ⟨n - 1, by omega⟩
   simp [Builtin.clear_, run_underlying ht, hv, hst]
structure DelIn (cs : List Ce) (cur : Array Value) (i j : Nat) : Prop where
 low : ∀ k, k < i * 5 → cur[k]? = (ces (objs (cs.take j)))[k]?
 high : ∀ k, j * 5 ≤ k → k < cs.length * 5 → cur[k]? = (ces cs)[k]?
 cnt : i = (objs (cs.take j)).length
def u8s (l : List Nat) : List Value := l.map fun n => .int .u8 (n : Nat)
theorem u8s_length (l : List Nat) : (u8s l).length = l.length := by simp [u8s]
theorem u8s_at {l : List Nat} {i v : Nat} (h : l[i]? = some v) : (u8s l)[i]? = some (.int .u8 v) := by unfold u8s; rw [List.getElem?_map, h]; rfl
theorem el_u8 : Elem Tryz.prog 95 5 1 1 (.int .u8 0) := Elem.of Tryz.underlying95 (by kernel_rfl) rfl
def idx8 (l : List Nat) (x : Nat) : Nat := l.findIdx fun y => x == y
theorem idx8_lt {l : List Nat} {x i v : Nat} (hi : i < idx8 l x) (hv : l[i]? = some v) : (x == v) = false := by
 obtain ⟨hlt, rfl⟩ := List.getElem?_eq_some_iff.1 hv
 have := List.not_of_lt_findIdx hi
 simpa using this
theorem idx8_at {l : List Nat} {x v : Nat} (hv : l[idx8 l x]? = some v) : (x == v) = true := by
 obtain ⟨hlt, rfl⟩ := List.getElem?_eq_some_iff.1 hv
 exact List.findIdx_getElem (w := hlt) (p := fun y => x == y) (xs := l)
theorem idx8_le (l : List Nat) (x : Nat) : idx8 l x ≤ l.length := List.findIdx_le_length
theorem idx8_mem (l : List Nat) (x : Nat) : idx8 l x < l.length ↔ x ∈ l := by
 unfold idx8
 rw [List.findIdx_lt_length]
 constructor
 · rintro ⟨y, hy, he⟩
   rw [beq_iff_eq] at he
   rw [he]; exact hy
 · intro h
   exact ⟨x, h, by simp⟩
theorem index8 (w : World) (l : List Nat) (ao : Option Addr) (cap : Nat) (hS : Src w ao l.length cap 1 (u8s l)) (hl : l.length ≤ 65536) (x : Nat) :
  Calls Tryz.prog 158 #[.slice ao l.length cap, .int .u8 x] w fun e w' => e = .returned (.int .i64 (if idx8 l x < l.length then (idx8 l x : Int) else -1)) ∧ w' = w := by
 have HF := uh (fun (h : 0 < l.length) => hS.form (by rw [u8s_length]; exact h))
 have Hlt := uh (fun i v (hi : i < idx8 l x) (hv : l[i]? = some v) => idx8_lt hi hv)
 have Hat := uh (fun v (hv : l[idx8 l x]? = some v) => idx8_at hv)
 have hle := idx8_le l x
 generalize idx8 l x = f at *
 clear hS
 go_enter Tryz.func158, Tryz.ntmps158
 go_wp2_with fail
 go_loopw [8] (fun v8 wr => ∃ i : Nat, i ≤ f ∧ v8 = .int .i64 i ∧ wr = w) (fun v8 _ => l.length - (intOf v8).toNat)
 case atStart => exact ⟨0, Nat.zero_le _, by go_num, rfl⟩
 case round =>
  obtain ⟨i, hi, rfl, rfl⟩ := hrel
  by_cases hlt : i < l.length
  · have hlt' : (i : Int) < (l.length : Int) := by omega
    obtain ⟨v, hv⟩ : ∃ v, l[i]? = some v := ⟨l[i], List.getElem?_eq_getElem hlt⟩
    obtain ⟨b, off, rfl, hc⟩ := HF.out (by omega)
    have q := hc i _ (u8s_at hv)
    by_cases hif : i < f
    · have ho := Hlt.out i v hif hv
      have ho2 : ((x : Int) == (v : Int)) = false := by rw [beq_eq_false_iff_ne] at ho ⊢; omega
      clear hv hc
      go_wp2_with fail
      go_roundw
      case rel => exact ⟨i + 1, by omega, by go_num, trivial⟩
      case measure => simp [intOf]; omega
    · obtain rfl : i = f := by omega
      have ho := Hat.out v hv
      have ho2 : ((x : Int) == (v : Int)) = true := by rw [beq_iff_eq] at ho ⊢; omega
      have HR := uh (show (if i < l.length then (i : Int) else -1) = (i : Int) from if_pos hlt)
      clear hv hc
      go_wp2_with fail
      go_ret
      exact ⟨by first | rfl | rw [HR.out], rfl⟩
  · obtain rfl : i = l.length := by omega
    obtain rfl : f = l.length := by omega
    have HR := uh (show (if l.length < l.length then (l.length : Int) else -1) = -1 from if_neg (by omega))
    have hnl : ¬ ((l.length : Nat) : Int) < (l.length : Int) := by omega
    go_wp2_with fail
    go_ret
    exact ⟨by first | rfl | rw [HR.out], rfl⟩
theorem contains8 (w : World) (l : List Nat) (ao : Option Addr) (cap : Nat) (hS : Src w ao l.length cap 1 (u8s l)) (hl : l.length ≤ 65536) (x : Nat) :
  Calls Tryz.prog 76 #[.slice ao l.length cap, .int .u8 x] w fun e w' => e = .returned (.bool (decide (x ∈ l))) ∧ w' = w := by
 have HI := uh (index8 w l ao cap hS hl x)
 have hm := idx8_mem l x
 by_cases h : x ∈ l
 · rw [if_pos (hm.2 h)] at HI
   have HD := uh (decide_eq_true h)
   clear hm h hS
   generalize idx8 l x = f at *
   go_enter Tryz.func76, Tryz.ntmps76
   go_wp2_with fail
   refine HI.out.mono ?_
   rintro e w2 ⟨rfl, hw⟩
   subst hw
   have hf : (0 : Int) ≤ (f : Int) := by omega
   go_wp2_with fail
   go_ret
   exact ⟨by rw [HD.out]; rfl, rfl⟩
 · rw [if_neg (fun h' => h (hm.1 h'))] at HI
   have HD := uh (decide_eq_false h)
   clear hm h hS
   go_enter Tryz.func76, Tryz.ntmps76
   go_wp2_with fail
   refine HI.out.mono ?_
   rintro e w2 ⟨rfl, hw⟩
   subst hw
   go_wp2_with fail
   go_ret
   exact ⟨by rw [HD.out]; rfl, rfl⟩
def padTo (l : List Nat) (k : Nat) : List Nat := l ++ List.replicate (k - l.length) 0
def runs (cs : List Ce) : List Value := cs.flatMap fun c => [.int .i64 c.1, .int .i64 c.2.size]
theorem noTouch_at : ∀ {cs : List Ce}, noTouch cs → ∀ {i : Nat} {c d : Ce}, cs[i]? = some c → cs[i + 1]? = some d → c.2.tag = 1 ∨ d.2.tag = 1
 | [], _, _, _, _, h, _ => by cases h
 | [_], _, i, _, _, _, h => by simp at h
 | a :: b :: cs, h, 0, c, d, h1, h2 => by
  have e1 : a = c := by simpa using h1
  have e2 : b = d := by simpa using h2
  rw [← e1, ← e2]
  exact h.1
 | a :: b :: cs, h, i + 1, c, d, h1, h2 => noTouch_at h.2 (i := i) (by simpa using h1) (by simpa using h2)
def tagBefore (cs : List Ce) (i : Nat) : Nat := match i with | 0 => 0 | i + 1 => match cs[i]? with | some c => c.2.tag | none => 0
theorem tagBefore_next {cs : List Ce} {i : Nat} {c : Ce} (h : cs[i]? = some c) : tagBefore cs (i + 1) = c.2.tag := by simp [tagBefore, h]
theorem tagBefore_no {cs : List Ce} (h : noTouch cs) {i : Nat} {c : Ce} (hc : cs[i]? = some c) : ¬ (c.2.tag = 3 ∧ tagBefore cs i = 3) := by
 rintro ⟨h1, h2⟩
 cases i with
 | zero => simp [tagBefore] at h2
 | succ i =>
  unfold tagBefore at h2
  simp only at h2
  split at h2
  · rename_i d hd
    rcases noTouch_at h hd hc with h3 | h3 <;> omega
  · omega
theorem agaps (w : World) (sb a aw tb : Nat) {W : List Nat} (tao : Option Addr) (tcap : Nat) (L : List Ty) (hA : SpAt w sb a aw tb W tao tcap L) (hf : W.length ≤ 65536) (hu : ∀ v ∈ W, v < 18446744073709551616) (hTy : ∀ t ∈ L, TyIn t) (hL : L.length ≤ 1000)
  (cs : List Ce) (hC : Chain L W 0 cs (W.length / 2)) (hN : noTouch cs) :
  Calls Tryz.prog 77 #[.pointer (some ⟨sb, 0, none⟩)] w fun e w' => e = .returned (.slice none 0 0) ∧ Below w.heap.size w w' := by
 have HC := uh (scells_all w sb a aw tb tao tcap L hA hf hu hTy hL cs hC)
 have hlen := hC.len
 have hl : cs.length ≤ 32768 := by omega
 have Htg := uh (fun i c (h : cs[i]? = some c) => tagBefore_next h)
 have Hno := uh (fun i c (h : cs[i]? = some c) => tagBefore_no hN h)
 have hsz := sz_cell
 clear hA hC hu hTy hlen hN
 go_enter Tryz.func77, Tryz.ntmps77
 go_wp2_with fail
 refine HC.out.mono ?_
 rintro e w2 ⟨a8, p8, l8, rfl, hrow, T2⟩
 have HT2 := uh T2
 have Hrow := uh hrow
 clear hrow T2 HC
 go_wp2_with fail
 go_loopw [2, 3, 9] (fun v2 v3 v9 wr => ∃ (i : Nat) (l : List Blk), i ≤ cs.length ∧ v9 = .int .i64 i ∧ v2 = .slice none 0 0 ∧ v3 = .int .u8 (tagBefore cs i : Nat) ∧ Turn [] w (l ++ l8) wr) (fun _ _ v9 _ => cs.length - (intOf v9).toNat)
 case atStart => exact ⟨0, [], Nat.zero_le _, by go_num, rfl, rfl, HT2.out⟩
 case round =>
  clear HT2
  obtain ⟨i, l, hi, rfl, rfl, rfl, V⟩ := hrel
  by_cases hlt : i < cs.length
  · have hlt' : (i : Int) < (cs.length : Int) := by omega
    obtain ⟨c, hc⟩ : ∃ c, cs[i]? = some c := ⟨cs[i], List.getElem?_eq_getElem hlt⟩
    have hS8 := Hrow.out.src (V.has.perm (l' := l8 ++ l) po)
    obtain ⟨b, off, rfl, -⟩ := hS8.form (by rw [ces_length]; omega)
    have hrg : wr.rangeAt b (off + i * 5) [.int .i64 c.1, .int .u8 c.2.tag, .int .i64 c.2.typ, .int .i64 c.2.len, .int .i64 c.2.size] := hS8.ce hc
    have hno := Hno.out i c hc
    have HTg := uh (Htg.out i c hc)
    have T3 := V.alloc (.cells #[.int .i64 0, .int .u8 0, .int .i64 0, .int .i64 0, .int .i64 0] 81)
    have hth : (wr.alloc (.cells #[.int .i64 0, .int .u8 0, .int .i64 0, .int .i64 0, .int .i64 0] 81)).there wr.heap.size 0 5 := T3.there1
    have HT3 := uh (T3.laid [.int .i64 c.1, .int .u8 c.2.tag, .int .i64 c.2.typ, .int .i64 c.2.len, .int .i64 c.2.size] rfl)
    have hoC := ce_one c
    clear T3 V hc hS8
    generalize tagBefore cs i = tg at *
    by_cases h3 : c.2.tag = 3
    · have hw3 : (((tg : Nat) : Int) == 3) = false := by
        have : tg ≠ 3 := fun h => hno ⟨h3, h⟩
        simp; omega
      have h3z : (((c.2.tag : Nat) : Int) == 3) = true := by simp [h3]
      clear hno h3
      go_wp2_with (first
       | (show lW 81; refine wpList_load_mid rfl 81 _ rfl b (off + i * 5) rfl [.int .i64 c.1, .int .u8 c.2.tag, .int .i64 c.2.typ, .int .i64 c.2.len, .int .i64 c.2.size] _ hrg Tryz.underlying81 rfl hsz ?_; clear hrg)
       | (show sW 81; refine wpList_store_mid rfl 81 _ _ rfl wr.heap.size 0 #[.int .i64 c.1, .int .u8 c.2.tag, .int .i64 c.2.typ, .int .i64 c.2.len, .int .i64 c.2.size] rfl rfl hth hsz hoC ?_; clear hth; generalize (wr.alloc (.cells #[.int .i64 0, .int .u8 0, .int .i64 0, .int .i64 0, .int .i64 0] 81)).setCells wr.heap.size 0 [.int .i64 c.1, .int .u8 c.2.tag, .int .i64 c.2.typ, .int .i64 c.2.len, .int .i64 c.2.size] = w3 at *; generalize wr.heap.size = nb at *; have q1 := HT3.out.cell1 1)
       | fail)
      go_roundw
      case rel => exact ⟨i + 1, _ :: l, by omega, by go_num, rfl, by rw [HTg.out], HT3.out⟩
      case measure => simp [intOf]; omega
    · have h3z : (((c.2.tag : Nat) : Int) == 3) = false := by simp; omega
      clear hno h3
      go_wp2_with (first
       | (show lW 81; refine wpList_load_mid rfl 81 _ rfl b (off + i * 5) rfl [.int .i64 c.1, .int .u8 c.2.tag, .int .i64 c.2.typ, .int .i64 c.2.len, .int .i64 c.2.size] _ hrg Tryz.underlying81 rfl hsz ?_; clear hrg)
       | (show sW 81; refine wpList_store_mid rfl 81 _ _ rfl wr.heap.size 0 #[.int .i64 c.1, .int .u8 c.2.tag, .int .i64 c.2.typ, .int .i64 c.2.len, .int .i64 c.2.size] rfl rfl hth hsz hoC ?_; clear hth; generalize (wr.alloc (.cells #[.int .i64 0, .int .u8 0, .int .i64 0, .int .i64 0, .int .i64 0] 81)).setCells wr.heap.size 0 [.int .i64 c.1, .int .u8 c.2.tag, .int .i64 c.2.typ, .int .i64 c.2.len, .int .i64 c.2.size] = w3 at *; generalize wr.heap.size = nb at *; have q1 := HT3.out.cell1 1)
       | fail)
      go_roundw
      case rel => exact ⟨i + 1, _ :: l, by omega, by go_num, rfl, by rw [HTg.out], HT3.out⟩
      case measure => simp [intOf]; omega
  · obtain rfl : i = cs.length := by omega
    have hnl : ¬ ((cs.length : Nat) : Int) < (cs.length : Int) := by omega
    have HV := uh V
    clear V
    go_wp2_with fail
    go_ret
    exact ⟨rfl, HV.out.below⟩
end
section
open Go Go.RowKit Go.Sort
def Lay (q : IntKind) (c : Array Value) (off : Nat) (d : Array Int) : Prop := ∀ j, j < d.size → c[off + j]? = some (.int q d[j]!)
theorem Lay.set {q : IntKind} {c : Array Value} {off : Nat} {d : Array Int} (h : Lay q c off d) (i : Nat) (x : Int) (hi : i < d.size) : Lay q (c.setIfInBounds (off + i) (.int q x)) off (d.setIfInBounds i x) := by
 intro j hj
 have hj' : j < d.size := by simpa using hj
 have hs : off + i < c.size := (Array.getElem?_eq_some_iff.1 (h i hi)).1
 by_cases he : i = j
 · subst he
   rw [Array.getElem?_setIfInBounds_self_of_lt hs, getElem!_set_same d i x hi]
 · rw [Array.getElem?_setIfInBounds_ne (by omega), getElem!_set_other d i j x (Ne.symm he)]
   exact h j hj'
def Ts (q : IntKind) (t : TypeId) (g off : Nat) (c0 : Array Value) (w0 : World) (d : Array Int) (X : List Blk) (w : World) : Prop :=
 ∃ c, c.size = c0.size ∧ Lay q c off d ∧ Turn [(g, .cells c0 t (0, 0))] w0 ((g, .cells c t (0, 0)) :: X) w
section
variable {q : IntKind} {t : TypeId} {g off : Nat} {c0 : Array Value} {w0 w : World} {d : Array Int} {X : List Blk}
theorem Ts.refl (hH : Has w [(g, .cells c0 t (0, 0))]) (hl : Lay q c0 off d) : Ts q t g off c0 w d [] w := ⟨c0, rfl, hl, Turn.refl hH⟩
theorem Ts.drewN (h : Ts q t g off c0 w0 d X w) (n : Nat) : Ts q t g off c0 w0 d X (w.drewN n) := by
 obtain ⟨c, h1, h2, h3⟩ := h
 exact ⟨c, h1, h2, h3.drewN n⟩
theorem Ts.cell (h : Ts q t g off c0 w0 d X w) : ∀ j, j < d.size → w.cell? ⟨g, off + j, none⟩ = some (.int q d[j]!) := by
 obtain ⟨c, h1, h2, h3⟩ := h
 exact fun j hj => (h3.cell1 (off + j)).trans (h2 j hj)
theorem Ts.free (h : Ts q t g off c0 w0 d X w) (j : Nat) : w.frozen? ⟨g, off + j, none⟩ = false := by
 obtain ⟨c, h1, h2, h3⟩ := h
 exact h3.free1 (off + j)
theorem Ts.set (h : Ts q t g off c0 w0 d X w) (i : Nat) (x : Int) (hi : i < d.size) : Ts q t g off c0 w0 (d.setIfInBounds i x) X (w.setCell ⟨g, off + i, none⟩ (.int q x)) := by
 obtain ⟨c, h1, h2, h3⟩ := h
 exact ⟨_, by simpa using h1, h2.set i x hi, h3.setCell (off + i) _⟩
theorem Ts.swp (h : Ts q t g off c0 w0 d X w) (i j : Nat) (hi : i < d.size) (hj : j < d.size) {x y : Int} (hx : x = d[j]!) (hy : y = d[i]!) :
  Ts q t g off c0 w0 (Sort.swp d i j) X ((w.setCell ⟨g, off + i, none⟩ (.int q x)).setCell ⟨g, off + j, none⟩ (.int q y)) := by
 subst hx; subst hy
 exact (h.set i _ hi).set j _ (by simpa using hj)
theorem Ts.alloc (h : Ts q t g off c0 w0 d X w) (o : Obj) : Ts q t g off c0 w0 d ((w.heap.size, o) :: X) (w.alloc o) := by
 obtain ⟨c, h1, h2, h3⟩ := h
 exact ⟨c, h1, h2, (h3.alloc o).swap⟩
theorem Ts.less {Y : List Blk} (h : Ts q t g off c0 w0 d X w) (hs : Y.Sublist X) : Ts q t g off c0 w0 d Y w := by
 obtain ⟨c, h1, h2, h3⟩ := h
 exact ⟨c, h1, h2, h3.sub (hs.cons_cons _)⟩
theorem Ts.xcell (h : Ts q t g off c0 w0 d X w) {b : Nat} {c : Array Value} {e : TypeId} {f : Nat × Nat} (hm : (b, Obj.cells c e f) ∈ X) (i : Nat) : w.cell? ⟨b, i, none⟩ = c[i]? := by
 obtain ⟨_, h1, h2, h3⟩ := h
 exact h3.has.cell (List.mem_cons_of_mem _ hm) i
theorem Ts.xfree (h : Ts q t g off c0 w0 d X w) {b : Nat} {c : Array Value} {e : TypeId} (hm : (b, Obj.cells c e (0, 0)) ∈ X) (i : Nat) : w.frozen? ⟨b, i, none⟩ = false := by
 obtain ⟨_, h1, h2, h3⟩ := h
 exact h3.has.free (List.mem_cons_of_mem _ hm) i
theorem Ts.xset {b : Nat} {c : Array Value} {e : TypeId} {f : Nat × Nat} {Y : List Blk} (h : Ts q t g off c0 w0 d ((b, .cells c e f) :: Y) w) (i : Nat) (v : Value) : Ts q t g off c0 w0 d ((b, .cells (c.setIfInBounds i v) e f) :: Y) (w.setCell ⟨b, i, none⟩ v) := by
 obtain ⟨c1, h1, h2, h3⟩ := h
 exact ⟨c1, h1, h2, (h3.swap.setCell i v).swap⟩
end
theorem swo : SWO ltInt := swo_ltInt
def SFin (a b : Nat) (d : Array Int) (a' b' : Nat) (dk : Array Int) : Prop := ∀ R, PermIn a' b' dk R → SortedIn ltInt a' b' R → PermIn a b d R ∧ SortedIn ltInt a b R
theorem SFin.refl {a b : Nat} {d : Array Int} : SFin a b d a b d := fun _ h k => ⟨h, k⟩
theorem SFin.perm {a b a' b' : Nat} {d dk d2 : Array Int} (h : SFin a b d a' b' dk) (p : PermIn a' b' dk d2) : SFin a b d a' b' d2 := fun R hR hS => h R (permIn_trans _ _ _ _ _ p hR) hS
theorem SFin.step {a b a' b' a2 b2 : Nat} {d d3 d4 : Array Int} (h : SFin a b d a' b' d3) (k : ∀ R, PermIn a2 b2 d4 R → SortedIn ltInt a2 b2 R → PermIn a' b' d3 R ∧ SortedIn ltInt a' b' R) : SFin a b d a2 b2 d4 := fun R hR hS => h R (k R hR hS).1 (k R hR hS).2
theorem SFin.ins {a b a' b' : Nat} {d dk : Array Int} (h : SFin a b d a' b' dk) (h1 : a' ≤ b') (h2 : b' ≤ dk.size) : PermIn a b d (insertionSort ltInt dk a' b') ∧ SortedIn ltInt a b (insertionSort ltInt dk a' b') :=
 have k := insertionSort_holds swo dk a' b' h1 h2
 h _ k.1 k.2
theorem SFin.heap {a b a' b' : Nat} {d dk : Array Int} (h : SFin a b d a' b' dk) (h1 : a' ≤ b') (h2 : b' ≤ dk.size) : PermIn a b d (heapSort ltInt dk a' b') ∧ SortedIn ltInt a b (heapSort ltInt dk a' b') :=
 have k := heapSort_holds swo dk a' b' h1 h2
 h _ k.1 k.2
theorem eighth {x y p q : Nat} (h1 : q ≤ p) (h2 : y ≤ x) : decide (((x : Int) - (y : Int)) / 8 ≤ (p : Int) - (q : Int)) = decide (p - q ≥ (x - y) / 8) :=
 decide_eq_decide.2 ⟨fun h => by omega, fun h => by omega⟩
theorem nan8 (x : Int) (w : World) : Calls Tryz.prog 282 #[.int .u8 x] w fun e w' => e = .returned (.bool false) ∧ w' = w := by
 go_enter Tryz.func282, Tryz.ntmps282
 go_wp2
 go_ret
 exact ⟨by simp, rfl⟩
theorem less8 (x y : Int) (w : World) : Calls Tryz.prog 254 #[.int .u8 x, .int .u8 y] w fun e w' => e = .returned (.bool (ltInt x y)) ∧ w' = w := by
 go_enter Tryz.func254, Tryz.ntmps254
 go_wp2_with (go_at_call 282; refine (nan8 _ _).mono ?_; rintro e w' ⟨rfl, rfl⟩)
 go_ret
 exact ⟨rfl, rfl⟩
theorem ins8 (g off cap a b : Nat) (c0 : Array Value) (w0 : World) (d : Array Int) (X : List Blk) (w : World) (hT : Ts .u8 5 g off c0 w0 d X w) (hab : a ≤ b) (hb : b ≤ d.size) (hsz : d.size < 4611686018427387904) :
  Calls Tryz.prog 248 #[.slice (some ⟨g, off, none⟩) d.size cap, .int .i64 a, .int .i64 b] w fun e w' => e = .returned (.tuple #[]) ∧ Ts .u8 5 g off c0 w0 (insertionSort ltInt d a b) X w' := by
 have HT := uh hT
 clear hT
 go_enter Tryz.func248, Tryz.ntmps248
 go_wp2
 go_loopw [6] (fun vi wr => ∃ (i : Nat) (dk : Array Int), vi = .int .i64 i ∧ a < i ∧ i ≤ b + 1 ∧ dk.size = d.size ∧ Ts .u8 5 g off c0 w0 dk X wr ∧ insOuter ltInt a b i dk = insOuter ltInt a b (a + 1) d) (fun vi _ => b + 1 - (intOf vi).toNat)
 case atStart => exact ⟨a + 1, d, by go_num, by omega, by omega, rfl, HT.out, rfl⟩
 case round =>
  clear HT
  obtain ⟨i, dk, rfl, hai, hib, hsk, hT, hO⟩ := hrel
  have HT := uh hT
  have HO := uh hO
  clear hO hT
  go_wp2
  · have hlt : i < b := by assumption
    go_loopw [7] (fun vj wr2 => ∃ (j : Nat) (dj : Array Int), vj = .int .i64 j ∧ a ≤ j ∧ j ≤ i ∧ dj.size = d.size ∧ Ts .u8 5 g off c0 w0 dj X wr2 ∧ insInner ltInt a j dj = insInner ltInt a i dk) (fun vj _ => (intOf vj).toNat)
    case atStart => exact ⟨i, dk, rfl, by omega, Nat.le_refl _, hsk, HT.out, rfl⟩
    case round =>
     obtain ⟨j, dj, rfl, haj, hji, hsj, hTj, hI⟩ := hrel
     obtain ⟨G, hG⟩ : ∃ G : Nat → Int, ∀ t, G t = dj[t]! := ⟨fun t => dj[t]!, fun _ => rfl⟩
     have hcw : ∀ t, t < d.size → wr.cell? ⟨g, off + t, none⟩ = some (.int .u8 (G t)) := fun t ht => by rw [hG]; exact hTj.cell t (by omega)
     have hfw : ∀ t, t < d.size → wr.frozen? ⟨g, off + t, none⟩ = false := fun t _ => hTj.free t
     have HTj := uh hTj
     have HG := uh hG
     have OUT := uh (fun (hs : j ≤ a ∨ ltInt dj[j]! dj[j - 1]! = false) => (by rw [← HO.out, insOuter_go _ _ _ _ _ hlt, ← hI, insInner_stop _ _ _ _ hs] : insOuter ltInt a b (i + 1) dj = insOuter ltInt a b (a + 1) d))
     have GO := uh (fun (h1 : a < j) (h2 : ltInt dj[j]! dj[j - 1]! = true) => (by rw [← hI, insInner_go ltInt a j dj h1 h2] : insInner ltInt a (j - 1) (Sort.swp dj j (j - 1)) = insInner ltInt a i dk))
     clear hTj hG hI HT
     go_wp2
     by_cases hja : a < j
     · go_quiet (first | (go_at_call 254; refine Calls.quiet_of_same (less8 _ _ _)))
       go_wp2
       · have hl : ltInt (G j) (G (j - 1)) = true := by assumption
         go_region
         all_goals go_wp2
         go_roundw
         case rel => exact ⟨j - 1, Sort.swp dj j (j - 1), by congr 1; omega, by omega, by omega, by rw [size_swp]; exact hsj, ((HTj.out.drewN (nq + 1)).swp j (j - 1) (by omega) (by omega) (HG.out _) (HG.out _)), GO.out hja (by rw [← HG.out, ← HG.out]; exact hl)⟩
         case measure => simp [intOf]; omega
       · have hl : ltInt (G j) (G (j - 1)) = false := by assumption
         go_roundw
         case rel => exact ⟨i + 1, dj, by go_num, by omega, by omega, hsj, HTj.out.drewN _, OUT.out (Or.inr (by rw [← HG.out, ← HG.out]; exact hl))⟩
         case measure => simp [intOf]; omega
     · go_quiet (first | (go_at_call 254; refine Calls.quiet_of_same (less8 _ _ _)))
       go_wp2
       go_roundw
       case rel => exact ⟨i + 1, dj, by go_num, by omega, by omega, hsj, HTj.out.drewN _, OUT.out (Or.inl (by omega))⟩
       case measure => simp [intOf]; omega
  · have hge : ¬ i < b := by assumption
    go_end0
    exact ⟨rfl, by unfold insertionSort; rw [← HO.out, insOuter_stop _ _ _ _ _ hge]; exact HT.out⟩
theorem sift8 (g off cap : Nat) (c0 : Array Value) (w0 : World) (d : Array Int) (len : Nat) (hlen : d.size = len) (X : List Blk) (lo hi first : Nat) (w : World) (hT : Ts .u8 5 g off c0 w0 d X w) (hlo : lo ≤ hi) (hb : first + hi ≤ d.size) (hsz : d.size < 4611686018427387904) :
  Calls Tryz.prog 277 #[.slice (some ⟨g, off, none⟩) len cap, .int .i64 lo, .int .i64 hi, .int .i64 first] w fun e w' => e = .returned (.tuple #[]) ∧ Ts .u8 5 g off c0 w0 (siftDown ltInt hi first lo d) X w' := by
 subst hlen
 have HT := uh hT
 clear hT
 go_enter Tryz.func277, Tryz.ntmps277
 go_wp2
 go_loopg [8] (hi - lo) (fun k s8 wr => ∃ (root : Nat) (dk : Array Int), s8 = .int .i64 root ∧ root ≤ hi ∧ hi - root ≤ k ∧ dk.size = d.size ∧ Ts .u8 5 g off c0 w0 dk X wr ∧ siftDown ltInt hi first root dk = siftDown ltInt hi first lo d)
 case atStart => exact ⟨lo, d, rfl, hlo, Nat.le_refl _, rfl, HT.out, rfl⟩
 case round =>
  clear HT
  obtain ⟨root, dk, rfl, hr, hk, hds, hT, heq⟩ := hrel
  obtain ⟨G, hG⟩ : ∃ G : Nat → Int, ∀ t, G t = dk[t]! := ⟨fun t => dk[t]!, fun _ => rfl⟩
  have hcw : ∀ t, t < d.size → wr.cell? ⟨g, off + t, none⟩ = some (.int .u8 (G t)) := fun t ht => by rw [hG]; exact hT.cell t (by omega)
  have hfw : ∀ t, t < d.size → wr.frozen? ⟨g, off + t, none⟩ = false := fun t _ => hT.free t
  have HT := uh hT
  have HG := uh hG
  have HE := uh heq
  clear hT hG heq
  by_cases h0 : hi ≤ 2 * root + 1
  · have h0z : (hi : Int) ≤ 2 * (root : Int) + 1 := by omega
    go_wp2
    go_end0
    exact ⟨rfl, by rw [← HE.out, sd_end ltInt dk h0]; exact HT.out⟩
  · have h0z : ¬ ((hi : Int) ≤ 2 * (root : Int) + 1) := by omega
    by_cases h1 : 2 * root + 2 < hi
    · have h1z : 2 * (root : Int) + 1 + 1 < (hi : Int) := by omega
      go_wp2_with fail
      go_big_quiet (first | (go_at_call 254; refine Calls.quiet_of_same (less8 _ _ _)))
      go_wp2_with fail
      · have hL : ltInt (G (first + 2 * root + 1)) (G (first + 2 * root + 2)) = true := by assumption
        have hL2 : ltInt dk[first + (2 * root + 1)]! dk[first + (2 * root + 2)]! = true := by rw [← HG.out, ← HG.out]; exact hL
        revert nq; intro nq1
        have hcw2 : ∀ t, t < d.size → (wr.drewN nq1).cell? ⟨g, off + t, none⟩ = some (.int .u8 (G t)) := hcw
        have hfw2 : ∀ t, t < d.size → (wr.drewN nq1).frozen? ⟨g, off + t, none⟩ = false := hfw
        have HT2 := uh (HT.out.drewN nq1)
        clear hcw hfw HT
        generalize wr.drewN nq1 = wr2 at hcw2 hfw2 HT2 ⊢
        go_big_quiet (first | (go_at_call 254; refine Calls.quiet_of_same (less8 _ _ _)))
        go_wp2_with fail
        · have hS : ltInt (G (first + root)) (G (first + 2 * root + 2)) = false := by
            have : (!ltInt (G (first + root)) (G (first + 2 * root + 2))) = true := by assumption
            simpa using this
          (try simp only [Exit.inBlock, Exit.then]); refine bodyPost_ret (results_none rfl _ _ _) rfl ?_
          refine ⟨rfl, ?_⟩
          have e : siftDown ltInt hi first root dk = dk := by
           refine sd_right_stop ltInt dk h1 hL2 (by rw [← HG.out, ← HG.out]; exact hS)
          rw [← HE.out, e]
          exact HT2.out.drewN _
        · have hS : ltInt (G (first + root)) (G (first + 2 * root + 2)) = true := by
            have : (!ltInt (G (first + root)) (G (first + 2 * root + 2))) = false := by assumption
            simpa using this
          have e : siftDown ltInt hi first root dk = siftDown ltInt hi first (2 * root + 2) (Sort.swp dk (first + root) (first + (2 * root + 2))) := by
           refine sd_right_go ltInt dk h1 hL2 (by rw [← HG.out, ← HG.out]; exact hS)
          have hcw3 : ∀ t, t < d.size → (wr2.drewN nq).cell? ⟨g, off + t, none⟩ = some (.int .u8 (G t)) := hcw2
          have hfw3 : ∀ t, t < d.size → (wr2.drewN nq).frozen? ⟨g, off + t, none⟩ = false := hfw2
          have HT3 := uh (HT2.out.drewN nq)
          have HE2 := uh (e.symm.trans HE.out)
          clear hcw2 hfw2 HT2 e HE
          generalize wr2.drewN nq = wr3 at hcw3 hfw3 HT3 ⊢
          go_region
          go_wp2
          go_roundg (hi - (2 * root + 2))
          case measure => omega
          case rel => exact ⟨2 * root + 2, Sort.swp dk (first + root) (first + (2 * root + 2)), by simp <;> omega, by omega, Nat.le_refl _, by rw [size_swp]; exact hds, ((HT3.out.drewN _).swp (first + root) (first + (2 * root + 2)) (by omega) (by omega) (HG.out _) (HG.out _)), HE2.out⟩
      · have hL : ltInt (G (first + 2 * root + 1)) (G (first + 2 * root + 2)) = false := by assumption
        have hL2 : 2 * root + 2 < hi → ltInt dk[first + (2 * root + 1)]! dk[first + (2 * root + 2)]! = false := fun _ => by rw [← HG.out, ← HG.out]; exact hL
        revert nq; intro nq1
        have hcw2 : ∀ t, t < d.size → (wr.drewN nq1).cell? ⟨g, off + t, none⟩ = some (.int .u8 (G t)) := hcw
        have hfw2 : ∀ t, t < d.size → (wr.drewN nq1).frozen? ⟨g, off + t, none⟩ = false := hfw
        have HT2 := uh (HT.out.drewN nq1)
        clear hcw hfw HT
        generalize wr.drewN nq1 = wr2 at hcw2 hfw2 HT2 ⊢
        go_big_quiet (first | (go_at_call 254; refine Calls.quiet_of_same (less8 _ _ _)))
        go_wp2_with fail
        · have hS : ltInt (G (first + root)) (G (first + 2 * root + 1)) = false := by
            have : (!ltInt (G (first + root)) (G (first + 2 * root + 1))) = true := by assumption
            simpa using this
          (try simp only [Exit.inBlock, Exit.then]); refine bodyPost_ret (results_none rfl _ _ _) rfl ?_
          refine ⟨rfl, ?_⟩
          have e : siftDown ltInt hi first root dk = dk := by
           refine sd_left_stop ltInt dk (by omega) hL2 (by rw [← HG.out, ← HG.out]; exact hS)
          rw [← HE.out, e]
          exact HT2.out.drewN _
        · have hS : ltInt (G (first + root)) (G (first + 2 * root + 1)) = true := by
            have : (!ltInt (G (first + root)) (G (first + 2 * root + 1))) = false := by assumption
            simpa using this
          have e : siftDown ltInt hi first root dk = siftDown ltInt hi first (2 * root + 1) (Sort.swp dk (first + root) (first + (2 * root + 1))) := by
           refine sd_left_go ltInt dk (by omega) hL2 (by rw [← HG.out, ← HG.out]; exact hS)
          have hcw3 : ∀ t, t < d.size → (wr2.drewN nq).cell? ⟨g, off + t, none⟩ = some (.int .u8 (G t)) := hcw2
          have hfw3 : ∀ t, t < d.size → (wr2.drewN nq).frozen? ⟨g, off + t, none⟩ = false := hfw2
          have HT3 := uh (HT2.out.drewN nq)
          have HE2 := uh (e.symm.trans HE.out)
          clear hcw2 hfw2 HT2 e HE
          generalize wr2.drewN nq = wr3 at hcw3 hfw3 HT3 ⊢
          go_region
          go_wp2
          go_roundg (hi - (2 * root + 1))
          case measure => omega
          case rel => exact ⟨2 * root + 1, Sort.swp dk (first + root) (first + (2 * root + 1)), by simp <;> omega, by omega, Nat.le_refl _, by rw [size_swp]; exact hds, ((HT3.out.drewN _).swp (first + root) (first + (2 * root + 1)) (by omega) (by omega) (HG.out _) (HG.out _)), HE2.out⟩
    · have h1z : decide (2 * (root : Int) + 1 + 1 < (hi : Int)) = false := decide_eq_false (by omega)
      have hL2 : 2 * root + 2 < hi → ltInt dk[first + (2 * root + 1)]! dk[first + (2 * root + 2)]! = false := fun h => absurd h h1
      go_wp2_with fail
      go_big_quiet (first | (go_at_call 254; refine Calls.quiet_of_same (less8 _ _ _)))
      go_wp2_with fail
      revert nq; intro nq1
      have hcw2 : ∀ t, t < d.size → (wr.drewN nq1).cell? ⟨g, off + t, none⟩ = some (.int .u8 (G t)) := hcw
      have hfw2 : ∀ t, t < d.size → (wr.drewN nq1).frozen? ⟨g, off + t, none⟩ = false := hfw
      have HT2 := uh (HT.out.drewN nq1)
      clear hcw hfw HT
      generalize wr.drewN nq1 = wr2 at hcw2 hfw2 HT2 ⊢
      go_big_quiet (first | (go_at_call 254; refine Calls.quiet_of_same (less8 _ _ _)))
      go_wp2_with fail
      · have hS : ltInt (G (first + root)) (G (first + 2 * root + 1)) = false := by
          have : (!ltInt (G (first + root)) (G (first + 2 * root + 1))) = true := by assumption
          simpa using this
        (try simp only [Exit.inBlock, Exit.then]); refine bodyPost_ret (results_none rfl _ _ _) rfl ?_
        refine ⟨rfl, ?_⟩
        have e : siftDown ltInt hi first root dk = dk := by
         refine sd_left_stop ltInt dk (by omega) hL2 (by rw [← HG.out, ← HG.out]; exact hS)
        rw [← HE.out, e]
        exact HT2.out.drewN _
      · have hS : ltInt (G (first + root)) (G (first + 2 * root + 1)) = true := by
          have : (!ltInt (G (first + root)) (G (first + 2 * root + 1))) = false := by assumption
          simpa using this
        have e : siftDown ltInt hi first root dk = siftDown ltInt hi first (2 * root + 1) (Sort.swp dk (first + root) (first + (2 * root + 1))) := by
         refine sd_left_go ltInt dk (by omega) hL2 (by rw [← HG.out, ← HG.out]; exact hS)
        have hcw3 : ∀ t, t < d.size → (wr2.drewN nq).cell? ⟨g, off + t, none⟩ = some (.int .u8 (G t)) := hcw2
        have hfw3 : ∀ t, t < d.size → (wr2.drewN nq).frozen? ⟨g, off + t, none⟩ = false := hfw2
        have HT3 := uh (HT2.out.drewN nq)
        have HE2 := uh (e.symm.trans HE.out)
        clear hcw2 hfw2 HT2 e HE
        generalize wr2.drewN nq = wr3 at hcw3 hfw3 HT3 ⊢
        go_region
        go_wp2
        go_roundg (hi - (2 * root + 1))
        case measure => omega
        case rel => exact ⟨2 * root + 1, Sort.swp dk (first + root) (first + (2 * root + 1)), by simp <;> omega, by omega, Nat.le_refl _, by rw [size_swp]; exact hds, ((HT3.out.drewN _).swp (first + root) (first + (2 * root + 1)) (by omega) (by omega) (HG.out _) (HG.out _)), HE2.out⟩
theorem heap8 (g off cap : Nat) (c0 : Array Value) (w0 : World) (d : Array Int) (X : List Blk) (a b : Nat) (w : World) (hT : Ts .u8 5 g off c0 w0 d X w) (hab : a ≤ b) (hb : b ≤ d.size) (hsz : d.size < 4611686018427387904) :
  Calls Tryz.prog 249 #[.slice (some ⟨g, off, none⟩) d.size cap, .int .i64 a, .int .i64 b] w fun e w' => e = .returned (.tuple #[]) ∧ Ts .u8 5 g off c0 w0 (heapSort ltInt d a b) X w' := by
 have ecast : ((b - a : Nat) : Int) = (b : Int) - (a : Int) := by omega
 have HT := uh hT
 clear hT
 go_enter Tryz.func249, Tryz.ntmps249
 go_wp2
 go_loopg [9] ((b - a - 1) / 2 + 1) (fun k s9 wr => s9 = .int .i64 ((k : Int) - 1) ∧ k ≤ (b - a - 1) / 2 + 1 ∧ ∃ (dk : Array Int), dk.size = d.size ∧ Ts .u8 5 g off c0 w0 dk X wr ∧ heapBuild ltInt (b - a) a k dk = heapBuild ltInt (b - a) a ((b - a - 1) / 2 + 1) d)
 case atStart => exact ⟨by rw [half_start hab], Nat.le_refl _, d, rfl, HT.out, rfl⟩
 case round =>
  clear HT
  obtain ⟨rfl, hkk, dk, hds, hT, heq⟩ := hrel
  have HT := uh hT
  have HE := uh heq
  clear hT heq
  cases gk with
  | zero =>
   clear hkk
   go_wp2
   go_loopg [10] (b - a) (fun k s10 wr2 => s10 = .int .i64 ((k : Int) - 1) ∧ k ≤ b - a ∧ ∃ (dj : Array Int), dj.size = d.size ∧ Ts .u8 5 g off c0 w0 dj X wr2 ∧ heapPop ltInt a k dj = heapPop ltInt a (b - a) dk)
   case atStart => exact ⟨by rw [ecast], Nat.le_refl _, dk, hds, HT.out, rfl⟩
   case round =>
    clear HT
    obtain ⟨rfl, hkk, dj, hdj, hT2, heq2⟩ := hrel
    cases gk with
    | zero =>
     go_wp2
     go_end0
     have e : dj = heapSort ltInt d a b := by
      have h1 := HE.out
      have h2 : dk = heapBuild ltInt (b - a) a ((b - a - 1) / 2 + 1) d := h1
      rw [heapSort, ← h2, ← heq2]; rfl
     exact ⟨rfl, by rw [← e]; exact hT2⟩
    | succ k =>
     obtain ⟨G, hG⟩ : ∃ G : Nat → Int, ∀ t, G t = dj[t]! := ⟨fun t => dj[t]!, fun _ => rfl⟩
     have hcw : ∀ t, t < d.size → wr.cell? ⟨g, off + t, none⟩ = some (.int .u8 (G t)) := fun t ht => by rw [hG]; exact hT2.cell t (by omega)
     have hfw : ∀ t, t < d.size → wr.frozen? ⟨g, off + t, none⟩ = false := fun t _ => hT2.free t
     have HT2 := uh hT2
     have HG := uh hG
     have HE2 := uh heq2
     have Hsw := uh (fun x nq (hx : x = a + k) => ((hT2.drewN nq).swp a x (by omega) (by omega) (hG _) (hG _)))
     have Hsf := uh (fun w' (h : Ts .u8 5 g off c0 w0 (Sort.swp dj a (a + k)) X w') => sift8 g off cap c0 w0 _ d.size (by rw [size_swp]; exact hdj) X 0 k a w' h (Nat.zero_le _) (by rw [size_swp]; omega) (by rw [size_swp]; omega))
     clear hT2 hG heq2
     rcases Nat.eq_zero_or_pos k with hk0 | hkp
     · subst hk0
       go_wp2_with fail
       go_region
       go_wp2_with fail
       refine (Hsf.out _ (Hsw.out _ _ rfl)).mono ?_
       rintro e w1 ⟨rfl, hT3⟩
       go_wp2
       go_roundg 0
       case measure => omega
       case rel => exact ⟨by simp, by omega, _, by rw [size_siftDown ltInt _ _ _ _ _ (Nat.le_refl _), size_swp]; exact hdj, hT3, HE2.out⟩
     · go_wp2_with fail
       go_region
       go_wp2_with fail
       refine (Hsf.out _ (Hsw.out _ _ rfl)).mono ?_
       rintro e w1 ⟨rfl, hT3⟩
       go_wp2
       go_roundg k
       case measure => omega
       case rel => exact ⟨by simp, by omega, _, by rw [size_siftDown ltInt _ _ _ _ _ (Nat.le_refl _), size_swp]; exact hdj, hT3, HE2.out⟩
  | succ k =>
   have Hsf := uh (sift8 g off cap c0 w0 dk d.size hds X k (b - a) a wr HT.out (by omega) (by omega) (by omega))
   rw [ecast] at Hsf
   go_wp2_with fail
   refine Hsf.out.mono ?_
   rintro e w1 ⟨rfl, hT3⟩
   go_wp2
   go_roundg k
   case measure => omega
   case rel => exact ⟨by simp, by omega, _, by rw [size_siftDown ltInt _ _ _ _ _ (Nat.le_refl _)]; exact hds, hT3, HE.out⟩
theorem rev8 (g off cap : Nat) (c0 : Array Value) (w0 : World) (d : Array Int) (X : List Blk) (a b : Nat) (w : World) (hT : Ts .u8 5 g off c0 w0 d X w) (hab : a ≤ b) (hb : b ≤ d.size) (hsz : d.size < 4611686018427387904) :
  Calls Tryz.prog 252 #[.slice (some ⟨g, off, none⟩) d.size cap, .int .i64 a, .int .i64 b] w fun e w' => e = .returned (.tuple #[]) ∧ ∃ d', PermIn a b d d' ∧ Ts .u8 5 g off c0 w0 d' X w' := by
 have HT := uh hT
 clear hT
 go_enter Tryz.func252, Tryz.ntmps252
 go_wp2
 go_loopg [6, 7] (b - a) (fun k s6 s7 wr => ∃ (i : Nat) (jz : Int) (dk : Array Int), s6 = .int .i64 i ∧ s7 = .int .i64 jz ∧ a ≤ i ∧ jz < b ∧ (jz - i).toNat ≤ k ∧ PermIn a b d dk ∧ Ts .u8 5 g off c0 w0 dk X wr)
 case atStart => exact ⟨a, (b : Int) - 1, d, rfl, rfl, Nat.le_refl _, by omega, by omega, permIn_refl _ _ _, HT.out⟩
 case round =>
  clear HT
  obtain ⟨i, jz, dk, rfl, rfl, h1, h2, hk, hP, hT⟩ := hrel
  have hds : dk.size = d.size := hP.1
  by_cases hlt : (i : Int) < jz
  · obtain ⟨jn, rfl⟩ : ∃ jn : Nat, jz = jn := ⟨jz.toNat, by omega⟩
    have hij : i < jn := by omega
    obtain ⟨x, hx⟩ : ∃ x, dk[i]! = x := ⟨_, rfl⟩
    obtain ⟨y, hy⟩ : ∃ y, dk[jn]! = y := ⟨_, rfl⟩
    have ci := hT.cell i (by omega)
    have cj := hT.cell jn (by omega)
    have fi := hT.free i
    have fj := hT.free jn
    rw [hx] at ci
    rw [hy] at cj
    have HR := uh (fun n => (⟨permIn_trans _ _ _ a b hP (swp_permIn dk a b i jn h1 (by omega) (by omega) (by omega) (by omega)), (hT.drewN n).swp i jn (by omega) (by omega) hy.symm hx.symm⟩ : PermIn a b d (Sort.swp dk i jn) ∧ _))
    clear hP hT hx hy
    go_wp2_with fail
    go_region
    go_wp2
    go_roundg (jn - 1 - (i + 1))
    case measure => omega
    case rel => exact ⟨i + 1, (jn : Int) - 1, Sort.swp dk i jn, by simp, rfl, by omega, by omega, by omega, (HR.out 1).1, (HR.out 1).2⟩
  · go_wp2
    go_end0
    exact ⟨rfl, dk, hP, hT⟩
theorem parteq8 (g off cap : Nat) (c0 : Array Value) (w0 : World) (d : Array Int) (X : List Blk) (a b pivot : Nat) (w : World) (hT : Ts .u8 5 g off c0 w0 d X w) (hap : a ≤ pivot) (hpb : pivot < b) (hb : b ≤ d.size) (hsz : d.size < 4611686018427387904) :
  Calls Tryz.prog 255 #[.slice (some ⟨g, off, none⟩) d.size cap, .int .i64 a, .int .i64 b, .int .i64 pivot] w fun e w' => e = .returned (.int .i64 (partitionEqual ltInt d a b pivot).1) ∧ Ts .u8 5 g off c0 w0 (partitionEqual ltInt d a b pivot).2 X w' := by
 have hla : a < d.size := by omega
 have hlp : pivot < d.size := by omega
 obtain ⟨G, hG⟩ : ∃ G : Nat → Int, ∀ j, G j = d[j]! := ⟨fun j => d[j]!, fun _ => rfl⟩
 have ca : w.cell? ⟨g, off + a, none⟩ = some (.int .u8 (G a)) := by rw [hG]; exact hT.cell a hla
 have fa := hT.free a
 have cp : w.cell? ⟨g, off + pivot, none⟩ = some (.int .u8 (G pivot)) := by rw [hG]; exact hT.cell pivot hlp
 have fp := hT.free pivot
 obtain ⟨v', hy'⟩ := cell?_setCell_some (w := w) (p := ⟨g, off + a, none⟩) (x := .int .u8 (G pivot)) (q := ⟨g, off + pivot, none⟩) cp
 have HW := uh ((hT.drewN 1).swp a pivot hla hlp (hG pivot) (hG a))
 clear hT hG
 go_enter Tryz.func255, Tryz.ntmps255
 go_wp2
 go_region
 go_wp2
 go_loopw [9, 10] (fun vi vj wr => ∃ (i j : Nat) (dk : Array Int), vi = .int .i64 i ∧ vj = .int .i64 j ∧ a < i ∧ i ≤ j + 1 ∧ j < b ∧ dk.size = d.size ∧ Ts .u8 5 g off c0 w0 dk X wr ∧ Hid (partEqLoop ltInt a i j dk = partEqLoop ltInt a (a + 1) (b - 1) (Sort.swp d a pivot)))
  (fun vi vj _ => (intOf vj).toNat + 1 - (intOf vi).toNat)
 case atStart => exact ⟨a + 1, b - 1, Sort.swp d a pivot, by go_num, by go_num, by omega, by omega, by omega, size_swp _ _ _, HW.out, rfl⟩
 case round =>
  clear ca fa cp fp hy' v' HW
  obtain ⟨i, j, dk, rfl, rfl, hai, hij, hjb, hs, hT0, AE⟩ := hrel
  obtain ⟨Gk, hG⟩ : ∃ Gk : Nat → Int, ∀ t, Gk t = dk[t]! := ⟨fun t => dk[t]!, fun _ => rfl⟩
  have AG := uh hG
  have HT := uh hT0
  clear hG hT0
  go_wp2
  go_loopw [9] (fun vi w1 => ∃ (i' : Nat), vi = .int .i64 i' ∧ i ≤ i' ∧ i' ≤ j + 1 ∧ Ts .u8 5 g off c0 w0 dk X w1 ∧ Hid (scanUp (fun x => !ltInt dk[a]! x) dk j i' = scanUp (fun x => !ltInt dk[a]! x) dk j i)) (fun vi _ => j + 1 - (intOf vi).toNat)
  case atStart => exact ⟨i, rfl, Nat.le_refl _, hij, HT.out, rfl⟩
  case round =>
   obtain ⟨i', rfl, hii, hij', hT1, HSC⟩ := hrel
   have hcw : ∀ t, t < d.size → wr.cell? ⟨g, off + t, none⟩ = some (.int .u8 (Gk t)) := fun t ht => by rw [AG.out]; exact hT1.cell t (by omega)
   have hfw : ∀ t, t < d.size → wr.frozen? ⟨g, off + t, none⟩ = false := fun t _ => hT1.free t
   have HT1 := uh hT1
   clear hT1
   by_cases hle : i' ≤ j
   · go_wp2_with fail
     go_big_quiet (first | (go_at_call 254; refine Calls.quiet_of_same (less8 _ _ _)))
     go_wp2
     · have ht : (!ltInt (Gk a) (Gk i')) = true := by assumption
       go_roundw
       case rel => exact ⟨i' + 1, by go_num, by omega, by omega, HT1.out.drewN nq, (scanUp_go (fun x => !ltInt dk[a]! x) dk j i' hle (by rw [← AG.out a, ← AG.out i']; exact ht)).symm.trans HSC.out⟩
       case measure => simp [intOf]; omega
     · have ht : (!ltInt (Gk a) (Gk i')) = false := by assumption
       have hi2 : Hid (i' = scanUp (fun x => !ltInt dk[a]! x) dk j i) := (scanUp_end (fun x => !ltInt dk[a]! x) dk j i' (Or.inr (by rw [← AG.out a, ← AG.out i']; exact ht))).symm.trans HSC.out
       have HT2 := uh (HT1.out.drewN nq)
       clear ht hcw hfw HT1 HSC HT
       generalize wr.drewN nq = wd at HT2 ⊢
       go_loopw [10] (fun vj w2 => ∃ (j' : Nat), vj = .int .i64 j' ∧ j' ≤ j ∧ i' ≤ j' + 1 ∧ Ts .u8 5 g off c0 w0 dk X w2 ∧ Hid (scanDown (fun x => ltInt dk[a]! x) dk i' j' = scanDown (fun x => ltInt dk[a]! x) dk i' j)) (fun vj _ => (intOf vj).toNat)
       case atStart => exact ⟨j, rfl, Nat.le_refl _, hij', HT2.out, rfl⟩
       case round =>
        clear HT2
        obtain ⟨j', rfl, hjj, hij2, hT1, HSD⟩ := hrel
        have hcw : ∀ t, t < d.size → wr.cell? ⟨g, off + t, none⟩ = some (.int .u8 (Gk t)) := fun t ht => by rw [AG.out]; exact hT1.cell t (by omega)
        have hfw : ∀ t, t < d.size → wr.frozen? ⟨g, off + t, none⟩ = false := fun t _ => hT1.free t
        have HT1 := uh hT1
        clear hT1
        by_cases hle2 : i' ≤ j'
        · go_wp2_with fail
          go_big_quiet (first | (go_at_call 254; refine Calls.quiet_of_same (less8 _ _ _)))
          go_wp2
          · have ht : ltInt (Gk a) (Gk j') = true := by assumption
            go_roundw
            case rel => exact ⟨j' - 1, by go_num, by omega, by omega, HT1.out.drewN nq, (scanDown_go (fun x => ltInt dk[a]! x) dk i' j' hle2 (by omega) (by rw [← AG.out a, ← AG.out j']; exact ht)).symm.trans HSD.out⟩
            case measure => simp [intOf]; omega
          · have ht : ltInt (Gk a) (Gk j') = false := by assumption
            have hj2 : Hid (j' = scanDown (fun x => ltInt dk[a]! x) dk i' j) := (scanDown_end (fun x => ltInt dk[a]! x) dk i' j' (Or.inr (by rw [← AG.out a, ← AG.out j']; exact ht))).symm.trans HSD.out
            have HT3 := uh (HT1.out.drewN nq)
            clear ht hcw hfw HT1 HSD
            generalize wr.drewN nq = W3 at HT3 ⊢
            have hc3 : ∀ t, t < d.size → W3.cell? ⟨g, off + t, none⟩ = some (.int .u8 (Gk t)) := fun t ht => by rw [AG.out]; exact HT3.out.cell t (by omega)
            have hf3 : ∀ t, t < d.size → W3.frozen? ⟨g, off + t, none⟩ = false := fun t _ => HT3.out.free t
            obtain ⟨v3, hy3⟩ := cell?_setCell_some (w := W3) (p := ⟨g, off + i', none⟩) (x := .int .u8 (Gk j')) (q := ⟨g, off + j', none⟩) (hc3 j' (by omega))
            have hlt3 := scans_lt ltInt a i j dk (by omega) hi2.out hj2.out hle2
            go_wp2
            go_region
            all_goals go_wp2
            all_goals go_roundw
            case rel => exact ⟨i' + 1, j' - 1, Sort.swp dk i' j', by go_num, by go_num, by omega, by omega, by omega, by rw [size_swp]; exact hs, (HT3.out.drewN 1).swp i' j' (by omega) (by omega) (AG.out _) (AG.out _), by show _ = _; rw [← AE.out]; exact (partEq_go ltInt a i j dk hi2.out hj2.out (by omega)).symm⟩
            case measure => simp [intOf]; omega
        · go_wp2_with fail
          go_big_quiet (first | (go_at_call 254; refine Calls.quiet_of_same (less8 _ _ _)))
          have hj2 : Hid (j' = scanDown (fun x => ltInt dk[a]! x) dk i' j) := (scanDown_end (fun x => ltInt dk[a]! x) dk i' j' (Or.inl hle2)).symm.trans HSD.out
          have HT3 := uh (HT1.out.drewN nq)
          clear hcw hfw HT1 HSD
          generalize wr.drewN nq = W3 at HT3 ⊢
          have hc3 : ∀ t, t < d.size → W3.cell? ⟨g, off + t, none⟩ = some (.int .u8 (Gk t)) := fun t ht => by rw [AG.out]; exact HT3.out.cell t (by omega)
          have hf3 : ∀ t, t < d.size → W3.frozen? ⟨g, off + t, none⟩ = false := fun t _ => HT3.out.free t
          go_wp2
          go_ret
          have e := partEq_break ltInt a i j dk hi2.out hj2.out (by omega)
          exact ⟨by unfold partitionEqual; rw [← AE.out, e]; rfl, by unfold partitionEqual; rw [← AE.out, e]; exact HT3.out⟩
   · go_wp2_with fail
     go_big_quiet (first | (go_at_call 254; refine Calls.quiet_of_same (less8 _ _ _)))
     go_wp2
     have hi2 : Hid (i' = scanUp (fun x => !ltInt dk[a]! x) dk j i) := (scanUp_end (fun x => !ltInt dk[a]! x) dk j i' (Or.inl hle)).symm.trans HSC.out
     have HT2 := uh (HT1.out.drewN nq)
     clear hcw hfw HT1 HSC HT
     generalize wr.drewN nq = wd at HT2 ⊢
     go_loopw [10] (fun vj w2 => ∃ (j' : Nat), vj = .int .i64 j' ∧ j' ≤ j ∧ i' ≤ j' + 1 ∧ Ts .u8 5 g off c0 w0 dk X w2 ∧ Hid (scanDown (fun x => ltInt dk[a]! x) dk i' j' = scanDown (fun x => ltInt dk[a]! x) dk i' j)) (fun vj _ => (intOf vj).toNat)
     case atStart => exact ⟨j, rfl, Nat.le_refl _, hij', HT2.out, rfl⟩
     case round =>
      clear HT2
      obtain ⟨j', rfl, hjj, hij2, hT1, HSD⟩ := hrel
      have hcw : ∀ t, t < d.size → wr.cell? ⟨g, off + t, none⟩ = some (.int .u8 (Gk t)) := fun t ht => by rw [AG.out]; exact hT1.cell t (by omega)
      have hfw : ∀ t, t < d.size → wr.frozen? ⟨g, off + t, none⟩ = false := fun t _ => hT1.free t
      have HT1 := uh hT1
      clear hT1
      by_cases hle2 : i' ≤ j'
      · exfalso; omega
      · go_wp2_with fail
        go_big_quiet (first | (go_at_call 254; refine Calls.quiet_of_same (less8 _ _ _)))
        have hj2 : Hid (j' = scanDown (fun x => ltInt dk[a]! x) dk i' j) := (scanDown_end (fun x => ltInt dk[a]! x) dk i' j' (Or.inl hle2)).symm.trans HSD.out
        have HT3 := uh (HT1.out.drewN nq)
        clear hcw hfw HT1 HSD
        generalize wr.drewN nq = W3 at HT3 ⊢
        have hc3 : ∀ t, t < d.size → W3.cell? ⟨g, off + t, none⟩ = some (.int .u8 (Gk t)) := fun t ht => by rw [AG.out]; exact HT3.out.cell t (by omega)
        have hf3 : ∀ t, t < d.size → W3.frozen? ⟨g, off + t, none⟩ = false := fun t _ => HT3.out.free t
        go_wp2
        go_ret
        have e := partEq_break ltInt a i j dk hi2.out hj2.out (by omega)
        exact ⟨by unfold partitionEqual; rw [← AE.out, e]; rfl, by unfold partitionEqual; rw [← AE.out, e]; exact HT3.out⟩
theorem part8 (g off cap : Nat) (c0 : Array Value) (w0 : World) (d : Array Int) (X : List Blk) (a b pivot : Nat) (w : World) (hT : Ts .u8 5 g off c0 w0 d X w) (hap : a ≤ pivot) (hpb : pivot < b) (hb : b ≤ d.size) (hsz : d.size < 4611686018427387904) :
  Calls Tryz.prog 256 #[.slice (some ⟨g, off, none⟩) d.size cap, .int .i64 a, .int .i64 b, .int .i64 pivot] w fun e w' => e = .returned (.tuple #[.int .i64 (partition ltInt d a b pivot).1, .bool (partition ltInt d a b pivot).2.1]) ∧ Ts .u8 5 g off c0 w0 (partition ltInt d a b pivot).2.2 X w' := by
 have hla : a < d.size := by omega
 have hlp : pivot < d.size := by omega
 obtain ⟨G, hG⟩ : ∃ G : Nat → Int, ∀ j, G j = d[j]! := ⟨fun j => d[j]!, fun _ => rfl⟩
 have ca : w.cell? ⟨g, off + a, none⟩ = some (.int .u8 (G a)) := by rw [hG]; exact hT.cell a hla
 have fa := hT.free a
 have cp : w.cell? ⟨g, off + pivot, none⟩ = some (.int .u8 (G pivot)) := by rw [hG]; exact hT.cell pivot hlp
 have fp := hT.free pivot
 obtain ⟨v', hy'⟩ := cell?_setCell_some (w := w) (p := ⟨g, off + a, none⟩) (x := .int .u8 (G pivot)) (q := ⟨g, off + pivot, none⟩) cp
 have HW := uh ((hT.drewN 1).swp a pivot hla hlp (hG pivot) (hG a))
 clear hT hG
 go_enter Tryz.func256, Tryz.ntmps256
 go_wp2
 go_region
 go_wp2
 clear ca fa cp fp hy' v'
 have hT0 := HW.out
 clear HW
 have hT0' : Ts .u8 5 g off c0 w0 (Sort.swp d a pivot) X (((w.setCell ⟨g, off + a, none⟩ (.int .u8 (G pivot))).setCell ⟨g, off + pivot, none⟩ (.int .u8 (G a))).drew) := hT0
 clear hT0
 generalize ((w.setCell ⟨g, off + a, none⟩ (.int .u8 (G pivot))).setCell ⟨g, off + pivot, none⟩ (.int .u8 (G a))).drew = W1 at hT0' ⊢
 obtain ⟨dk, hdk⟩ : ∃ dk, dk = Sort.swp d a pivot := ⟨_, rfl⟩
 rw [← hdk] at hT0'
 have hs : dk.size = d.size := by rw [hdk, size_swp]
 have e1 : ((a : Int) + 1) = ((a + 1 : Nat) : Int) := by omega
 have e2 : ((b : Int) - 1) = ((b - 1 : Nat) : Int) := by omega
 rw [e1, e2]
 clear e1 e2
 obtain ⟨i, hi⟩ : ∃ i, i = a + 1 := ⟨_, rfl⟩
 obtain ⟨j, hj⟩ : ∃ j, j = b - 1 := ⟨_, rfl⟩
 rw [← hi, ← hj]
 have hai : a < i := by omega
 have hij : i ≤ j + 1 := by omega
 have hjb : j < b := by omega
 have HI := uh hi
 have HJ := uh hj
 have HDK := uh hdk
 clear hi hj hdk
 obtain ⟨Gk, hG⟩ : ∃ Gk : Nat → Int, ∀ t, Gk t = dk[t]! := ⟨fun t => dk[t]!, fun _ => rfl⟩
 have AG := uh hG
 have HT := uh hT0'
 clear hG hT0'
 go_loopw [10] (fun vi w1 => ∃ (i' : Nat), vi = .int .i64 i' ∧ i ≤ i' ∧ i' ≤ j + 1 ∧ Ts .u8 5 g off c0 w0 dk X w1 ∧ Hid (scanUp (fun x => ltInt x dk[a]!) dk j i' = scanUp (fun x => ltInt x dk[a]!) dk j i)) (fun vi _ => j + 1 - (intOf vi).toNat)
 case atStart => exact ⟨i, rfl, Nat.le_refl _, hij, HT.out, rfl⟩
 case round =>
  obtain ⟨i', rfl, hii, hij', hT1, HSC⟩ := hrel
  have hcw : ∀ t, t < d.size → wr.cell? ⟨g, off + t, none⟩ = some (.int .u8 (Gk t)) := fun t ht => by rw [AG.out]; exact hT1.cell t (by omega)
  have hfw : ∀ t, t < d.size → wr.frozen? ⟨g, off + t, none⟩ = false := fun t _ => hT1.free t
  have HT1 := uh hT1
  clear hT1
  by_cases hle : i' ≤ j
  · go_wp2_with fail
    go_big_quiet (first | (go_at_call 254; refine Calls.quiet_of_same (less8 _ _ _)))
    go_wp2
    · have ht : ltInt (Gk i') (Gk a) = true := by assumption
      go_roundw
      case rel => exact ⟨i' + 1, by go_num, by omega, by omega, HT1.out.drewN nq, (scanUp_go (fun x => ltInt x dk[a]!) dk j i' hle (by rw [← AG.out a, ← AG.out i']; exact ht)).symm.trans HSC.out⟩
      case measure => simp [intOf]; omega
    · have ht : ltInt (Gk i') (Gk a) = false := by assumption
      have hi2 : Hid (i' = scanUp (fun x => ltInt x dk[a]!) dk j i) := (scanUp_end (fun x => ltInt x dk[a]!) dk j i' (Or.inr (by rw [← AG.out a, ← AG.out i']; exact ht))).symm.trans HSC.out
      have HT2 := uh (HT1.out.drewN nq)
      clear ht hcw hfw HT1 HSC HT
      generalize wr.drewN nq = wd at HT2 ⊢
      go_loopw [11] (fun vj w2 => ∃ (j' : Nat), vj = .int .i64 j' ∧ j' ≤ j ∧ i' ≤ j' + 1 ∧ Ts .u8 5 g off c0 w0 dk X w2 ∧ Hid (scanDown (fun x => !ltInt x dk[a]!) dk i' j' = scanDown (fun x => !ltInt x dk[a]!) dk i' j)) (fun vj _ => (intOf vj).toNat)
      case atStart => exact ⟨j, rfl, Nat.le_refl _, hij', HT2.out, rfl⟩
      case round =>
       clear HT2
       obtain ⟨j', rfl, hjj, hij2, hT1, HSD⟩ := hrel
       have hcw : ∀ t, t < d.size → wr.cell? ⟨g, off + t, none⟩ = some (.int .u8 (Gk t)) := fun t ht => by rw [AG.out]; exact hT1.cell t (by omega)
       have hfw : ∀ t, t < d.size → wr.frozen? ⟨g, off + t, none⟩ = false := fun t _ => hT1.free t
       have HT1 := uh hT1
       clear hT1
       by_cases hle2 : i' ≤ j'
       · go_wp2_with fail
         go_big_quiet (first | (go_at_call 254; refine Calls.quiet_of_same (less8 _ _ _)))
         go_wp2
         · have ht : (!ltInt (Gk j') (Gk a)) = true := by assumption
           go_roundw
           case rel => exact ⟨j' - 1, by go_num, by omega, by omega, HT1.out.drewN nq, (scanDown_go (fun x => !ltInt x dk[a]!) dk i' j' hle2 (by omega) (by rw [← AG.out a, ← AG.out j']; exact ht)).symm.trans HSD.out⟩
           case measure => simp [intOf]; omega
         · have ht : (!ltInt (Gk j') (Gk a)) = false := by assumption
           have hj2 : Hid (j' = scanDown (fun x => !ltInt x dk[a]!) dk i' j) := (scanDown_end (fun x => !ltInt x dk[a]!) dk i' j' (Or.inr (by rw [← AG.out a, ← AG.out j']; exact ht))).symm.trans HSD.out
           have HT3 := uh (HT1.out.drewN nq)
           clear ht hcw hfw HT1 HSD
           generalize wr.drewN nq = W3 at HT3 ⊢
           have hc3 : ∀ t, t < d.size → W3.cell? ⟨g, off + t, none⟩ = some (.int .u8 (Gk t)) := fun t ht => by rw [AG.out]; exact HT3.out.cell t (by omega)
           have hf3 : ∀ t, t < d.size → W3.frozen? ⟨g, off + t, none⟩ = false := fun t _ => HT3.out.free t
           obtain ⟨v3, hy3⟩ := cell?_setCell_some (w := W3) (p := ⟨g, off + i', none⟩) (x := .int .u8 (Gk j')) (q := ⟨g, off + j', none⟩) (hc3 j' (by omega))
           have hlt3 := part_scans_lt ltInt a i j dk (by omega) hi2.out hj2.out hle2
           have HW4 := uh ((HT3.out.drewN 1).swp i' j' (by omega) (by omega) (AG.out j') (AG.out i'))
           go_wp2
           go_region
           all_goals go_wp2
           obtain ⟨R, hR⟩ : ∃ R, R = partLoop ltInt a (i' + 1) (j' - 1) (Sort.swp dk i' j') := ⟨_, rfl⟩
           have HP : Hid (partition ltInt d a b pivot = (R.1, false, Sort.swp R.2 R.1 a)) := by rw [hR]; exact part_first_go ltInt d a b pivot HI.out HJ.out HDK.out hi2.out hj2.out (by omega)
           have HR := uh hR
           clear hR hc3 hf3 hy3 AG hi2 hj2 HT3
           go_loopw [10, 11] (fun vi vj wr => ∃ (i j : Nat) (dk : Array Int), vi = .int .i64 i ∧ vj = .int .i64 j ∧ a < i ∧ i ≤ j + 1 ∧ j < b ∧ dk.size = d.size ∧ Ts .u8 5 g off c0 w0 dk X wr ∧ Hid (partLoop ltInt a i j dk = R))
            (fun vi vj _ => (intOf vj).toNat + 1 - (intOf vi).toNat)
           case atStart => exact ⟨i' + 1, j' - 1, Sort.swp dk i' j', by go_num, by go_num, by omega, by omega, by omega, by rw [size_swp]; exact hs, HW4.out, HR.out.symm⟩
           case round =>
            clear HW4 HR
            obtain ⟨i, j, dk, rfl, rfl, hai, hij, hjb, hs, hT0, AE⟩ := hrel
            obtain ⟨Gk, hG⟩ : ∃ Gk : Nat → Int, ∀ t, Gk t = dk[t]! := ⟨fun t => dk[t]!, fun _ => rfl⟩
            have AG := uh hG
            have HT := uh hT0
            clear hG hT0
            go_wp2
            go_loopw [10] (fun vi w1 => ∃ (i' : Nat), vi = .int .i64 i' ∧ i ≤ i' ∧ i' ≤ j + 1 ∧ Ts .u8 5 g off c0 w0 dk X w1 ∧ Hid (scanUp (fun x => ltInt x dk[a]!) dk j i' = scanUp (fun x => ltInt x dk[a]!) dk j i)) (fun vi _ => j + 1 - (intOf vi).toNat)
            case atStart => exact ⟨i, rfl, Nat.le_refl _, hij, HT.out, rfl⟩
            case round =>
             obtain ⟨i', rfl, hii, hij', hT1, HSC⟩ := hrel
             have hcw : ∀ t, t < d.size → wr.cell? ⟨g, off + t, none⟩ = some (.int .u8 (Gk t)) := fun t ht => by rw [AG.out]; exact hT1.cell t (by omega)
             have hfw : ∀ t, t < d.size → wr.frozen? ⟨g, off + t, none⟩ = false := fun t _ => hT1.free t
             have HT1 := uh hT1
             clear hT1
             by_cases hle : i' ≤ j
             · go_wp2_with fail
               go_big_quiet (first | (go_at_call 254; refine Calls.quiet_of_same (less8 _ _ _)))
               go_wp2
               · have ht : ltInt (Gk i') (Gk a) = true := by assumption
                 go_roundw
                 case rel => exact ⟨i' + 1, by go_num, by omega, by omega, HT1.out.drewN nq, (scanUp_go (fun x => ltInt x dk[a]!) dk j i' hle (by rw [← AG.out a, ← AG.out i']; exact ht)).symm.trans HSC.out⟩
                 case measure => simp [intOf]; omega
               · have ht : ltInt (Gk i') (Gk a) = false := by assumption
                 have hi2 : Hid (i' = scanUp (fun x => ltInt x dk[a]!) dk j i) := (scanUp_end (fun x => ltInt x dk[a]!) dk j i' (Or.inr (by rw [← AG.out a, ← AG.out i']; exact ht))).symm.trans HSC.out
                 have HT2 := uh (HT1.out.drewN nq)
                 clear ht hcw hfw HT1 HSC HT
                 generalize wr.drewN nq = wd at HT2 ⊢
                 go_loopw [11] (fun vj w2 => ∃ (j' : Nat), vj = .int .i64 j' ∧ j' ≤ j ∧ i' ≤ j' + 1 ∧ Ts .u8 5 g off c0 w0 dk X w2 ∧ Hid (scanDown (fun x => !ltInt x dk[a]!) dk i' j' = scanDown (fun x => !ltInt x dk[a]!) dk i' j)) (fun vj _ => (intOf vj).toNat)
                 case atStart => exact ⟨j, rfl, Nat.le_refl _, hij', HT2.out, rfl⟩
                 case round =>
                  clear HT2
                  obtain ⟨j', rfl, hjj, hij2, hT1, HSD⟩ := hrel
                  have hcw : ∀ t, t < d.size → wr.cell? ⟨g, off + t, none⟩ = some (.int .u8 (Gk t)) := fun t ht => by rw [AG.out]; exact hT1.cell t (by omega)
                  have hfw : ∀ t, t < d.size → wr.frozen? ⟨g, off + t, none⟩ = false := fun t _ => hT1.free t
                  have HT1 := uh hT1
                  clear hT1
                  by_cases hle2 : i' ≤ j'
                  · go_wp2_with fail
                    go_big_quiet (first | (go_at_call 254; refine Calls.quiet_of_same (less8 _ _ _)))
                    go_wp2
                    · have ht : (!ltInt (Gk j') (Gk a)) = true := by assumption
                      go_roundw
                      case rel => exact ⟨j' - 1, by go_num, by omega, by omega, HT1.out.drewN nq, (scanDown_go (fun x => !ltInt x dk[a]!) dk i' j' hle2 (by omega) (by rw [← AG.out a, ← AG.out j']; exact ht)).symm.trans HSD.out⟩
                      case measure => simp [intOf]; omega
                    · have ht : (!ltInt (Gk j') (Gk a)) = false := by assumption
                      have hj2 : Hid (j' = scanDown (fun x => !ltInt x dk[a]!) dk i' j) := (scanDown_end (fun x => !ltInt x dk[a]!) dk i' j' (Or.inr (by rw [← AG.out a, ← AG.out j']; exact ht))).symm.trans HSD.out
                      have HT3 := uh (HT1.out.drewN nq)
                      clear ht hcw hfw HT1 HSD
                      generalize wr.drewN nq = W3 at HT3 ⊢
                      have hc3 : ∀ t, t < d.size → W3.cell? ⟨g, off + t, none⟩ = some (.int .u8 (Gk t)) := fun t ht => by rw [AG.out]; exact HT3.out.cell t (by omega)
                      have hf3 : ∀ t, t < d.size → W3.frozen? ⟨g, off + t, none⟩ = false := fun t _ => HT3.out.free t
                      obtain ⟨v3, hy3⟩ := cell?_setCell_some (w := W3) (p := ⟨g, off + i', none⟩) (x := .int .u8 (Gk j')) (q := ⟨g, off + j', none⟩) (hc3 j' (by omega))
                      have hlt3 := part_scans_lt ltInt a i j dk (by omega) hi2.out hj2.out hle2
                      go_wp2
                      go_region
                      all_goals go_wp2
                      all_goals go_roundw
                      case rel => exact ⟨i' + 1, j' - 1, Sort.swp dk i' j', by go_num, by go_num, by omega, by omega, by omega, by rw [size_swp]; exact hs, (HT3.out.drewN 1).swp i' j' (by omega) (by omega) (AG.out _) (AG.out _), by show _ = _; rw [← AE.out]; exact (part_go ltInt a i j dk hi2.out hj2.out (by omega)).symm⟩
                      case measure => simp [intOf]; omega
                  · go_wp2_with fail
                    go_big_quiet (first | (go_at_call 254; refine Calls.quiet_of_same (less8 _ _ _)))
                    have hj2 : Hid (j' = scanDown (fun x => !ltInt x dk[a]!) dk i' j) := (scanDown_end (fun x => !ltInt x dk[a]!) dk i' j' (Or.inl hle2)).symm.trans HSD.out
                    have HT3 := uh (HT1.out.drewN nq)
                    clear hcw hfw HT1 HSD
                    generalize wr.drewN nq = W3 at HT3 ⊢
                    have hc3 : ∀ t, t < d.size → W3.cell? ⟨g, off + t, none⟩ = some (.int .u8 (Gk t)) := fun t ht => by rw [AG.out]; exact HT3.out.cell t (by omega)
                    have hf3 : ∀ t, t < d.size → W3.frozen? ⟨g, off + t, none⟩ = false := fun t _ => HT3.out.free t
                    obtain ⟨v3, hy3⟩ := cell?_setCell_some (w := W3) (p := ⟨g, off + j', none⟩) (x := .int .u8 (Gk a)) (q := ⟨g, off + a, none⟩) (hc3 a (by omega))
                    have HP2 := uh (by have e := part_break ltInt a i j dk hi2.out hj2.out (by omega); rw [AE.out] at e; have h := HP.out; rw [e] at h; exact h : partition ltInt d a b pivot = (j', false, Sort.swp dk j' a))
                    have HW3 := uh ((HT3.out.drewN 1).swp j' a (by omega) (by omega) (AG.out a) (AG.out j'))
                    go_wp2
                    go_region
                    all_goals go_wp2
                    refine bodyPost_ret (results_tmp2 rfl _ _ _) rfl ?_
                    exact ⟨by rw [HP2.out] <;> rfl, by rw [HP2.out]; exact HW3.out⟩
             · go_wp2_with fail
               go_big_quiet (first | (go_at_call 254; refine Calls.quiet_of_same (less8 _ _ _)))
               go_wp2
               have hi2 : Hid (i' = scanUp (fun x => ltInt x dk[a]!) dk j i) := (scanUp_end (fun x => ltInt x dk[a]!) dk j i' (Or.inl hle)).symm.trans HSC.out
               have HT2 := uh (HT1.out.drewN nq)
               clear hcw hfw HT1 HSC HT
               generalize wr.drewN nq = wd at HT2 ⊢
               go_loopw [11] (fun vj w2 => ∃ (j' : Nat), vj = .int .i64 j' ∧ j' ≤ j ∧ i' ≤ j' + 1 ∧ Ts .u8 5 g off c0 w0 dk X w2 ∧ Hid (scanDown (fun x => !ltInt x dk[a]!) dk i' j' = scanDown (fun x => !ltInt x dk[a]!) dk i' j)) (fun vj _ => (intOf vj).toNat)
               case atStart => exact ⟨j, rfl, Nat.le_refl _, hij', HT2.out, rfl⟩
               case round =>
                clear HT2
                obtain ⟨j', rfl, hjj, hij2, hT1, HSD⟩ := hrel
                have hcw : ∀ t, t < d.size → wr.cell? ⟨g, off + t, none⟩ = some (.int .u8 (Gk t)) := fun t ht => by rw [AG.out]; exact hT1.cell t (by omega)
                have hfw : ∀ t, t < d.size → wr.frozen? ⟨g, off + t, none⟩ = false := fun t _ => hT1.free t
                have HT1 := uh hT1
                clear hT1
                by_cases hle2 : i' ≤ j'
                · exfalso; omega
                · go_wp2_with fail
                  go_big_quiet (first | (go_at_call 254; refine Calls.quiet_of_same (less8 _ _ _)))
                  have hj2 : Hid (j' = scanDown (fun x => !ltInt x dk[a]!) dk i' j) := (scanDown_end (fun x => !ltInt x dk[a]!) dk i' j' (Or.inl hle2)).symm.trans HSD.out
                  have HT3 := uh (HT1.out.drewN nq)
                  clear hcw hfw HT1 HSD
                  generalize wr.drewN nq = W3 at HT3 ⊢
                  have hc3 : ∀ t, t < d.size → W3.cell? ⟨g, off + t, none⟩ = some (.int .u8 (Gk t)) := fun t ht => by rw [AG.out]; exact HT3.out.cell t (by omega)
                  have hf3 : ∀ t, t < d.size → W3.frozen? ⟨g, off + t, none⟩ = false := fun t _ => HT3.out.free t
                  obtain ⟨v3, hy3⟩ := cell?_setCell_some (w := W3) (p := ⟨g, off + j', none⟩) (x := .int .u8 (Gk a)) (q := ⟨g, off + a, none⟩) (hc3 a (by omega))
                  have HP2 := uh (by have e := part_break ltInt a i j dk hi2.out hj2.out (by omega); rw [AE.out] at e; have h := HP.out; rw [e] at h; exact h : partition ltInt d a b pivot = (j', false, Sort.swp dk j' a))
                  have HW3 := uh ((HT3.out.drewN 1).swp j' a (by omega) (by omega) (AG.out a) (AG.out j'))
                  go_wp2
                  go_region
                  all_goals go_wp2
                  refine bodyPost_ret (results_tmp2 rfl _ _ _) rfl ?_
                  exact ⟨by rw [HP2.out] <;> rfl, by rw [HP2.out]; exact HW3.out⟩
       · go_wp2_with fail
         go_big_quiet (first | (go_at_call 254; refine Calls.quiet_of_same (less8 _ _ _)))
         have hj2 : Hid (j' = scanDown (fun x => !ltInt x dk[a]!) dk i' j) := (scanDown_end (fun x => !ltInt x dk[a]!) dk i' j' (Or.inl hle2)).symm.trans HSD.out
         have HT3 := uh (HT1.out.drewN nq)
         clear hcw hfw HT1 HSD
         generalize wr.drewN nq = W3 at HT3 ⊢
         have hc3 : ∀ t, t < d.size → W3.cell? ⟨g, off + t, none⟩ = some (.int .u8 (Gk t)) := fun t ht => by rw [AG.out]; exact HT3.out.cell t (by omega)
         have hf3 : ∀ t, t < d.size → W3.frozen? ⟨g, off + t, none⟩ = false := fun t _ => HT3.out.free t
         obtain ⟨v3, hy3⟩ := cell?_setCell_some (w := W3) (p := ⟨g, off + j', none⟩) (x := .int .u8 (Gk a)) (q := ⟨g, off + a, none⟩) (hc3 a (by omega))
         have HP := uh (part_first_break ltInt d a b pivot HI.out HJ.out HDK.out hi2.out hj2.out (by omega))
         have HW3 := uh ((HT3.out.drewN 1).swp j' a (by omega) (by omega) (AG.out a) (AG.out j'))
         go_wp2
         go_region
         all_goals go_wp2
         refine bodyPost_ret (results_tmp2 rfl _ _ _) rfl ?_
         exact ⟨by rw [HP.out] <;> rfl, by rw [HP.out]; exact HW3.out⟩
  · go_wp2_with fail
    go_big_quiet (first | (go_at_call 254; refine Calls.quiet_of_same (less8 _ _ _)))
    go_wp2
    have hi2 : Hid (i' = scanUp (fun x => ltInt x dk[a]!) dk j i) := (scanUp_end (fun x => ltInt x dk[a]!) dk j i' (Or.inl hle)).symm.trans HSC.out
    have HT2 := uh (HT1.out.drewN nq)
    clear hcw hfw HT1 HSC HT
    generalize wr.drewN nq = wd at HT2 ⊢
    go_loopw [11] (fun vj w2 => ∃ (j' : Nat), vj = .int .i64 j' ∧ j' ≤ j ∧ i' ≤ j' + 1 ∧ Ts .u8 5 g off c0 w0 dk X w2 ∧ Hid (scanDown (fun x => !ltInt x dk[a]!) dk i' j' = scanDown (fun x => !ltInt x dk[a]!) dk i' j)) (fun vj _ => (intOf vj).toNat)
    case atStart => exact ⟨j, rfl, Nat.le_refl _, hij', HT2.out, rfl⟩
    case round =>
     clear HT2
     obtain ⟨j', rfl, hjj, hij2, hT1, HSD⟩ := hrel
     have hcw : ∀ t, t < d.size → wr.cell? ⟨g, off + t, none⟩ = some (.int .u8 (Gk t)) := fun t ht => by rw [AG.out]; exact hT1.cell t (by omega)
     have hfw : ∀ t, t < d.size → wr.frozen? ⟨g, off + t, none⟩ = false := fun t _ => hT1.free t
     have HT1 := uh hT1
     clear hT1
     by_cases hle2 : i' ≤ j'
     · exfalso; omega
     · go_wp2_with fail
       go_big_quiet (first | (go_at_call 254; refine Calls.quiet_of_same (less8 _ _ _)))
       have hj2 : Hid (j' = scanDown (fun x => !ltInt x dk[a]!) dk i' j) := (scanDown_end (fun x => !ltInt x dk[a]!) dk i' j' (Or.inl hle2)).symm.trans HSD.out
       have HT3 := uh (HT1.out.drewN nq)
       clear hcw hfw HT1 HSD
       generalize wr.drewN nq = W3 at HT3 ⊢
       have hc3 : ∀ t, t < d.size → W3.cell? ⟨g, off + t, none⟩ = some (.int .u8 (Gk t)) := fun t ht => by rw [AG.out]; exact HT3.out.cell t (by omega)
       have hf3 : ∀ t, t < d.size → W3.frozen? ⟨g, off + t, none⟩ = false := fun t _ => HT3.out.free t
       obtain ⟨v3, hy3⟩ := cell?_setCell_some (w := W3) (p := ⟨g, off + j', none⟩) (x := .int .u8 (Gk a)) (q := ⟨g, off + a, none⟩) (hc3 a (by omega))
       have HP := uh (part_first_break ltInt d a b pivot HI.out HJ.out HDK.out hi2.out hj2.out (by omega))
       have HW3 := uh ((HT3.out.drewN 1).swp j' a (by omega) (by omega) (AG.out a) (AG.out j'))
       go_wp2
       go_region
       all_goals go_wp2
       refine bodyPost_ret (results_tmp2 rfl _ _ _) rfl ?_
       exact ⟨by rw [HP.out] <;> rfl, by rw [HP.out]; exact HW3.out⟩
theorem ord28 (g off cap sb a b s : Nat) (c0 : Array Value) (w0 : World) (d : Array Int) (X : List Blk) (t : TypeId) (w : World) (hT : Ts .u8 5 g off c0 w0 d ((sb, .cells #[.int .i64 s] t (0, 0)) :: X) w) (ha : a < d.size) (hb : b < d.size) (hs : s < 4611686018427387904) :
  Calls Tryz.prog 301 #[.slice (some ⟨g, off, none⟩) d.size cap, .int .i64 a, .int .i64 b, .pointer (some ⟨sb, 0, none⟩)] w fun e w' => ∃ x y s' : Nat, e = .returned (.tuple #[.int .i64 x, .int .i64 y]) ∧ (x = a ∧ y = b ∨ x = b ∧ y = a) ∧ s' ≤ s + 1 ∧ Ts .u8 5 g off c0 w0 d ((sb, .cells #[.int .i64 s'] t (0, 0)) :: X) w' := by
 have ca := hT.cell a ha
 have cb := hT.cell b hb
 obtain ⟨x, hx⟩ : ∃ x, d[a]! = x := ⟨_, rfl⟩
 obtain ⟨y, hy⟩ : ∃ y, d[b]! = y := ⟨_, rfl⟩
 rw [hx] at ca
 rw [hy] at cb
 have cs : w.cell? ⟨sb, 0, none⟩ = some (.int .i64 s) := by simpa using hT.xcell (List.mem_cons_self ..) 0
 have fs : w.frozen? ⟨sb, 0, none⟩ = false := hT.xfree (List.mem_cons_self ..) 0
 have HT := uh hT
 have HT1 := uh ((hT.drewN 1).xset 0 (.int .i64 ((s + 1 : Nat) : Int)))
 clear hT hx hy
 go_enter Tryz.func301, Tryz.ntmps301
 go_wp2
 go_region_with (go_at_call 254; refine (less8 _ _ _).mono ?_; rintro e w' ⟨rfl, rfl⟩)
 all_goals (try go_wp2)
 all_goals first
  | (have hlt : ltInt y x = true := by assumption
     go_ret2
     exact ⟨b, a, s + 1, rfl, .inr ⟨rfl, rfl⟩, Nat.le_refl _, HT1.out⟩)
  | (have hlt : ltInt y x = false := by assumption
     go_ret2
     exact ⟨a, b, s, rfl, .inl ⟨rfl, rfl⟩, by omega, HT.out.drewN 1⟩)
theorem med8 (g off cap sb a b c s : Nat) (c0 : Array Value) (w0 : World) (d : Array Int) (X : List Blk) (t : TypeId) (w : World) (hT : Ts .u8 5 g off c0 w0 d ((sb, .cells #[.int .i64 s] t (0, 0)) :: X) w) (ha : a < d.size) (hb : b < d.size) (hc : c < d.size) (hs : s + 3 < 4611686018427387904) :
  Calls Tryz.prog 281 #[.slice (some ⟨g, off, none⟩) d.size cap, .int .i64 a, .int .i64 b, .int .i64 c, .pointer (some ⟨sb, 0, none⟩)] w fun e w' => ∃ x s' : Nat, e = .returned (.int .i64 x) ∧ (x = a ∨ x = b ∨ x = c) ∧ s' ≤ s + 3 ∧ Ts .u8 5 g off c0 w0 d ((sb, .cells #[.int .i64 s'] t (0, 0)) :: X) w' := by
 have C1 := uh (ord28 g off cap sb a b s c0 w0 d X t w hT ha hb (by omega))
 clear hT
 go_enter Tryz.func281, Tryz.ntmps281
 go_wp2_with fail
 refine C1.out.mono ?_
 rintro _ w1 ⟨x1, y1, s1, rfl, h1, l1, hT1⟩
 have C2 := uh (ord28 g off cap sb y1 c s1 c0 w0 d X t w1 hT1 (by omega) hc (by omega))
 clear hT1 C1
 go_wp2_with fail
 refine C2.out.mono ?_
 rintro _ w2 ⟨x2, y2, s2, rfl, h2, l2, hT2⟩
 have C3 := uh (ord28 g off cap sb x1 x2 s2 c0 w0 d X t w2 hT2 (by omega) (by omega) (by omega))
 clear hT2 C2
 go_wp2_with fail
 refine C3.out.mono ?_
 rintro _ w3 ⟨x3, y3, s3, rfl, h3, l3, hT3⟩
 have HT3 := uh hT3
 clear hT3 C3
 go_wp2_with fail
 go_ret
 exact ⟨y3, s3, rfl, by omega, by omega, HT3.out⟩
theorem adj8 (g off cap sb a s : Nat) (c0 : Array Value) (w0 : World) (d : Array Int) (X : List Blk) (t : TypeId) (w : World) (hT : Ts .u8 5 g off c0 w0 d ((sb, .cells #[.int .i64 s] t (0, 0)) :: X) w) (ha : 1 ≤ a) (hb : a + 1 < d.size) (hsz : d.size < 4611686018427387904) (hs : s + 3 < 4611686018427387904) :
  Calls Tryz.prog 280 #[.slice (some ⟨g, off, none⟩) d.size cap, .int .i64 a, .pointer (some ⟨sb, 0, none⟩)] w fun e w' => ∃ x s' : Nat, e = .returned (.int .i64 x) ∧ a - 1 ≤ x ∧ x ≤ a + 1 ∧ s' ≤ s + 3 ∧ Ts .u8 5 g off c0 w0 d ((sb, .cells #[.int .i64 s'] t (0, 0)) :: X) w' := by
 have C1 := uh (med8 g off cap sb (a - 1) a (a + 1) s c0 w0 d X t w hT (by omega) (by omega) hb hs)
 rw [show ((a - 1 : Nat) : Int) = (a : Int) - 1 by omega, show ((a + 1 : Nat) : Int) = (a : Int) + 1 by omega] at C1
 clear hT
 go_enter Tryz.func280, Tryz.ntmps280
 go_wp2_with fail
 refine C1.out.mono ?_
 rintro _ w1 ⟨x1, s1, rfl, h1, l1, hT1⟩
 have HT1 := uh hT1
 clear hT1 C1
 go_wp2_with fail
 go_ret
 exact ⟨x1, s1, rfl, by omega, by omega, l1, HT1.out⟩
theorem piv8 (g off cap a b : Nat) (c0 : Array Value) (w0 : World) (d : Array Int) (X : List Blk) (w : World) (hT : Ts .u8 5 g off c0 w0 d X w) (hab : a < b) (hb : b ≤ d.size) (hsz : d.size < 4611686018427387904) :
  Calls Tryz.prog 251 #[.slice (some ⟨g, off, none⟩) d.size cap, .int .i64 a, .int .i64 b] w fun e w' => ∃ p h : Nat, e = .returned (.tuple #[.int .i64 p, .int .i64 h]) ∧ a ≤ p ∧ p < b ∧ h ≤ 2 ∧ Ts .u8 5 g off c0 w0 d X w' := by
 have HT0 : Hid (Ts .u8 5 g off c0 w0 d ((w.heap.size, .cells #[.int .i64 ((0 : Nat) : Int)] 3 (0, 0)) :: X) (w.alloc (.cells #[.int .i64 0] 3))) := hT.alloc _
 have c0' : (w.alloc (.cells #[.int .i64 0] 3)).cell? ⟨w.heap.size, 0, none⟩ = some (.int .i64 0) := HT0.out.xcell (List.mem_cons_self ..) 0
 clear hT
 obtain ⟨I, hI⟩ : ∃ I : Nat, I = a + (b - a) / 4 * 1 := ⟨_, rfl⟩
 obtain ⟨J, hJ⟩ : ∃ J : Nat, J = a + (b - a) / 4 * 2 := ⟨_, rfl⟩
 obtain ⟨K, hK⟩ : ∃ K : Nat, K = a + (b - a) / 4 * 3 := ⟨_, rfl⟩
 have eI : ((a : Int) + ((b : Int) - (a : Int)) / 4) = (I : Int) := by omega
 have eJ : ((a : Int) + ((b : Int) - (a : Int)) / 4 * 2) = (J : Int) := by omega
 have eK : ((a : Int) + ((b : Int) - (a : Int)) / 4 * 3) = (K : Int) := by omega
 by_cases h8 : b - a ≥ 8
 · by_cases h50 : b - a ≥ 50
   · have hb1 : a < I ∧ I + 1 < b ∧ a < J ∧ J + 1 < b ∧ a < K ∧ K + 1 < b := by omega
     obtain ⟨b1, b2, b3, b4, b5, b6⟩ := hb1
     clear hI hJ hK
     have C1 := uh (adj8 g off cap _ I 0 c0 w0 d X _ _ HT0.out (by omega) (by omega) hsz (by omega))
     clear HT0
     go_enter Tryz.func251, Tryz.ntmps251
     go_wp2_with fail
     refine C1.out.mono ?_
     rintro _ w1 ⟨i1, s1, rfl, h1, h1', l1, hT1⟩
     have C2 := uh (adj8 g off cap _ J s1 c0 w0 d X _ _ hT1 (by omega) (by omega) hsz (by omega))
     clear hT1 C1 c0'
     go_wp2_with fail
     refine C2.out.mono ?_
     rintro _ w2 ⟨j1, s2, rfl, h2, h2', l2, hT2⟩
     have C3 := uh (adj8 g off cap _ K s2 c0 w0 d X _ _ hT2 (by omega) (by omega) hsz (by omega))
     clear hT2 C2
     go_wp2_with fail
     refine C3.out.mono ?_
     rintro _ w3 ⟨k1, s3, rfl, h3, h3', l3, hT3⟩
     have C4 := uh (med8 g off cap _ i1 j1 k1 s3 c0 w0 d X _ _ hT3 (by omega) (by omega) (by omega) (by omega))
     clear hT3 C3
     go_wp2_with fail
     refine C4.out.mono ?_
     rintro _ w4 ⟨p, s, rfl, h4, l4, hT4⟩
     have cs : w4.cell? ⟨w.heap.size, 0, none⟩ = some (.int .i64 s) := by simpa using hT4.xcell (List.mem_cons_self ..) 0
     have hp : a ≤ p ∧ p < b := by omega
     have HT4 := uh (hT4.less (List.sublist_cons_self _ X))
     clear hT4 C4 eI eJ eK h1 h1' h2 h2' h3 h3' h4
     go_wp2_with fail
     all_goals
      go_ret2
      first
       | exact ⟨p, 1, rfl, hp.1, hp.2, by omega, HT4.out⟩
       | exact ⟨p, 2, rfl, hp.1, hp.2, by omega, HT4.out⟩
       | exact ⟨p, 0, rfl, hp.1, hp.2, by omega, HT4.out⟩
   · have hb1 : a ≤ I ∧ I < b ∧ a ≤ J ∧ J < b ∧ a ≤ K ∧ K < b := by omega
     obtain ⟨b1, b2, b3, b4, b5, b6⟩ := hb1
     clear hI hJ hK
     have C4 := uh (med8 g off cap _ I J K 0 c0 w0 d X _ _ HT0.out (by omega) (by omega) (by omega) (by omega))
     clear HT0
     go_enter Tryz.func251, Tryz.ntmps251
     go_wp2_with fail
     refine C4.out.mono ?_
     rintro _ w4 ⟨p, s, rfl, h4, l4, hT4⟩
     have cs : w4.cell? ⟨w.heap.size, 0, none⟩ = some (.int .i64 s) := by simpa using hT4.xcell (List.mem_cons_self ..) 0
     have hp : a ≤ p ∧ p < b := by omega
     have HT4 := uh (hT4.less (List.sublist_cons_self _ X))
     clear hT4 C4 eI eJ eK h4 c0'
     go_wp2_with fail
     all_goals
      go_ret2
      first
       | exact ⟨p, 1, rfl, hp.1, hp.2, by omega, HT4.out⟩
       | exact ⟨p, 2, rfl, hp.1, hp.2, by omega, HT4.out⟩
       | exact ⟨p, 0, rfl, hp.1, hp.2, by omega, HT4.out⟩
 · have HT4 := uh (HT0.out.less (List.sublist_cons_self _ X))
   have hp : a ≤ J ∧ J < b := by omega
   clear HT0 hI hJ hK
   go_enter Tryz.func251, Tryz.ntmps251
   go_wp2_with fail
   go_ret2
   exact ⟨J, 1, rfl, hp.1, hp.2, by omega, HT4.out⟩
theorem parx8 (g off cap a b : Nat) (c0 : Array Value) (w0 : World) (d : Array Int) (X : List Blk) (w : World) (hT : Ts .u8 5 g off c0 w0 d X w) (hab : a < b) (hb : b ≤ d.size) (hsz : d.size < 4611686018427387904) :
  Calls Tryz.prog 253 #[.slice (some ⟨g, off, none⟩) d.size cap, .int .i64 a, .int .i64 b] w fun e w' => e = .returned (.bool (partialInsertionSort ltInt d a b).2) ∧ Ts .u8 5 g off c0 w0 (partialInsertionSort ltInt d a b).1 X w' := by
 have HT := uh hT
 clear hT
 go_enter Tryz.func253, Tryz.ntmps253
 go_wp2
 go_loopw [7, 8] (fun vi vs wr => ∃ (i s : Nat) (dk : Array Int), vi = .int .i64 i ∧ vs = .int .i64 s ∧ s ≤ 5 ∧ a < i ∧ i ≤ b ∧ dk.size = d.size ∧ Ts .u8 5 g off c0 w0 dk X wr ∧ partialIns ltInt a b (5 - s) i dk = partialIns ltInt a b 5 (a + 1) d) (fun _ vs _ => 5 - (intOf vs).toNat)
 case atStart => exact ⟨a + 1, 0, d, by go_num, rfl, by omega, by omega, by omega, rfl, HT.out, rfl⟩
 case round =>
  clear HT
  obtain ⟨i, s, dk, rfl, rfl, hs5, hai, hib, hsk, hT, hO⟩ := hrel
  have HO := uh hO
  have HT := uh hT
  clear hO hT
  by_cases hs : s < 5
  · go_wp2
    go_loopw [7] (fun vi wr2 => ∃ (k : Nat), vi = .int .i64 k ∧ i ≤ k ∧ k ≤ b ∧ Ts .u8 5 g off c0 w0 dk X wr2 ∧ scanSorted ltInt dk b k = scanSorted ltInt dk b i) (fun vi _ => b - (intOf vi).toNat)
    case atStart => exact ⟨i, rfl, Nat.le_refl _, hib, HT.out, rfl⟩
    case round =>
     clear HT
     obtain ⟨k, rfl, hik, hkb, hT2, hS⟩ := hrel
     obtain ⟨G, hG⟩ : ∃ G : Nat → Int, ∀ t, G t = dk[t]! := ⟨fun t => dk[t]!, fun _ => rfl⟩
     have hcw : ∀ t, t < d.size → wr.cell? ⟨g, off + t, none⟩ = some (.int .u8 (G t)) := fun t ht => by rw [hG]; exact hT2.cell t (by omega)
     have hfw : ∀ t, t < d.size → wr.frozen? ⟨g, off + t, none⟩ = false := fun t _ => hT2.free t
     have HG := uh hG
     have HT2 := uh hT2
     have HS := uh hS
     clear hT2 hG hS
     go_wp2
     by_cases hkb' : k < b
     · by_cases h50 : b - a < 50
       · go_quiet (first | (go_at_call 254; refine Calls.quiet_of_same (less8 _ _ _)))
         go_wp2
         · have hl : ltInt (G k) (G (k - 1)) = false := by
             have h : (!ltInt (G k) (G (k - 1))) = true := by assumption
             simpa using h
           go_roundw
           case rel => exact ⟨k + 1, by go_num, by omega, by omega, HT2.out.drewN _, by rw [← HS.out, scanSorted_go ltInt dk b k hkb' (by rw [← HG.out, ← HG.out]; exact hl)]⟩
           case measure => simp [intOf]; omega
         · have hl : ltInt (G k) (G (k - 1)) = true := by
             have h : (!ltInt (G k) (G (k - 1))) = false := by assumption
             simpa using h
           have hv : partialInsertionSort ltInt d a b = (dk, false) := by
            unfold partialInsertionSort
            rw [← HO.out, pi_short ltInt a b s i dk hs (by rw [← HS.out, scanSorted_stop ltInt dk b k (Or.inr (by rw [← HG.out, ← HG.out]; exact hl))]; omega) (by omega)]
           rw [hv]
           go_ret
           exact ⟨rfl, HT2.out.drewN _⟩
       · go_quiet (first | (go_at_call 254; refine Calls.quiet_of_same (less8 _ _ _)))
         go_wp2
         · have hl : ltInt (G k) (G (k - 1)) = false := by
             have h : (!ltInt (G k) (G (k - 1))) = true := by assumption
             simpa using h
           go_roundw
           case rel => exact ⟨k + 1, by go_num, by omega, by omega, HT2.out.drewN _, by rw [← HS.out, scanSorted_go ltInt dk b k hkb' (by rw [← HG.out, ← HG.out]; exact hl)]⟩
           case measure => simp [intOf]; omega
         · have hl : ltInt (G k) (G (k - 1)) = true := by
             have h : (!ltInt (G k) (G (k - 1))) = false := by assumption
             simpa using h
           have HK : Hid (scanSorted ltInt dk b i = k) := (HS.out.symm.trans (scanSorted_stop ltInt dk b k (Or.inr (by rw [← HG.out, ← HG.out]; exact hl))))
           have hs1 : (Sort.swp dk k (k - 1)).size = d.size := by rw [size_swp]; exact hsk
           go_region
           have HW := uh ((HT2.out.drewN (nq + 1)).swp k (k - 1) (by omega) (by omega) (HG.out _) (HG.out _))
           clear HT2 HG hcw hfw HS hl
           generalize ((wr.drewN (nq + 1)).setCell ⟨g, off + k, none⟩ (.int .u8 (G (k - 1)))).setCell ⟨g, off + (k - 1), none⟩ (.int .u8 (G k)) = W3 at *
           go_upto_if 61 with fail
           go_cut [] from 14 to 132 (fun wx => ∃ dj : Array Int, dj.size = d.size ∧ fixDown ltInt a k (Sort.swp dk k (k - 1)) = dj ∧ Ts .u8 5 g off c0 w0 dj X wx)
           case first =>
            by_cases hka : k - a ≥ 2
            · go_wp2
              go_loopw [9] (fun vj wr2 => ∃ (j : Nat) (dj : Array Int), vj = .int .i64 j ∧ j ≤ k - 1 ∧ dj.size = d.size ∧ Ts .u8 5 g off c0 w0 dj X wr2 ∧ shiftDown ltInt (j) dj = shiftDown ltInt (k - 1) (Sort.swp dk k (k - 1))) (fun vj _ => (intOf vj).toNat)
              case atStart => exact ⟨k - 1, (Sort.swp dk k (k - 1)), by first | rfl | (congr 1; omega) | go_num, Nat.le_refl _, hs1, HW.out, rfl⟩
              case round =>
               obtain ⟨j, dj, rfl, hjk, hsj, hTj, hDn⟩ := hrel
               obtain ⟨G, hG⟩ : ∃ G : Nat → Int, ∀ t, G t = dj[t]! := ⟨fun t => dj[t]!, fun _ => rfl⟩
               have hcw : ∀ t, t < d.size → wr.cell? ⟨g, off + t, none⟩ = some (.int .u8 (G t)) := fun t ht => by rw [hG]; exact hTj.cell t (by omega)
               have hfw : ∀ t, t < d.size → wr.frozen? ⟨g, off + t, none⟩ = false := fun t _ => hTj.free t
               have HG := uh hG
               have HTj := uh hTj
               have HDn := uh hDn
               clear hTj hG hDn HW
               by_cases hc : 1 ≤ j
               · go_wp2
                 go_quiet (first | (go_at_call 254; refine Calls.quiet_of_same (less8 _ _ _)))
                 go_wp2
                 · have hl : ltInt (G j) (G (j - 1)) = false := by
                     have h : (!ltInt (G j) (G (j - 1))) = true := by assumption
                     simpa using h
                   go_meet
                   case rel => exact ⟨dj, hsj, by unfold fixDown; rw [if_pos hka, ← HDn.out, shiftDown_stop ltInt j dj (Or.inr (by rw [← HG.out, ← HG.out]; exact hl))], HTj.out.drewN _⟩
                 · have hl : ltInt (G j) (G (j - 1)) = true := by
                     have h : (!ltInt (G j) (G (j - 1))) = false := by assumption
                     simpa using h
                   go_region
                   all_goals go_wp2
                   go_roundw
                   case rel => exact ⟨j - 1, Sort.swp dj j (j - 1), by first | go_num | (congr 1; omega), by omega, by rw [size_swp]; exact hsj, ((HTj.out.drewN (nq + 1)).swp j (j - 1) (by omega) (by omega) (HG.out _) (HG.out _)), by rw [← HDn.out, shiftDown_go ltInt j dj (by omega) (by rw [← HG.out, ← HG.out]; exact hl)]⟩
                   case measure => simp [intOf]; omega
               · go_wp2
                 go_meet
                 case rel => exact ⟨dj, hsj, by unfold fixDown; rw [if_pos hka, ← HDn.out, shiftDown_stop ltInt j dj (Or.inl (by omega))], HTj.out⟩
            · go_wp2
              go_meet
              case rel => exact ⟨_, hs1, by unfold fixDown; rw [if_neg hka], HW.out⟩
           case rest =>
            obtain ⟨dj0, hsj0, hFD, hTj0⟩ := hcut
            have HD := uh hFD
            have HTj0 := uh hTj0
            clear hFD hTj0 HW
            by_cases hbk : b - k ≥ 2
            · go_wp2
              go_loopw [10] (fun vj wr2 => ∃ (j : Nat) (dj : Array Int), vj = .int .i64 j ∧ k + 1 ≤ j ∧ j ≤ b ∧ dj.size = d.size ∧ Ts .u8 5 g off c0 w0 dj X wr2 ∧ shiftUp ltInt b (j) dj = shiftUp ltInt b (k + 1) dj0) (fun vj _ => b - (intOf vj).toNat)
              case atStart => exact ⟨k + 1, dj0, by first | rfl | (congr 1; omega) | go_num, Nat.le_refl _, by omega, hsj0, HTj0.out, rfl⟩
              case round =>
               obtain ⟨j, dj, rfl, hkj, hjb, hsj, hTj, hDn⟩ := hrel
               obtain ⟨G, hG⟩ : ∃ G : Nat → Int, ∀ t, G t = dj[t]! := ⟨fun t => dj[t]!, fun _ => rfl⟩
               have hcw : ∀ t, t < d.size → wr.cell? ⟨g, off + t, none⟩ = some (.int .u8 (G t)) := fun t ht => by rw [hG]; exact hTj.cell t (by omega)
               have hfw : ∀ t, t < d.size → wr.frozen? ⟨g, off + t, none⟩ = false := fun t _ => hTj.free t
               have HG := uh hG
               have HTj := uh hTj
               have HDn := uh hDn
               clear hTj hG hDn HTj0
               by_cases hc : j < b
               · go_wp2
                 go_quiet (first | (go_at_call 254; refine Calls.quiet_of_same (less8 _ _ _)))
                 go_wp2
                 · have hl : ltInt (G j) (G (j - 1)) = false := by
                     have h : (!ltInt (G j) (G (j - 1))) = true := by assumption
                     simpa using h
                   go_roundw
                   case rel => exact ⟨k, s + 1, dj, rfl, by go_num, by omega, by omega, by omega, hsj, HTj.out.drewN _, by rw [← HO.out, pi_go ltInt a b s i k dk hs HK.out (by omega) (by omega), HD.out]; unfold fixUp; rw [if_pos (by omega), ← HDn.out, shiftUp_stop ltInt b j dj (Or.inr (by rw [← HG.out, ← HG.out]; exact hl))]⟩
                   case measure => simp [intOf]; omega
                 · have hl : ltInt (G j) (G (j - 1)) = true := by
                     have h : (!ltInt (G j) (G (j - 1))) = false := by assumption
                     simpa using h
                   go_region
                   all_goals go_wp2
                   go_roundw
                   case rel => exact ⟨j + 1, Sort.swp dj j (j - 1), by first | go_num | (congr 1; omega), by omega, by omega, by rw [size_swp]; exact hsj, ((HTj.out.drewN (nq + 1)).swp j (j - 1) (by omega) (by omega) (HG.out _) (HG.out _)), by rw [← HDn.out, shiftUp_go ltInt b j dj (by omega) (by rw [← HG.out, ← HG.out]; exact hl)]⟩
                   case measure => simp [intOf]; omega
               · go_wp2
                 go_roundw
                 case rel => exact ⟨k, s + 1, dj, rfl, by go_num, by omega, by omega, by omega, hsj, HTj.out, by rw [← HO.out, pi_go ltInt a b s i k dk hs HK.out (by omega) (by omega), HD.out]; unfold fixUp; rw [if_pos (by omega), ← HDn.out, shiftUp_stop ltInt b j dj (Or.inl (by omega))]⟩
                 case measure => simp [intOf]; omega
            · go_wp2
              go_roundw
              case rel => exact ⟨k, s + 1, dj0, rfl, by go_num, by omega, by omega, by omega, hsj0, HTj0.out, by rw [← HO.out, pi_go ltInt a b s i k dk hs HK.out (by omega) (by omega), HD.out]; unfold fixUp; rw [if_neg (by omega)]⟩
              case measure => simp [intOf]; omega
     · go_quiet (first | (go_at_call 254; refine Calls.quiet_of_same (less8 _ _ _)))
       go_wp2
       obtain rfl : k = b := by omega
       have hv : partialInsertionSort ltInt d a k = (dk, true) := by
        unfold partialInsertionSort
        rw [← HO.out, pi_true ltInt a k s i dk hs (by rw [← HS.out, scanSorted_stop ltInt dk k k (Or.inl (by omega))])]
       rw [hv]
       go_ret
       exact ⟨rfl, HT2.out.drewN _⟩
  · obtain rfl : s = 5 := by omega
    go_wp2
    have hv : partialInsertionSort ltInt d a b = (dk, false) := by
     unfold partialInsertionSort
     rw [← HO.out, pi_end]
    rw [hv]
    go_ret
    exact ⟨rfl, HT.out⟩
theorem par8 (g off cap a b : Nat) (c0 : Array Value) (w0 : World) (d : Array Int) (X : List Blk) (w : World) (hT : Ts .u8 5 g off c0 w0 d X w) (hab : a < b) (hb : b ≤ d.size) (hsz : d.size < 4611686018427387904) (hB : Below ltInt a b d) :
  Calls Tryz.prog 253 #[.slice (some ⟨g, off, none⟩) d.size cap, .int .i64 a, .int .i64 b] w fun e w' => ∃ (r : Bool) (d' : Array Int), e = .returned (.bool r) ∧ PermIn a b d d' ∧ (r = true → SortedIn ltInt a b d') ∧ Ts .u8 5 g off c0 w0 d' X w' := by
 have h := partialInsertionSort_holds swo d a b hab hb hB
 refine (parx8 g off cap a b c0 w0 d X w hT hab hb hsz).mono ?_
 rintro e w' ⟨rfl, h2⟩
 exact ⟨_, _, rfl, h.1, h.2, h2⟩
end
section
open Go Go.RowKit Go.Sort Go.Shelf
theorem blen (n : Nat) (hn : n < 4611686018427387904) (w : World) : Calls Tryz.prog 220 #[.int .u64 n] w fun e w' => e = .returned (.int .i64 (bitsLen n : Nat)) ∧ w' = w :=
 calls_of_every_depth fun D => lenWalkInAllM { Tryz.sortA with } D n w hn
theorem xnext (rb X : Nat) (hX : X < 18446744073709551616) (w : World) (hc : w.cell? ⟨rb, 0, none⟩ = some (.int .u64 X)) (hf : w.frozen? ⟨rb, 0, none⟩ = false) :
  Calls Tryz.prog 279 #[.pointer (some ⟨rb, 0, none⟩)] w fun e w' => e = .returned (.int .u64 (xorNextN X : Nat)) ∧ w' = (w.setCell ⟨rb, 0, none⟩ (.int .u64 (xorNextN X : Nat))).drewN 3 :=
 calls_of_every_depth fun D => AnySM.xorshift_NextIn { Tryz.sortA with } D rb 0 X hX w hc hf
theorem npow2 (n : Nat) (hn : n < 4611686018427387904) (w : World) : Calls Tryz.prog 278 #[.int .i64 n] w fun e w' => e = .returned (.int .u64 ((1 <<< bitsLen n : Nat) : Int)) ∧ w' = w :=
 calls_of_every_depth fun D => AnySM.nextPowerOfTwoIn { Tryz.sortA with } D n hn w
end
section
open Go Go.RowKit Go.Sort
theorem brk8 (g off cap a b : Nat) (c0 : Array Value) (w0 : World) (d : Array Int) (X : List Blk) (w : World) (hT : Ts .u8 5 g off c0 w0 d X w) (hab : a ≤ b) (hb : b ≤ d.size) (hsz : d.size < 4611686018427387904) :
  Calls Tryz.prog 250 #[.slice (some ⟨g, off, none⟩) d.size cap, .int .i64 a, .int .i64 b] w fun e w' => e = .returned (.tuple #[]) ∧ ∃ d', PermIn a b d d' ∧ Ts .u8 5 g off c0 w0 d' X w' := by
 obtain ⟨L, rfl⟩ : ∃ L, b = a + L := ⟨b - a, by omega⟩
 by_cases h8 : 8 ≤ L
 · obtain ⟨M, hM⟩ : ∃ M : Nat, M = 1 <<< bitsLen L := ⟨_, rfl⟩
   have hM1 : 1 ≤ M := by rw [hM, Nat.one_shiftLeft]; exact Nat.two_pow_pos _
   have hM2 : M ≤ 2 * L := by rw [hM, Nat.one_shiftLeft]; exact two_pow_bitsLen_le (by omega)
   have hNP := uh (fun w => npow2 L (by omega) w)
   rw [← hM] at hNP
   have HT0 := uh (hT.alloc (.cells #[.int .u64 ((L : Nat) : Int)] 398))
   clear hT hM
   go_enter Tryz.func250, Tryz.ntmps250
   go_wp2_with (first | (go_at_call 278; rw [show ((a : Int) + (L : Int) - (a : Int)) = (L : Int) by omega]; refine (hNP.out _).mono ?_; rintro e w' ⟨rfl, rfl⟩))
   go_loopw [9] (fun vi wr => ∃ (t R : Nat) (dk : Array Int), vi = .int .i64 ((a + L / 4 * 2 - 1 + t : Nat) : Int) ∧ t ≤ 3 ∧ R < 18446744073709551616 ∧ PermIn a (a + L) d dk ∧
    Ts .u8 5 g off c0 w0 dk ((w.heap.size, .cells #[.int .u64 (R : Int)] 398 (0, 0)) :: X) wr) (fun vi _ => a + L / 4 * 2 + 3 - (intOf vi).toNat)
   case atStart => exact ⟨0, L, d, by congr 1; omega, by omega, by omega, permIn_refl _ _ _, HT0.out⟩
   case round =>
    clear HT0
    obtain ⟨t, R, dk, rfl, ht, lR, hP, hT⟩ := hrel
    have hsk : dk.size = d.size := hP.1
    obtain ⟨R', hR'⟩ : ∃ R' : Nat, R' = xorNextN R := ⟨_, rfl⟩
    have lR' : R' < 18446744073709551616 := by rw [hR']; exact xorNextN_lt R lR
    obtain ⟨O, hO⟩ : ∃ O : Nat, O = R' &&& (M - 1) := ⟨_, rfl⟩
    have lO : O ≤ M - 1 := by rw [hO]; exact Nat.and_le_right
    have eAnd : bits .and .u64 (R' : Int) ((M : Int) - 1) = (O : Int) := by
     rw [show ((M : Int) - 1) = ((M - 1 : Nat) : Int) by omega, bits_and_u64_nat _ _ lR' (by omega), hO]
    obtain ⟨G, hG⟩ : ∃ G : Nat → Int, ∀ x, G x = dk[x]! := ⟨fun x => dk[x]!, fun _ => rfl⟩
    have HT1 : Hid (Ts .u8 5 g off c0 w0 dk ((w.heap.size, .cells #[.int .u64 (R' : Int)] 398 (0, 0)) :: X) ((wr.setCell ⟨w.heap.size, 0, none⟩ (.int .u64 (R' : Int))).drewN 3)) := (hT.xset 0 (.int .u64 (R' : Int))).drewN 3
    have hNext := uh (xnext w.heap.size R lR wr (by simpa using hT.xcell (List.mem_cons_self ..) 0) (hT.xfree (List.mem_cons_self ..) 0))
    rw [← hR'] at hNext
    have HT := uh hT
    have HG := uh hG
    have HP := uh hP
    clear hG hT hP hR' hO
    go_wp2_with fail
    · refine hNext.out.mono ?_
      rintro e w' ⟨rfl, hw⟩
      rw [← hw] at HT1
      clear hw hNext HT
      have hcw : ∀ x, x < d.size → w'.cell? ⟨g, off + x, none⟩ = some (.int .u8 (G x)) := fun x hx => by rw [HG.out]; exact HT1.out.cell x (by omega)
      have hfw : ∀ x, x < d.size → w'.frozen? ⟨g, off + x, none⟩ = false := fun x _ => HT1.out.free x
      have SW := uh (fun (k : Nat) (hk : k < L) => (And.intro (permIn_trans _ _ _ a (a + L) HP.out (swp_permIn dk a (a + L) (a + L / 4 * 2 - 1 + t) (a + k) (by omega) (by omega) (by omega) (by omega) (by omega)))
       ((HT1.out.drewN 1).swp (a + L / 4 * 2 - 1 + t) (a + k) (by omega) (by omega) (HG.out _) (HG.out _))))
      clear HP HT1
      go_wp2_with fail
      · have hLO : L ≤ O := by omega
        by_cases hEq : a + L / 4 * 2 - 1 + t = a + (O - L)
        all_goals
         go_region
         all_goals go_wp2
         go_roundw
         case rel => exact ⟨t + 1, R', Sort.swp dk (a + L / 4 * 2 - 1 + t) (a + (O - L)), by first | rfl | (congr 1 <;> omega), by omega, lR', (SW.out (O - L) (by omega)).1, by (try rw [hEq]); (try rw [hEq] at SW); exact (SW.out (O - L) (by omega)).2⟩
         case measure => simp [intOf]; omega
      · have hLO : ¬ L ≤ O := by omega
        by_cases hEq : a + L / 4 * 2 - 1 + t = a + O
        all_goals
         go_region
         all_goals go_wp2
         go_roundw
         case rel => exact ⟨t + 1, R', Sort.swp dk (a + L / 4 * 2 - 1 + t) (a + O), by first | rfl | (congr 1 <;> omega), by omega, lR', (SW.out O (by omega)).1, by (try rw [hEq]); (try rw [hEq] at SW); exact (SW.out O (by omega)).2⟩
         case measure => simp [intOf]; omega
    · obtain rfl : t = 3 := by omega
      go_end0
      exact ⟨rfl, dk, HP.out, HT.out.less (List.sublist_cons_self _ X)⟩
 · have HT := uh hT
   clear hT
   go_enter Tryz.func250, Tryz.ntmps250
   go_wp2
   go_end0
   exact ⟨rfl, d, permIn_refl _ _ _, HT.out⟩
theorem pdq8 : ∀ (n g off cap : Nat) (c0 : Array Value) (w0 : World) (d : Array Int) (X : List Blk) (a b limit : Nat) (w : World), b - a < n → Ts .u8 5 g off c0 w0 d X w → a ≤ b → b ≤ d.size → d.size < 4611686018427387904 → limit < 4611686018427387904 → Below ltInt a b d →
  Calls Tryz.prog 219 #[.slice (some ⟨g, off, none⟩) d.size cap, .int .i64 a, .int .i64 b, .int .i64 limit] w fun e w' => e = .returned (.tuple #[]) ∧ ∃ d', (PermIn a b d d' ∧ SortedIn ltInt a b d') ∧ Ts .u8 5 g off c0 w0 d' X w' := by
 intro n
 induction n with
 | zero => intro _ _ _ _ _ _ _ _ _ _ _ h; exact absurd h (Nat.not_lt_zero _)
 | succ n ih =>
  intro g off cap c0 w0 d X a b limit w hN hT hab hb hsz hlimit hBel0
  have HT := uh hT
  have HB := uh hBel0
  have IH := uh ih
  clear hT hBel0 ih
  go_enter Tryz.func219, Tryz.ntmps219
  go_wp2
  go_loopg [1, 2, 3, 8, 9] (b - a) (fun k s1 s2 s3 s8 s9 wr => ∃ (a' b' lim : Nat) (wb wp : Bool) (dk : Array Int), s1 = .int .i64 a' ∧ s2 = .int .i64 b' ∧ s3 = .int .i64 lim ∧ s8 = .bool wb ∧ s9 = .bool wp ∧
   a' ≤ b' ∧ b' ≤ d.size ∧ b' - a' ≤ k ∧ k ≤ b - a ∧ lim ≤ limit ∧ dk.size = d.size ∧ Below ltInt a' b' dk ∧ Ts .u8 5 g off c0 w0 dk X wr ∧ SFin a b d a' b' dk)
  case atStart => exact ⟨a, b, limit, true, true, d, rfl, rfl, rfl, rfl, rfl, hab, hb, Nat.le_refl _, Nat.le_refl _, Nat.le_refl _, rfl, HB.out, HT.out, SFin.refl⟩
  case round =>
   clear HT HB
   obtain ⟨a', b', lim, wb, wp, dk, rfl, rfl, rfl, rfl, rfl, hab', hb', hk, hkN, hlim, hds, hBel, hT, hF⟩ := hrel
   have HF := uh hF
   have HBel := uh hBel
   have HT := uh hT
   clear hF hBel hT
   by_cases h12 : b' - a' ≤ 12
   · have h12z : (b' : Int) - (a' : Int) ≤ 12 := by omega
     have hc := ins8 g off cap a' b' c0 w0 dk X wr HT.out hab' (by omega) (by omega)
     rw [hds] at hc
     have HC := uh hc
     clear hc HT
     go_wp2_with fail
     refine HC.out.mono ?_
     rintro e w1 ⟨rfl, hT1⟩
     have HT1 := uh hT1
     clear hT1 HC
     go_wp2_with fail
     (try simp only [Exit.inBlock, Exit.then]); refine bodyPost_ret (results_none rfl _ _ _) rfl ?_
     exact ⟨rfl, _, HF.out.ins hab' (by omega), HT1.out⟩
   · have h12z : ¬ ((b' : Int) - (a' : Int) ≤ 12) := by omega
     by_cases hl0 : lim = 0
     · subst hl0
       have hc := heap8 g off cap c0 w0 dk X a' b' wr HT.out hab' (by omega) (by omega)
       rw [hds] at hc
       have HC := uh hc
       clear hc HT
       go_wp2_with fail
       refine HC.out.mono ?_
       rintro e w1 ⟨rfl, hT1⟩
       have HT1 := uh hT1
       clear hT1 HC
       go_wp2_with fail
       (try simp only [Exit.inBlock, Exit.then]); refine bodyPost_ret (results_none rfl _ _ _) rfl ?_
       exact ⟨rfl, _, HF.out.heap hab' (by omega), HT1.out⟩
     · have hl0z : ¬ ((lim : Int) = 0) := by omega
       go_upto_if 35 with fail
       go_cut [3] from 19 (fun s3 wc => ∃ (lim2 : Nat) (d1 : Array Int), s3 = .int .i64 lim2 ∧ lim2 ≤ lim ∧ PermIn a' b' dk d1 ∧ Ts .u8 5 g off c0 w0 d1 X wc)
       case first =>
        cases wb
        · have hc := brk8 g off cap a' b' c0 w0 dk X wr HT.out hab' (by omega) (by omega)
          rw [hds] at hc
          have HC := uh hc
          clear hc HT
          go_wp2_with fail
          refine HC.out.mono ?_
          rintro e w1 ⟨rfl, d1, hP1, hT1⟩
          have HX := uh (And.intro hP1 hT1)
          clear hT1 hP1 HC
          go_wp2_with fail
          go_meet
          case rel => exact ⟨lim - 1, d1, by congr 1; omega, by omega, HX.out.1, HX.out.2⟩
        · go_wp2_with fail
          go_meet
          case rel => exact ⟨lim, dk, rfl, Nat.le_refl _, permIn_refl _ _ _, HT.out⟩
       case rest =>
        obtain ⟨lim2, d1, rfl, hl2, hP1, hT1⟩ := hcut
        have hs1 : d1.size = d.size := hP1.1.trans hds
        have hc := piv8 g off cap a' b' c0 w0 d1 X wc hT1 (by omega) (by omega) (by omega)
        rw [hs1] at hc
        have HC := uh hc
        have HP1 := uh hP1
        clear hc hT1 HT hP1
        go_upto_if 50 with (go_at_call 251; refine HC.out.mono ?_; rintro e w2 ⟨p, h, rfl, hp1, hp2, hh, hT2⟩; have HT2 := uh hT2; clear hT2)
        clear HC
        go_cut [11, 12] from 19 (fun s11 s12 wc => ∃ (pv h2 : Nat) (d2 : Array Int), s11 = .int .i64 pv ∧ s12 = .int .i64 h2 ∧ a' ≤ pv ∧ pv < b' ∧ PermIn a' b' dk d2 ∧ Ts .u8 5 g off c0 w0 d2 X wc)
        case first =>
         by_cases h2 : h = 2
         · subst h2
           have hc := rev8 g off cap c0 w0 d1 X a' b' w2 HT2.out hab' (by omega) (by omega)
           rw [hs1] at hc
           have HC := uh hc
           clear hc HT2
           go_wp2_with fail
           refine HC.out.mono ?_
           rintro e w3 ⟨rfl, d2, hP2, hT3⟩
           have HX := uh (And.intro (permIn_trans _ _ _ a' b' HP1.out hP2) hT3)
           clear hT3 hP2 HC
           go_wp2_with fail
           go_meet
           case rel => exact ⟨(b' - 1) - (p - a'), 1, d2, by congr 1; omega, rfl, by omega, by omega, HX.out.1, HX.out.2⟩
         · have h2z : ¬ ((h : Int) = 2) := by omega
           go_wp2_with fail
           go_meet
           case rel => exact ⟨p, h, d1, rfl, rfl, hp1, hp2, HP1.out, HT2.out⟩
        case rest =>
         obtain ⟨pv, h2, d2, rfl, rfl, hv1, hv2, hP2, hT3⟩ := hcut
         have hs2 : d2.size = d.size := hP2.1.trans hds
         have HP2 := uh hP2
         have HT3 := uh hT3
         clear hP2 hT3 HP1 HT2 hp1 hp2 hh
         go_upto_region 15 with fail
         go_cut [68] from 19 (fun s68 wx => ∃ t : Bool, s68 = .bool t ∧ wx = wc)
         case first =>
          by_cases h3 : h2 = 1
          · subst h3
            cases wb <;> cases wp <;>
             (go_wp2_with fail
              go_meet
              exact ⟨_, rfl, rfl⟩)
          · have h3z : ((h2 : Int) == 1) = false := by simpa using (by omega : (h2 : Int) ≠ 1)
            cases wb <;> cases wp <;>
             (go_wp2_with fail
              go_meet
              exact ⟨_, rfl, rfl⟩)
         case rest =>
          obtain ⟨t, rfl, rfl⟩ := hcut
          go_upto_if 68 with fail
          go_cut [] from 19 (fun wx => ∃ d3, PermIn a' b' dk d3 ∧ Ts .u8 5 g off c0 w0 d3 X wx)
          case first =>
           cases t
           · go_wp2_with fail
             go_meet
             case rel => exact ⟨d2, HP2.out, HT3.out⟩
           · have hc := par8 g off cap a' b' c0 w0 d2 X wc HT3.out (by omega) (by omega) (by omega) (HBel.out.perm (by omega) HP2.out)
             rw [hs2] at hc
             have HC := uh hc
             clear hc HT3
             go_wp2_with fail
             refine HC.out.mono ?_
             rintro e w4 ⟨r, d3, rfl, hP3, hS3, hT4⟩
             have HX := uh (And.intro (permIn_trans _ _ _ a' b' HP2.out hP3) hT4)
             clear hT4 hP3 HC
             cases r
             · clear hS3
               go_wp2_with fail
               go_meet
               case rel => exact ⟨d3, HX.out.1, HX.out.2⟩
             · have HS := uh (HF.out d3 HX.out.1 (hS3 rfl))
               clear hS3
               go_wp2_with fail
               (try simp only [Exit.inBlock, Exit.then]); refine bodyPost_ret (results_none rfl _ _ _) rfl ?_
               exact ⟨rfl, d3, HS.out, HX.out.2⟩
          case rest =>
           obtain ⟨d3, hP3, hT5⟩ := hcut
           have hs3 : d3.size = d.size := hP3.1.trans hds
           obtain ⟨G, hG⟩ : ∃ G : Nat → Int, ∀ t, G t = d3[t]! := ⟨fun t => d3[t]!, fun _ => rfl⟩
           have hcw : ∀ t, t < d.size → wc.cell? ⟨g, off + t, none⟩ = some (.int .u8 (G t)) := fun t ht => by rw [hG]; exact hT5.cell t (by omega)
           have hfw : ∀ t, t < d.size → wc.frozen? ⟨g, off + t, none⟩ = false := fun t _ => hT5.free t
           have HG := uh hG
           have HB3 := uh (HBel.out.perm (by omega) hP3)
           have HF3 := uh (HF.out.perm hP3)
           have HT5 := uh hT5
           clear hG hP3 hT5 HT3 HP2 HBel HF
           go_upto_region 17 with fail
           go_cut [87] from 19 (fun s87 wx => s87 = .bool (decide (a' > 0) && !ltInt (G (a' - 1)) (G pv)) ∧ Ts .u8 5 g off c0 w0 d3 X wx)
           case first =>
            rcases Nat.eq_zero_or_pos a' with ha0 | ha0
            · have ha0z : decide ((a' : Int) > 0) = false := decide_eq_false (by omega)
              go_big_quiet (first | (go_at_call 254; refine Calls.quiet_of_same (less8 _ _ _)))
              go_wp2_with fail
              go_meet
              case rel => exact ⟨by simp [ha0], HT5.out.drewN nq⟩
            · have ha0z : (a' : Int) > 0 := by omega
              go_big_quiet (first | (go_at_call 254; refine Calls.quiet_of_same (less8 _ _ _)))
              go_wp2_with fail
              go_meet
              case rel => exact ⟨by simp [ha0], HT5.out.drewN nq⟩
           case rest =>
            obtain ⟨rfl, hT6⟩ := hcut
            clear hcw hfw HT5
            cases h87 : (decide (a' > 0) && !ltInt (G (a' - 1)) (G pv))
            · obtain ⟨mid, ap, d4, hx⟩ : ∃ mid ap d4, partition ltInt d3 a' b' pv = (mid, ap, d4) := ⟨(partition ltInt d3 a' b' pv).1, (partition ltInt d3 a' b' pv).2.1, (partition ltInt d3 a' b' pv).2.2, rfl⟩
              obtain ⟨r1, r2, r3, r4, r5, r6, r7⟩ := round_part swo (partition_holds ltInt) hv1 hv2 (show b' ≤ d3.size by omega) HB3.out hx
              have hc := part8 g off cap c0 w0 d3 X a' b' pv wc hT6 hv1 hv2 (by omega) (by omega)
              rw [hs3, hx] at hc
              have HC := uh hc
              have R4 := uh r4
              have R5 := uh r5
              have R6 := uh r6
              have R7 := uh r7
              clear hc hT6 hx r4 r5 r6 r7
              go_upto_if 113 with (go_at_call 256; refine HC.out.mono ?_; rintro e w7 ⟨rfl, hT7⟩; have HT7 := uh hT7; clear hT7)
              clear HC
              have hs4 : d4.size = d.size := r3.trans hs3
              by_cases h4 : mid - a' < b' - mid
              · have h4z : (mid : Int) - (a' : Int) < (b' : Int) - (mid : Int) := by omega
                have hc := IH.out g off cap c0 w0 d4 X a' mid lim2 w7 (by omega) HT7.out (by omega) (by omega) (by omega) (by omega) R4.out
                rw [hs4] at hc
                have HC := uh hc
                clear hc HT7
                go_wp2_with fail
                refine HC.out.mono ?_
                rintro e w8 ⟨rfl, L, ⟨pL, sL⟩, hT8⟩
                have HX := uh (R6.out L pL sL)
                have hsL : L.size = d.size := pL.1.trans hs4
                have HT8 := uh hT8
                clear hT8 HC pL sL R6 R7 R5 R4
                go_wp2_with fail
                go_roundg (b' - (mid + 1))
                case measure => omega
                case rel => exact ⟨mid + 1, b', lim2, decide (mid - a' ≥ (b' - a') / 8), ap, L, by simp, rfl, rfl, congrArg Value.bool (eighth (by omega) (by omega)), rfl, by omega, by omega, Nat.le_refl _, by omega, by omega, hsL, HX.out.1, HT8.out, HF3.out.step HX.out.2⟩
              · have h4z : ¬ ((mid : Int) - (a' : Int) < (b' : Int) - (mid : Int)) := by omega
                have hc := IH.out g off cap c0 w0 d4 X (mid + 1) b' lim2 w7 (by omega) HT7.out (by omega) (by omega) (by omega) (by omega) R5.out
                rw [hs4] at hc
                have HC := uh hc
                clear hc HT7
                go_wp2_with fail
                refine HC.out.mono ?_
                rintro e w8 ⟨rfl, L, ⟨pL, sL⟩, hT8⟩
                have HX := uh (R7.out L pL sL)
                have hsL : L.size = d.size := pL.1.trans hs4
                have HT8 := uh hT8
                clear hT8 HC pL sL R6 R7 R5 R4
                go_wp2_with fail
                go_roundg (mid - a')
                case measure => omega
                case rel => exact ⟨a', mid, lim2, decide (b' - mid ≥ (b' - a') / 8), ap, L, rfl, rfl, rfl, congrArg Value.bool (eighth (by omega) (by omega)), rfl, by omega, by omega, Nat.le_refl _, by omega, by omega, hsL, HX.out.1, HT8.out, HF3.out.step HX.out.2⟩
            · have h87' := h87
              simp only [Bool.and_eq_true, decide_eq_true_eq, Bool.not_eq_true', HG.out] at h87'
              obtain ⟨mid, d4, hx⟩ : ∃ mid d4, partitionEqual ltInt d3 a' b' pv = (mid, d4) := ⟨(partitionEqual ltInt d3 a' b' pv).1, (partitionEqual ltInt d3 a' b' pv).2, rfl⟩
              obtain ⟨r1, r2, r3, r4, r5⟩ := round_eq swo (partitionEqual_holds ltInt) h87'.1 hv1 hv2 (show b' ≤ d3.size by omega) HB3.out h87'.2 hx
              have hc := parteq8 g off cap c0 w0 d3 X a' b' pv wc hT6 hv1 hv2 (by omega) (by omega)
              rw [hs3, hx] at hc
              have HC := uh hc
              have R4 := uh r4
              have R5 := uh r5
              clear hc hT6 hx r4 r5 h87'
              go_wp2_with fail
              refine HC.out.mono ?_
              rintro e w7 ⟨rfl, hT7⟩
              have HT7 := uh hT7
              clear hT7 HC
              go_wp2_with fail
              go_roundg (b' - mid)
              case measure => omega
              case rel => exact ⟨mid, b', lim2, wb, wp, d4, rfl, rfl, rfl, rfl, rfl, r2, hb', Nat.le_refl _, by omega, by omega, r3.trans hs3, R4.out, HT7.out, HF3.out.step R5.out⟩
theorem srt8 (g off cap : Nat) (c0 : Array Value) (w0 : World) (d : Array Int) (X : List Blk) (w : World) (hT : Ts .u8 5 g off c0 w0 d X w) (hsz : d.size < 4611686018427387904) :
  Calls Tryz.prog 170 #[.slice (some ⟨g, off, none⟩) d.size cap] w fun e w' => e = .returned (.tuple #[]) ∧ ∃ d', (PermIn 0 d.size d d' ∧ SortedIn ltInt 0 d.size d') ∧ Ts .u8 5 g off c0 w0 d' X w' := by
 have hk : bitsLen d.size ≤ 62 := (bitsLen_le_iff d.size 62).2 (by omega)
 have Hb := uh (fun w => blen d.size hsz w)
 have Hp := uh (pdq8 (d.size + 1) g off cap c0 w0 d X 0 d.size (bitsLen d.size) w (by omega) hT (Nat.zero_le _) (Nat.le_refl _) hsz (by omega) (Or.inl rfl))
 clear hT
 go_enter Tryz.func170, Tryz.ntmps170
 go_wp2_with (first
  | (go_at_call 220; refine (Hb.out _).mono ?_; rintro e w' ⟨rfl, hw⟩; rw [hw]; clear hw w')
  | fail)
 refine Hp.out.mono ?_
 rintro e w1 ⟨rfl, d', hP, hT1⟩
 have HX := uh (And.intro hP hT1)
 clear hP hT1 Hp Hb
 go_wp2_with fail
 go_end0
 exact ⟨rfl, d', HX.out.1, HX.out.2⟩
theorem insnil8 (w : World) : Calls Tryz.prog 248 #[.slice none 0 0, .int .i64 0, .int .i64 0] w fun e w' => e = .returned (.tuple #[]) ∧ w' = w := by
 go_enter Tryz.func248, Tryz.ntmps248
 go_wp2
 go_loopw [6] (fun v6 wr => v6 = .int .i64 1 ∧ wr = w) (fun _ _ => 0)
 case atStart => exact ⟨rfl, rfl⟩
 case round =>
  obtain ⟨rfl, rfl⟩ := hrel
  go_wp2
  go_end0
  exact ⟨rfl, rfl⟩
theorem pdqnil8 (k : Int) (w : World) : Calls Tryz.prog 219 #[.slice none 0 0, .int .i64 0, .int .i64 0, .int .i64 k] w fun e w' => e = .returned (.tuple #[]) ∧ w' = w := by
 go_enter Tryz.func219, Tryz.ntmps219
 go_wp2
 go_loopw [1, 2, 3, 8, 9] (fun v1 v2 v3 v8 v9 wr => v1 = .int .i64 0 ∧ v2 = .int .i64 0 ∧ v3 = .int .i64 k ∧ v8 = .bool true ∧ v9 = .bool true ∧ wr = w) (fun _ _ _ _ _ _ => 0)
 case atStart => exact ⟨rfl, rfl, rfl, rfl, rfl, rfl⟩
 case round =>
  obtain ⟨rfl, rfl, rfl, rfl, rfl, rfl⟩ := hrel
  go_wp2_with (first
   | (go_at_call 248; refine (insnil8 _).mono ?_; rintro e w' ⟨rfl, hw⟩; rw [hw]; clear hw w')
   | fail)
  (try simp only [Exit.inBlock, Exit.then]); refine bodyPost_ret (results_none rfl _ _ _) rfl ?_
  exact ⟨rfl, rfl⟩
theorem srtnil8 (w : World) : Calls Tryz.prog 170 #[.slice none 0 0] w fun e w' => e = .returned (.tuple #[]) ∧ w' = w := by
 have Hb := uh (fun w => blen 0 (by omega) w)
 go_enter Tryz.func170, Tryz.ntmps170
 go_wp2_with (first
  | (go_at_call 220; refine (Hb.out _).mono ?_; rintro e w' ⟨rfl, hw⟩; rw [hw]; clear hw w')
  | (go_at_call 219; refine (pdqnil8 _ _).mono ?_; rintro e w' ⟨rfl, hw⟩; rw [hw]; clear hw w')
  | fail)
 go_end0
 exact ⟨rfl, rfl⟩
end
section
open Go Go.RowKit Go.IntWalk
theorem cpc8 (g cap n : Nat) (x : Nat) (cur : Array Value) (w : World) (hn : 0 < n) (hnc : n ≤ cap) (hcz : n ≤ cur.size) (hn6 : n < 4611686018427387904) (hc : ∀ j, j < n → cur[j]? = some (.int .u8 x)) (hH : Has w [(g, .cells cur 5 (0, 0))]) :
  Calls Tryz.prog 171 #[.slice (some ⟨g, 0, none⟩) n cap] w fun e w' => ∃ m : Nat, e = .returned (.slice (some ⟨g, 0, none⟩) m cap) ∧ m = 1 ∧ ∃ c : Array Value, c[0]? = some (.int .u8 x) ∧ Turn [(g, .cells cur 5 (0, 0))] w [(g, .cells c 5 (0, 0))] w' := by
 have hcw : ∀ j, j < n → w.cell? ⟨g, j, none⟩ = some (.int .u8 x) := fun j hj => (hH.cell (List.mem_cons_self ..) j).trans (hc j hj)
 by_cases h2 : n < 2
 · obtain rfl : n = 1 := by omega
   have HX := uh (And.intro (hc 0 (by omega)) (Turn.refl hH))
   clear hc hH hcw hcz
   go_enter Tryz.func171, Tryz.ntmps171
   go_wp2
   go_ret
   exact ⟨1, rfl, rfl, cur, HX.out.1, HX.out.2⟩
 · have h2z : ¬ (n : Int) < 2 := by omega
   have c0 := hcw 0 (by omega)
   have c1 := hcw 1 (by omega)
   have hz : ∀ w, (zeroValue 5).run Tryz.prog w = .ok (.int .u8 0) w := fun _ => by kernel_rfl
   have T := Turn.refl hH
   have HF := uh (fun (w' : World) (V : Turn [(g, .cells cur 5 (0, 0))] w [(g, .cells cur 5 (0, 0))] w') => (fun j hj => (V.has.cell (List.mem_cons_self ..) (1 + j)).trans (hc (1 + j) (by omega)) : ∀ j, j < n - 1 → w'.cell? ⟨g, 1 + j, none⟩ = some (.int .u8 x)))
   have HC := uh (fun (w' : World) (V : Turn [(g, .cells cur 5 (0, 0))] w [(g, .cells cur 5 (0, 0))] w') => (by
    obtain ⟨vs, h1, h2⟩ := run_clear_agg (P := Tryz.prog) w' 95 5 0 _ Tryz.underlying95 hz (by simp [Value.cells, Value.oneCell']) g 1 (n - 1) (cap - 1) (by omega) (V.has.there (b := g) (c := cur) (e := 5) (by simp) _ _ (by simp [Value.cells]; omega))
    exact ⟨vs, by simpa [Value.cells] using h1, fun ty => h2⟩ : ∃ vs : List Value, vs.length = n - 1 ∧ ∀ ty, (Builtin.clear_ #[95] ty #[.slice (some ⟨g, 1, none⟩) (n - 1) (cap - 1)]).run Tryz.prog w' = .ok (.tuple #[]) (w'.setCells g 1 vs)))
   have Hx0 := uh (hc 0 (by omega))
   have HT := uh T
   have hci : ¬ cap = 1 := by omega
   have hin : (1 : Int) ≤ (n : Int) := by omega
   clear T hc hH hcw hz
   go_enter Tryz.func171, Tryz.ntmps171
   go_wp2
   go_loopw [3] (fun v3 wr => v3 = .int .i64 1 ∧ wr = w) (fun _ _ => 0)
   case atStart => exact ⟨rfl, rfl⟩
   case round =>
    obtain ⟨rfl, rfl⟩ := hrel
    go_wp2
    go_quiet (fail)
    have HT1 := uh (HT.out.drewN nq)
    clear HT c0 c1
    generalize wr.drewN nq = w1 at *
    go_wp2
    go_loopw [3, 5] (fun v3 v5 wr2 => ∃ k : Nat, v3 = .int .i64 1 ∧ v5 = .int .i64 k ∧ 1 ≤ k ∧ k ≤ n - 1 ∧ Turn [(g, .cells cur 5 (0, 0))] wr [(g, .cells cur 5 (0, 0))] wr2) (fun _ v5 _ => n - (intOf v5).toNat)
    case atStart => exact ⟨1, rfl, rfl, Nat.le_refl _, by omega, HT1.out⟩
    case round =>
     clear HT1
     obtain ⟨k, rfl, rfl, hk1, hkn, hT⟩ := hrel
     by_cases hlt : k < n - 1
     · have hlt' : (k : Int) < ((n - 1 : Nat) : Int) := by omega
       have hlt2 : (k : Int) < (n : Int) - 1 := by omega
       have hfm := HF.out _ hT
       have r1 := hfm k hlt
       have r2 : wr.cell? ⟨g, k, none⟩ = some (.int .u8 x) := by have h := hfm (k - 1) (by omega); rwa [show 1 + (k - 1) = k by omega] at h
       have r3 := hfm (k - 1) (by omega)
       have HT2 := uh hT
       clear hT
       go_wp2
       go_quiet (fail)
       go_wp2
       go_roundw
       case rel => exact ⟨k + 1, rfl, by go_num, by omega, by omega, HT2.out.drewN _⟩
       case measure => simp [intOf]; omega
     · obtain rfl : k = n - 1 := by omega
       obtain ⟨vs, hvl, hclr⟩ := HC.out _ hT
       have HT2 := uh (Turn.setCells vs 1 cur _ hT)
       clear hT hvl
       go_wp2
       go_ret
       exact ⟨1, rfl, rfl, laidOver cur 1 vs, by rw [laidOver_out _ _ _ _ (.inl (by omega))]; exact Hx0.out, HT2.out⟩
def sames (m x : Nat) : List Nat := List.replicate m x
theorem rise8 (w : World) (n cap x : Nat) (ao : Option Addr) (l : List Blk) (hr : Row 5 1 ao n cap (u8s (sames n x)) l) (hH : Has w l) (hn6 : n < 4611686018427387904) :
  Calls Tryz.prog 104 #[.slice ao n cap] w fun e w' => ∃ (m : Nat) (l' : List Blk), m ≤ 1 ∧ e = .returned (.slice ao m cap) ∧ Src w' ao m cap 1 (u8s (sames m x)) ∧ Turn l w l' w' := by
 by_cases hn : n = 0
 · subst hn
   obtain ⟨hx, hc, hm, h | ⟨g, cur, rfl, rfl, hcs, htk⟩⟩ := hr
   · obtain ⟨rfl, rfl, rfl⟩ := h
     have Hc : ∀ w, Calls Tryz.prog 171 #[.slice none 0 0] w fun e w' => e = .returned (.slice none 0 0) ∧ w' = w := fun w => by
      go_enter Tryz.func171, Tryz.ntmps171
      go_wp2
      go_ret
      exact ⟨rfl, rfl⟩
     have HC := uh Hc
     clear Hc
     go_enter Tryz.func104, Tryz.ntmps104
     go_wp2_with (first
      | (go_at_call 170; refine (srtnil8 _).mono ?_; rintro e w' ⟨rfl, hw⟩; rw [hw]; clear hw w')
      | (go_at_call 171; refine (HC.out _).mono ?_; rintro e w' ⟨rfl, hw⟩; rw [hw]; clear hw w')
      | fail)
     go_ret
     exact ⟨0, [], by omega, rfl, ⟨rfl, fun _ => ⟨rfl, rfl⟩, fun ad h => (by cases h)⟩, Turn.refl hH⟩
   · have hcur : cap * 1 ≤ cur.size := hcs
     have Hs := uh (srt8 g 0 cap cur w #[] [] w (Ts.refl (d := #[]) hH (fun j hj => by simp at hj)) (by simp))
     simp only [List.size_toArray, List.length_nil] at Hs
     have Hc : ∀ w, Calls Tryz.prog 171 #[.slice (some ⟨g, 0, none⟩) 0 cap] w fun e w' => e = .returned (.slice (some ⟨g, 0, none⟩) 0 cap) ∧ w' = w := fun w => by
      go_enter Tryz.func171, Tryz.ntmps171
      go_wp2
      go_ret
      exact ⟨rfl, rfl⟩
     have HC := uh Hc
     clear Hc
     go_enter Tryz.func104, Tryz.ntmps104
     go_wp2_with fail
     refine Hs.out.mono ?_
     rintro e w1 ⟨rfl, d', hP, c, h1, h2, hT⟩
     have HT := uh hT
     clear hP h1 h2 hT Hs
     go_wp2_with (first
      | (go_at_call 171; refine (HC.out _).mono ?_; rintro e w' ⟨rfl, hw⟩; rw [hw]; clear hw w')
      | fail)
     go_ret
     exact ⟨0, _, by omega, rfl, ⟨rfl, fun h => (by cases h), fun ad _ j u hj => by simp [u8s, sames] at hj⟩, HT.out⟩
 · obtain ⟨g, cur, rfl, rfl, hcs, htk⟩ := hr.some_of (by omega)
   have hnc := hr.2.1
   have hcur : ∀ j, j < n → cur[j]? = some (.int .u8 x) := fun j hj => by
    rw [take_get htk j (by omega)]
    exact u8s_at (by unfold sames; rw [List.getElem?_replicate, if_pos hj])
   obtain ⟨d, hd⟩ : ∃ d : Array Int, d = Array.replicate n (x : Int) := ⟨_, rfl⟩
   have hds : d.size = n := by rw [hd]; simp
   have hdx : ∀ j, j < n → d[j]! = (x : Int) := fun j hj => by rw [hd, getElem!_pos _ _ (by simpa using hj)]; simp
   have hs := srt8 g 0 cap cur w d [] w (Ts.refl hH (fun j hj => by rw [Nat.zero_add, hcur j (by omega), hdx j (by omega)])) (by omega)
   rw [hds] at hs
   have Hs := uh hs
   have Hall := uh (fun (d' : Array Int) (hP : Sort.PermIn 0 n d d') (j : Nat) (hj : j < n) => Sort.permIn_all d d' 0 n (fun y => y = (x : Int)) (by omega) hP (fun i _ hi => hdx i hi) j (Nat.zero_le _) hj)
   have HD := uh hds
   clear hs hcur hdx hd hH hds htk hr
   go_enter Tryz.func104, Tryz.ntmps104
   go_wp2_with fail
   refine Hs.out.mono ?_
   rintro e w1 ⟨rfl, d', ⟨hP, -⟩, c, h1, h2, hT⟩
   have hc2 : ∀ j, j < n → c[j]? = some (.int .u8 x) := fun j hj => by
    have h3 := h2 j (by rw [hP.1, HD.out]; exact hj)
    rw [Nat.zero_add, Hall.out d' hP j hj] at h3
    exact h3
   have Hc := uh (cpc8 g cap n x c w1 (by omega) hnc (by rw [h1]; omega) hn6 hc2 hT.has)
   have HT := uh hT
   clear h1 h2 hT hc2 hP Hs Hall
   go_wp2_with fail
   refine Hc.out.mono ?_
   rintro e w2 ⟨m, rfl, rfl, c2, h0, hT2⟩
   have HX := uh (And.intro h0 (HT.out.trans hT2))
   clear h0 hT2 HT Hc
   go_wp2_with fail
   go_ret
   refine ⟨1, _, Nat.le_refl _, rfl, ⟨rfl, fun h => (by cases h), fun ad ha j u hj => ?_⟩, HX.out.2⟩
   cases ha
   have hj0 : j = 0 := by
    have := (List.getElem?_eq_some_iff.1 hj).1
    simp [u8s, sames] at this
    omega
   subst hj0
   have hu : u = .int .u8 x := by simpa [u8s, sames] using hj.symm
   rw [hu, add_lit]
   exact (HX.out.2.cell1 0).trans HX.out.1
theorem sames_snoc (i x : Nat) : u8s (sames (i + 1) x) = u8s (sames i x) ++ [.int .u8 x] := by
 unfold u8s sames
 rw [List.replicate_succ', List.map_append]
 rfl
theorem akinds (w : World) (l : List Br) (x : Nat) (hx : ∀ b ∈ l, b.1 = x) (ao : Option Addr) (cap : Nat) (hS : Src w ao l.length cap 5 (brs l)) (hl : l.length ≤ 2147483648) :
  Calls Tryz.prog 37 #[.slice ao l.length cap] w fun e w' => ∃ (m : Nat) (a2 : Option Addr) (p2 : Nat) (l' : List Blk), m ≤ 1 ∧ e = .returned (.slice a2 m p2) ∧ Src w' a2 m p2 1 (u8s (sames m x)) ∧ Turn [] w l' w' := by
 have hszB := sz_breach
 have HS := uh hS
 have Hx := uh (fun (i : Nat) (b : Br) (h : l[i]? = some b) => hx b (List.mem_of_getElem? h))
 have hT0 := uh (Turn.refl (Has.nil w))
 clear hS hx
 go_enter Tryz.func37, Tryz.ntmps37
 go_wp2_with fail
 go_loopw [2, 7] (fun v2 v7 wr => ∃ (i : Nat) (a2 : Option Addr) (p2 : Nat) (lr lj : List Blk), i ≤ l.length ∧ v7 = .int .i64 i ∧ v2 = .slice a2 i p2 ∧ Row 5 1 a2 i p2 (u8s (sames i x)) lr ∧ Turn [] w (lr ++ lj) wr) (fun _ v7 _ => l.length - (intOf v7).toNat)
 case atStart => exact ⟨0, none, 0, [], [], Nat.zero_le _, by go_num, rfl, Row.nil _ _, hT0.out⟩
 case round =>
  clear hT0
  obtain ⟨i, a2, p2, lr, lj, hi, rfl, rfl, hr2, V⟩ := hrel
  by_cases hlt : i < l.length
  · have hlt' : (i : Int) < (l.length : Int) := by omega
    obtain ⟨b0, hb⟩ : ∃ b, l[i]? = some b := ⟨l[i], List.getElem?_eq_getElem hlt⟩
    have hk := Hx.out i b0 hb
    obtain ⟨k, bat, bsl, bwho, bwhy⟩ := b0
    simp only at hk
    subst hk
    have hS := HS.out.below V.below
    obtain ⟨b, off, rfl, -⟩ := hS.form (by rw [brs_length]; omega)
    have hrg : wr.rangeAt b (off + i * 5) [.int .u8 k, .int .i64 bat, .int .i64 bsl, .int .u64 bwho, .int .i64 bwhy] := Src.fm (f := brCells) (fun _ => rfl) hS hb
    have T3 := V.alloc (.cells #[.int .u8 0, .int .i64 0, .int .i64 0, .int .u64 0, .int .i64 0] 60)
    have hth : (wr.alloc (.cells #[.int .u8 0, .int .i64 0, .int .i64 0, .int .u64 0, .int .i64 0] 60)).there wr.heap.size 0 5 := T3.there1
    have HT3 := uh (T3.laid [.int .u8 k, .int .i64 bat, .int .i64 bsl, .int .u64 bwho, .int .i64 bwhy] rfl)
    have hoB : (#[.int .u8 k, .int .i64 bat, .int .i64 bsl, .int .u64 bwho, .int .i64 bwhy] : Array Value).all (·.oneCell') = true := all_one (cs := [.int .u8 k, .int .i64 bat, .int .i64 bsl, .int .u64 bwho, .int .i64 bwhy]) (by simp [Value.oneCell'])
    have Hr2 := uh hr2
    have h63 : i + 1 ≤ maxLen := by unfold maxLen; omega
    have hby : (i + 1) * 1 ≤ 140737488355328 := by omega
    clear T3 V hb hr2 hS
    go_wp2_with (first
     | (show lW 60; refine wpList_load_mid rfl 60 _ rfl b (off + i * 5) rfl [.int .u8 k, .int .i64 bat, .int .i64 bsl, .int .u64 bwho, .int .i64 bwhy] _ hrg Tryz.underlying60 rfl hszB ?_; clear hrg)
     | (show sW 60; refine wpList_store_mid rfl 60 _ _ rfl wr.heap.size 0 #[.int .u8 k, .int .i64 bat, .int .i64 bsl, .int .u64 bwho, .int .i64 bwhy] rfl rfl hth hszB hoB ?_; clear hth; generalize (wr.alloc (.cells #[.int .u8 0, .int .i64 0, .int .i64 0, .int .u64 0, .int .i64 0] 60)).setCells wr.heap.size 0 [.int .u8 k, .int .i64 bat, .int .i64 bsl, .int .u64 bwho, .int .i64 bwhy] = w3 at *; generalize wr.heap.size = nb at *; have q0 := HT3.out.cell1 0)
     | (at_builtin; have T6 := uh (HT3.out.alloc (.cells #[.int .u8 k] 5)); refine wpList_append_row rfl _ _ rfl el_u8 rfl Hr2.out (R := (w3.heap.size, .cells #[.int .u8 k] 5) :: (nb, .cells #[.int .u8 k, .int .i64 bat, .int .i64 bsl, .int .u64 bwho, .int .i64 bwhy] 60) :: lj) (T6.out.perm po).has rfl (news := [.int .u8 k]) rfl (news_of (heap_alloc_new _ _)) (by simp [Value.oneCell']) h63 hby ?_; intro a9 p9 l9 w8 hr9 V9 hno; have HV9 := uh ((T6.out.perm po).trans V9); have Hr9 := uh hr9; clear V9 hr9 hno)
     | fail)
    go_roundw
    case rel => exact ⟨i + 1, a9, p9, l9, _, by omega, by go_num, rfl, by rw [sames_snoc]; exact Hr9.out, HV9.out⟩
    case measure => simp [intOf]; omega
  · obtain rfl : i = l.length := by omega
    have hnl : ¬ ((l.length : Nat) : Int) < (l.length : Int) := by omega
    have Hr := uh (rise8 wr l.length p2 x a2 lr hr2 V.has.left (by omega))
    have HV := uh V
    clear hr2 V
    go_wp2_with fail
    refine Hr.out.mono ?_
    rintro e w2 ⟨m, l', hm, rfl, hs, hT⟩
    have HX := uh (And.intro hs (HV.out.trans (hT.more HV.out.has)))
    clear hs hT HV Hr
    go_wp2_with fail
    go_ret
    exact ⟨m, a2, p2, _, hm, rfl, HX.out.1, HX.out.2⟩
end
end Go.Proofs.YtbecgkejdacidaaGreatDoor
